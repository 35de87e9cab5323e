/-
  The law FnExactAddChange returns true for every input. No condition. Printed by gen_xadd.py.
-/
import Derived.Test.YtlkccijlbeibjaaQExactAddChange14
import Derived.Test.YtlkccijlbeibjaaQExactAddChange2
import Derived.Test.YtlkccijlbeibjaaRows
import Derived.Test.YtlkccijlbeibjaaQExactAddChange6
import Derived.ProofKit
import Derived.OpenShut
import Derived.Deep.RegionHeld3
import Derived.Deep.DeepCutAuto
namespace Go.Proofs.Ytlkccijlbeibjaa
open Go.ChangeShapes Go.WideShapes Go.ChangeAt Go.RowKit

set_option maxRecDepth 100000 in
set_option maxHeartbeats 16000000 in
theorem xAddChange_walk (x : TZ) (v : Value) (y : T3) (w : World) (hr : R_Zoned w w.heap.size v x) (hn : Len_Zoned x) (hf : Fit_Zoned x) (hy : y.Fits) :
    Calls Try.prog 3 #[v, .agg #[.int .i64 y.a, .int .i64 y.b, .int .i64 y.c]] w fun e w' => e = .returned (.bool true) ∧ Below w.heap.size w w' := by
  have hr0 := hr
  obtain ⟨A, c, B, d, rfl, _, _⟩ := hr0
  have X0 := hide (show XP w x A c B d y ((w.alloc (.cells #[.int .i64 x.z, .slice A x.of.length c, .slice B x.ch.length d] 25)).alloc (.cells #[.int .i64 y.a, .int .i64 y.b, .int .i64 y.c] 27)) from ⟨(BoxN.new w _ _).alloc _, by have h := BoxN.new (w.alloc (.cells #[.int .i64 x.z, .slice A x.of.length c, .slice B x.ch.length d] 25)) #[.int .i64 y.a, .int .i64 y.b, .int .i64 y.c] 27; simpa using h, (by repeat (first | exact Below.refl _ _ | assumption | (refine Below.alloc ?_ (by simp <;> omega) _) | refine Below.drew ?_ | refine bdn ?_ _)), by simp⟩)
  have HSZ := hide fun W (hW : Below w.heap.size w W) => L_sz_Zoned x (.agg #[.int .i64 x.z, .slice A x.of.length c, .slice B x.ch.length d]) 1048576 w.heap.size W hn (by omega) (by omega) (hr.below hW)
  by_cases g0 : (size_Zoned x : Int) ≤ 1048576
  case neg =>
    have hsz := hide (szF_no (n := size_Zoned x) (left := 1048576) (by omega))
    go_enter Try.func3, Try.ntmps3
    go_upto_region 1 with fail
    generalize ((w.alloc (.cells #[.int .i64 x.z, .slice A x.of.length c, .slice B x.ch.length d] 25)).alloc (.cells #[.int .i64 y.a, .int .i64 y.b, .int .i64 y.c] 27)) = w1 at *
    have x0 : w1.cell? ⟨w.heap.size, 0, none⟩ = some (.int .i64 x.z) := X0.out.p.cell 0
    have x1 : w1.cell? ⟨w.heap.size, 1, none⟩ = some (.slice A x.of.length c) := X0.out.p.cell 1
    have x2 : w1.cell? ⟨w.heap.size, 2, none⟩ = some (.slice B x.ch.length d) := X0.out.p.cell 2
    go_wp2_with (go_at_call 7; (with_reducible refine (HSZ.out _ X0.out.bel).mono ?_); rintro e w2 ⟨rfl, s2⟩; rw [hsz.out])
    go_ret
    exact ⟨rfl, X0.out.bel.trans (s2.mono X0.out.bel.size)⟩
  have hs : Small_Zoned x := small_Zoned (by omega)
  have hsz := hide (szF_yes (n := size_Zoned x) (left := 1048576) (by omega))
  have hsz2 : ¬ ((1048576 : Int) - (size_Zoned x : Int) < 0) := by omega
  have HR := hide hr
  have HTO := hide fun W (h : XP w x A c B d y W) => L_to_Zoned x (.agg #[.int .i64 x.z, .slice A x.of.length c, .slice B x.ch.length d]) W hs ((hr.below h.bel).more h.bel.size)
  obtain ⟨r, hrr⟩ : ∃ r, r = (addChange x y).1 := ⟨_, rfl⟩
  obtain ⟨cd, hcd⟩ : ∃ cd, cd = (addChange x y).2 := ⟨_, rfl⟩
  have HS := hide fun W v (h : R_Zoned W W.heap.size v x) hc => S_AddChange x v y W hs hf h hc hy
  have HP := hide fun W v (h : R_Zoned W W.heap.size v x) hc => P_AddChange x v y W hs hf h hc hy
  rw [← hrr, ← hcd] at HS HP
  clear hr hrr hcd
  go_enter Try.func3, Try.ntmps3
  go_upto_region 1 with fail
  generalize ((w.alloc (.cells #[.int .i64 x.z, .slice A x.of.length c, .slice B x.ch.length d] 25)).alloc (.cells #[.int .i64 y.a, .int .i64 y.b, .int .i64 y.c] 27)) = w1 at *
  have x0 : w1.cell? ⟨w.heap.size, 0, none⟩ = some (.int .i64 x.z) := X0.out.p.cell 0
  have x1 : w1.cell? ⟨w.heap.size, 1, none⟩ = some (.slice A x.of.length c) := X0.out.p.cell 1
  have x2 : w1.cell? ⟨w.heap.size, 2, none⟩ = some (.slice B x.ch.length d) := X0.out.p.cell 2
  go_upto_region 5 with (go_at_call 7; (with_reducible refine (HSZ.out _ X0.out.bel).mono ?_); rintro e w2 ⟨rfl, s2⟩; rw [hsz.out])
  have X2 := hide (X0.out.below s2)
  clear X0 s2 x0 x1 x2 HSZ
  go_cut [6, 7] (fun c1 c2 wx => ∃ b Ar cr Br dr, c1 = .pointer (some ⟨b, 0, none⟩) ∧ c2 = .int .i64 cd ∧ Hid (Below w2.heap.size w2 wx) ∧ Hid (ZB wx w2.heap.size wx.heap.size b #[.int .i64 r.z, .slice Ar r.of.length cr, .slice Br r.ch.length dr] r))
  case first =>
    have XD := hide (X2.out.below (Below.refl _ _).drew)
    have BD : Hid (Below w2.heap.size w2 w2.drew) := (Below.refl _ _).drew
    have zD : w2.heap.size ≤ w2.drew.heap.size := Nat.le_refl _
    refine wp_region_held_drew (S := fun W => W.cell? ⟨w.heap.size, 0, none⟩ = some (.int .i64 x.z) ∧ W.cell? ⟨w.heap.size, 1, none⟩ = some (.slice A x.of.length c) ∧ W.cell? ⟨w.heap.size, 2, none⟩ = some (.slice B x.ch.length d) ∧ W.cell? ⟨w.heap.size + 1, 0, none⟩ = some (.int .i64 y.a) ∧ W.cell? ⟨w.heap.size + 1, 1, none⟩ = some (.int .i64 y.b) ∧ W.cell? ⟨w.heap.size + 1, 2, none⟩ = some (.int .i64 y.c)) (by kernel_rfl) (⟨XD.out.p.cell 0, XD.out.p.cell 1, XD.out.p.cell 2, XD.out.q.cell 0, XD.out.q.cell 1, XD.out.q.cell 2⟩) (fun hHeld => ?_)
    generalize w2.drew = wd at *
    refine wpAnyH_take (i := 0) (v := ?_) rfl (by kernel_rfl) (by kernel_rfl) (by kernel_rfl) (fun _ _ _ h => h) (Or.inl ⟨by rfl, ?_⟩) (by assumption) ?_
    rotate_left 1
    · (intro w hSw; (try dsimp only at hSw); go_simp; try with_reducible rfl)
    try simp only [Act.put, List.getElem_toArray, List.getElem_cons_succ, List.getElem_cons_zero, List.setIfInBounds_toArray, List.set_cons_zero, List.set_cons_succ]
    refine wpAnyH_take (i := 2) (v := ?_) rfl (by kernel_rfl) (by kernel_rfl) (by kernel_rfl) (fun _ _ _ h => h) (Or.inl ⟨by rfl, ?_⟩) (by assumption) ?_
    rotate_left 1
    · (intro w hSw; (try dsimp only at hSw); go_simp; try with_reducible rfl)
    try simp only [Act.put, List.getElem_toArray, List.getElem_cons_succ, List.getElem_cons_zero, List.setIfInBounds_toArray, List.set_cons_zero, List.set_cons_succ]
    refine wpAnyH_ready (rs := [1, 8]) (by kernel_rfl) (by simp) ?_
    refine AllReadyH.cons rfl (fun K hK => ?_) (AllReadyH.cons rfl (fun K hK => ?_) AllReadyH.nil)
    · try simp only [Act.put, List.getElem_toArray, List.getElem_cons_succ, List.getElem_cons_zero, List.setIfInBounds_toArray, List.set_cons_zero, List.set_cons_succ]
      go_simp
      go_at_call 9
      refine (HTO.out _ XD.out).mono ?_
      rintro e e1 ⟨tv, rfl, ot, s1⟩
      obtain ⟨At, ct, Bt, dt, rfl, _, _⟩ := ot.r
      have OT1 := hide ot
      clear ot
      have z1 := s1.size
      have X1_ := hide (XD.out.below s1)
      have B1_ := hide (BD.out.trans (s1.mono (by have := BD.out.size; omega)))
      dsimp only
      refine hK.out _ _ (⟨X1_.out.p.cell 0, X1_.out.p.cell 1, X1_.out.p.cell 2, X1_.out.q.cell 0, X1_.out.q.cell 1, X1_.out.q.cell 2⟩) (fun hHeld => ?_)
      clear hK K
      try simp only [Act.put, List.getElem_toArray, List.getElem_cons_succ, List.getElem_cons_zero, List.setIfInBounds_toArray, List.set_cons_zero, List.set_cons_succ]
      refine wpAnyH_ready (rs := [3, 8]) (by kernel_rfl) (by simp) ?_
      refine AllReadyH.cons rfl (fun K hK => ?_) (AllReadyH.cons rfl (fun K hK => ?_) AllReadyH.nil)
      · try simp only [Act.put, List.getElem_toArray, List.getElem_cons_succ, List.getElem_cons_zero, List.setIfInBounds_toArray, List.set_cons_zero, List.set_cons_succ]
        go_simp
        go_at_call 10
        refine (toChange_any y _).mono ?_
        rintro e e2 ⟨rfl, s2⟩
        have OT2 := hide (OT1.out.below s2 (by omega))
        have z2 := s2.size
        have X2_ := hide (X1_.out.below s2)
        have B2_ := hide (B1_.out.trans (s2.mono (by have := B1_.out.size; omega)))
        dsimp only
        refine hK.out _ _ (⟨X2_.out.p.cell 0, X2_.out.p.cell 1, X2_.out.p.cell 2, X2_.out.q.cell 0, X2_.out.q.cell 1, X2_.out.q.cell 2⟩) (fun hHeld => ?_)
        clear hK K
        try simp only [Act.put, List.getElem_toArray, List.getElem_cons_succ, List.getElem_cons_zero, List.setIfInBounds_toArray, List.set_cons_zero, List.set_cons_succ]
        refine wpAnyH_ready (rs := [4, 8]) (by kernel_rfl) (by simp) ?_
        refine AllReadyH.cons rfl (fun K hK => ?_) (AllReadyH.cons rfl (fun K hK => ?_) AllReadyH.nil)
        · try simp only [Act.put, List.getElem_toArray, List.getElem_cons_succ, List.getElem_cons_zero, List.setIfInBounds_toArray, List.set_cons_zero, List.set_cons_succ]
          go_simp
          go_at_call 8
          refine (HS.out _ _ (OT2.out.r) (capZ_of OT2.out)).mono ?_
          rintro e e3 ⟨rv, rfl, orr, s3⟩
          obtain ⟨Ar, cr, Br, dr, rfl, _, _⟩ := orr.r
          have OR3 := hide orr
          clear orr
          have z3 := s3.size
          have X3_ := hide (X2_.out.below s3)
          have B3_ := hide (B2_.out.trans (s3.mono (by have := B2_.out.size; omega)))
          dsimp only
          refine hK.out _ _ (⟨X3_.out.p.cell 0, X3_.out.p.cell 1, X3_.out.p.cell 2, X3_.out.q.cell 0, X3_.out.q.cell 1, X3_.out.q.cell 2⟩) (fun hHeld => ?_)
          clear hK K
          try simp only [Act.put, List.getElem_toArray, List.getElem_cons_succ, List.getElem_cons_zero, List.setIfInBounds_toArray, List.set_cons_zero, List.set_cons_succ]
          refine wpAnyH_take (i := 5) (v := ?_) rfl (by kernel_rfl) (by kernel_rfl) (by kernel_rfl) (fun _ _ _ h => h) (Or.inl ⟨by rfl, ?_⟩) (by assumption) ?_
          rotate_left 1
          · (intro w hSw; (try dsimp only at hSw); go_simp; try with_reducible rfl)
          try simp only [Act.put, List.getElem_toArray, List.getElem_cons_succ, List.getElem_cons_zero, List.setIfInBounds_toArray, List.set_cons_zero, List.set_cons_succ]
          refine wpAnyH_take (i := 6) (v := ?_) rfl (by kernel_rfl) (by kernel_rfl) (by kernel_rfl) (fun _ _ _ h => h) (Or.inl ⟨by rfl, ?_⟩) (by assumption) ?_
          rotate_left 1
          · (intro w hSw; (try dsimp only at hSw); go_simp; try with_reducible rfl)
          try simp only [Act.put, List.getElem_toArray, List.getElem_cons_succ, List.getElem_cons_zero, List.setIfInBounds_toArray, List.set_cons_zero, List.set_cons_succ]
          refine wpAnyH_take (i := 7) (v := ?_) rfl (by kernel_rfl) (by kernel_rfl) (by kernel_rfl) (fun _ _ _ h => h) (Or.inl ⟨by rfl, ?_⟩) (by assumption) ?_
          rotate_left 1
          · (intro w hSw; (try dsimp only at hSw); go_simp; try with_reducible rfl)
          try simp only [Act.put, List.getElem_toArray, List.getElem_cons_succ, List.getElem_cons_zero, List.setIfInBounds_toArray, List.set_cons_zero, List.set_cons_succ]
          refine wpAnyH_ready (rs := [8]) (by kernel_rfl) (by simp) ?_
          refine AllReadyH.cons rfl (fun K hK => ?_) AllReadyH.nil
          try simp only [Act.put, List.getElem_toArray, List.getElem_cons_succ, List.getElem_cons_zero, List.setIfInBounds_toArray, List.set_cons_zero, List.set_cons_succ]
          go_simp
          have s4 : Below e3.heap.size e3 (e3.alloc (.cells #[.int .i64 0, .slice none 0 0, .slice none 0 0] 31)) := (Below.refl _ _).alloc (Nat.le_refl _) _
          have z4 : e3.heap.size + 1 = (e3.alloc (.cells #[.int .i64 0, .slice none 0 0, .slice none 0 0] 31)).heap.size := by simp
          have X4_ := hide (X3_.out.below s4)
          have B4_ := hide (B3_.out.trans (s4.mono (by have := B3_.out.size; omega)))
          have N4 := hide (BoxN.new e3 #[.int .i64 0, .slice none 0 0, .slice none 0 0] 31)
          have OR4 := hide (OR3.out.below s4 (by omega))
          refine hK.out _ _ (⟨X4_.out.p.cell 0, X4_.out.p.cell 1, X4_.out.p.cell 2, X4_.out.q.cell 0, X4_.out.q.cell 1, X4_.out.q.cell 2⟩) (fun hHeld => ?_)
          clear hK K
          try simp only [Act.put, List.getElem_toArray, List.getElem_cons_succ, List.getElem_cons_zero, List.setIfInBounds_toArray, List.set_cons_zero, List.set_cons_succ]
          generalize (e3.alloc (.cells #[.int .i64 0, .slice none 0 0, .slice none 0 0] 31)) = e4 at *
          obtain ⟨nb, hnb⟩ : ∃ nb, nb = e3.heap.size := ⟨_, rfl⟩
          have NN := N4
          rw [← hnb] at NN ⊢
          have hnb5 : w2.heap.size ≤ nb := by have := BD.out.size; omega
          have hnb6 : nb < e4.heap.size := NN.out.lt
          have hlo5 : w2.heap.size ≤ e2.heap.size := by have := BD.out.size; omega
          have hhi5 : e3.heap.size ≤ e4.heap.size := by omega
          have hdis : nb < e2.heap.size ∨ e3.heap.size ≤ nb := by omega
          have ZN := hide (ZB.stored NN.out OR4.out hlo5 hhi5 hnb5 hnb6 hdis)
          have hwl : w2.heap.size ≤ nb := hnb5
          have m0 : e4.cell? ⟨nb, 0, none⟩ = some (.int .i64 0) := NN.out.cell 0
          have n0 := NN.out.fro 0
          have T0 := hide (NN.out.set 0 (.int .i64 r.z))
          have m1 : (e4.setCell ⟨nb, 0, none⟩ (.int .i64 r.z)).cell? ⟨nb, 1, none⟩ = some (.slice none 0 0) := T0.out.cell 1
          have n1 := T0.out.fro 1
          have T1 := hide (T0.out.set 1 (.slice Ar r.of.length cr))
          have m2 : ((e4.setCell ⟨nb, 0, none⟩ (.int .i64 r.z)).setCell ⟨nb, 1, none⟩ (.slice Ar r.of.length cr)).cell? ⟨nb, 2, none⟩ = some (.slice none 0 0) := T1.out.cell 2
          have n2 := T1.out.fro 2
          have T2 := hide (T1.out.set 2 (.slice Br r.ch.length dr))
          have BE := hide (((B4_.out.setCell (p := ⟨nb, 0, none⟩) (by dsimp only; omega) (.int .i64 r.z)).setCell (p := ⟨nb, 1, none⟩) (by dsimp only; omega) (.slice Ar r.of.length cr)).setCell (p := ⟨nb, 2, none⟩) (by dsimp only; omega) (.slice Br r.ch.length dr))
          have XE := hide (X2.out.belowB BE.out X2.out.sz)
          clear hnb
          refine wpAnyH_ready (rs := [9]) (by kernel_rfl) (by simp) ?_
          refine AllReadyH.cons rfl (fun K hK => ?_) AllReadyH.nil
          try simp only [Act.put, List.getElem_toArray, List.getElem_cons_succ, List.getElem_cons_zero, List.setIfInBounds_toArray, List.set_cons_zero, List.set_cons_succ]
          go_simp
          refine hK.out _ _ (⟨XE.out.p.cell 0, XE.out.p.cell 1, XE.out.p.cell 2, XE.out.q.cell 0, XE.out.q.cell 1, XE.out.q.cell 2⟩) (fun hHeld => ?_)
          clear hK K
          try simp only [Act.put, List.getElem_toArray, List.getElem_cons_succ, List.getElem_cons_zero, List.setIfInBounds_toArray, List.set_cons_zero, List.set_cons_succ]
          refine wpAnyH_take (i := 10) (v := ?_) rfl (by kernel_rfl) (by kernel_rfl) (by kernel_rfl) (fun _ _ _ h => h) (Or.inl ⟨by rfl, ?_⟩) (by assumption) ?_
          rotate_left 1
          · (intro w hSw; (try dsimp only at hSw); go_simp; try with_reducible rfl)
          try simp only [Act.put, List.getElem_toArray, List.getElem_cons_succ, List.getElem_cons_zero, List.setIfInBounds_toArray, List.set_cons_zero, List.set_cons_succ]
          refine wpAnyH_done (by kernel_rfl) ?_ _
          go_wp2_with fail
          go_meet
          exact ⟨nb, Ar, cr, Br, dr, rfl, rfl, BE, hide (by have h := ZN.out; simpa using h)⟩
        · try simp only [Act.put, List.getElem_toArray, List.getElem_cons_succ, List.getElem_cons_zero, List.setIfInBounds_toArray, List.set_cons_zero, List.set_cons_succ]
          go_simp
          have s5 : Below e2.heap.size e2 (e2.alloc (.cells #[.int .i64 0, .slice none 0 0, .slice none 0 0] 31)) := (Below.refl _ _).alloc (Nat.le_refl _) _
          have z5 : e2.heap.size + 1 = (e2.alloc (.cells #[.int .i64 0, .slice none 0 0, .slice none 0 0] 31)).heap.size := by simp
          have X5_ := hide (X2_.out.below s5)
          have B5_ := hide (B2_.out.trans (s5.mono (by have := B2_.out.size; omega)))
          have N5 := hide (BoxN.new e2 #[.int .i64 0, .slice none 0 0, .slice none 0 0] 31)
          have OT5 := hide (OT2.out.below s5 (by omega))
          refine hK.out _ _ (⟨X5_.out.p.cell 0, X5_.out.p.cell 1, X5_.out.p.cell 2, X5_.out.q.cell 0, X5_.out.q.cell 1, X5_.out.q.cell 2⟩) (fun hHeld => ?_)
          clear hK K
          try simp only [Act.put, List.getElem_toArray, List.getElem_cons_succ, List.getElem_cons_zero, List.setIfInBounds_toArray, List.set_cons_zero, List.set_cons_succ]
          generalize (e2.alloc (.cells #[.int .i64 0, .slice none 0 0, .slice none 0 0] 31)) = e5 at *
          refine wpAnyH_ready (rs := [4]) (by kernel_rfl) (by simp) ?_
          refine AllReadyH.cons rfl (fun K hK => ?_) AllReadyH.nil
          try simp only [Act.put, List.getElem_toArray, List.getElem_cons_succ, List.getElem_cons_zero, List.setIfInBounds_toArray, List.set_cons_zero, List.set_cons_succ]
          go_simp
          go_at_call 8
          refine (HS.out _ _ (OT5.out.r) (capZ_of OT5.out)).mono ?_
          rintro e e6 ⟨rv, rfl, orr, s6⟩
          obtain ⟨Ar, cr, Br, dr, rfl, _, _⟩ := orr.r
          have OR6 := hide orr
          clear orr
          have z6 := s6.size
          have X6_ := hide (X5_.out.below s6)
          have B6_ := hide (B5_.out.trans (s6.mono (by have := B5_.out.size; omega)))
          have N6 := hide (N5.out.below s6 (by have := N5.out.lt; omega))
          dsimp only
          refine hK.out _ _ (⟨X6_.out.p.cell 0, X6_.out.p.cell 1, X6_.out.p.cell 2, X6_.out.q.cell 0, X6_.out.q.cell 1, X6_.out.q.cell 2⟩) (fun hHeld => ?_)
          clear hK K
          try simp only [Act.put, List.getElem_toArray, List.getElem_cons_succ, List.getElem_cons_zero, List.setIfInBounds_toArray, List.set_cons_zero, List.set_cons_succ]
          refine wpAnyH_take (i := 5) (v := ?_) rfl (by kernel_rfl) (by kernel_rfl) (by kernel_rfl) (fun _ _ _ h => h) (Or.inl ⟨by rfl, ?_⟩) (by assumption) ?_
          rotate_left 1
          · (intro w hSw; (try dsimp only at hSw); go_simp; try with_reducible rfl)
          try simp only [Act.put, List.getElem_toArray, List.getElem_cons_succ, List.getElem_cons_zero, List.setIfInBounds_toArray, List.set_cons_zero, List.set_cons_succ]
          refine wpAnyH_take (i := 6) (v := ?_) rfl (by kernel_rfl) (by kernel_rfl) (by kernel_rfl) (fun _ _ _ h => h) (Or.inl ⟨by rfl, ?_⟩) (by assumption) ?_
          rotate_left 1
          · (intro w hSw; (try dsimp only at hSw); go_simp; try with_reducible rfl)
          try simp only [Act.put, List.getElem_toArray, List.getElem_cons_succ, List.getElem_cons_zero, List.setIfInBounds_toArray, List.set_cons_zero, List.set_cons_succ]
          refine wpAnyH_take (i := 7) (v := ?_) rfl (by kernel_rfl) (by kernel_rfl) (by kernel_rfl) (fun _ _ _ h => h) (Or.inl ⟨by rfl, ?_⟩) (by assumption) ?_
          rotate_left 1
          · (intro w hSw; (try dsimp only at hSw); go_simp; try with_reducible rfl)
          try simp only [Act.put, List.getElem_toArray, List.getElem_cons_succ, List.getElem_cons_zero, List.setIfInBounds_toArray, List.set_cons_zero, List.set_cons_succ]
          obtain ⟨nb, hnb⟩ : ∃ nb, nb = e2.heap.size := ⟨_, rfl⟩
          have NN := N6
          rw [← hnb] at NN ⊢
          have hnb5 : w2.heap.size ≤ nb := by have := BD.out.size; omega
          have hnb6 : nb < e6.heap.size := NN.out.lt
          have hlo5 : w2.heap.size ≤ e5.heap.size := by have := BD.out.size; omega
          have hhi5 : e6.heap.size ≤ e6.heap.size := by omega
          have hdis : nb < e5.heap.size ∨ e6.heap.size ≤ nb := by omega
          have ZN := hide (ZB.stored NN.out OR6.out hlo5 hhi5 hnb5 hnb6 hdis)
          have hwl : w2.heap.size ≤ nb := hnb5
          have m0 : e6.cell? ⟨nb, 0, none⟩ = some (.int .i64 0) := NN.out.cell 0
          have n0 := NN.out.fro 0
          have T0 := hide (NN.out.set 0 (.int .i64 r.z))
          have m1 : (e6.setCell ⟨nb, 0, none⟩ (.int .i64 r.z)).cell? ⟨nb, 1, none⟩ = some (.slice none 0 0) := T0.out.cell 1
          have n1 := T0.out.fro 1
          have T1 := hide (T0.out.set 1 (.slice Ar r.of.length cr))
          have m2 : ((e6.setCell ⟨nb, 0, none⟩ (.int .i64 r.z)).setCell ⟨nb, 1, none⟩ (.slice Ar r.of.length cr)).cell? ⟨nb, 2, none⟩ = some (.slice none 0 0) := T1.out.cell 2
          have n2 := T1.out.fro 2
          have T2 := hide (T1.out.set 2 (.slice Br r.ch.length dr))
          have BE := hide (((B6_.out.setCell (p := ⟨nb, 0, none⟩) (by dsimp only; omega) (.int .i64 r.z)).setCell (p := ⟨nb, 1, none⟩) (by dsimp only; omega) (.slice Ar r.of.length cr)).setCell (p := ⟨nb, 2, none⟩) (by dsimp only; omega) (.slice Br r.ch.length dr))
          have XE := hide (X2.out.belowB BE.out X2.out.sz)
          clear hnb
          refine wpAnyH_ready (rs := [9]) (by kernel_rfl) (by simp) ?_
          refine AllReadyH.cons rfl (fun K hK => ?_) AllReadyH.nil
          try simp only [Act.put, List.getElem_toArray, List.getElem_cons_succ, List.getElem_cons_zero, List.setIfInBounds_toArray, List.set_cons_zero, List.set_cons_succ]
          go_simp
          refine hK.out _ _ (⟨XE.out.p.cell 0, XE.out.p.cell 1, XE.out.p.cell 2, XE.out.q.cell 0, XE.out.q.cell 1, XE.out.q.cell 2⟩) (fun hHeld => ?_)
          clear hK K
          try simp only [Act.put, List.getElem_toArray, List.getElem_cons_succ, List.getElem_cons_zero, List.setIfInBounds_toArray, List.set_cons_zero, List.set_cons_succ]
          refine wpAnyH_take (i := 10) (v := ?_) rfl (by kernel_rfl) (by kernel_rfl) (by kernel_rfl) (fun _ _ _ h => h) (Or.inl ⟨by rfl, ?_⟩) (by assumption) ?_
          rotate_left 1
          · (intro w hSw; (try dsimp only at hSw); go_simp; try with_reducible rfl)
          try simp only [Act.put, List.getElem_toArray, List.getElem_cons_succ, List.getElem_cons_zero, List.setIfInBounds_toArray, List.set_cons_zero, List.set_cons_succ]
          refine wpAnyH_done (by kernel_rfl) ?_ _
          go_wp2_with fail
          go_meet
          exact ⟨nb, Ar, cr, Br, dr, rfl, rfl, BE, hide (by have h := ZN.out; simpa using h)⟩
      · try simp only [Act.put, List.getElem_toArray, List.getElem_cons_succ, List.getElem_cons_zero, List.setIfInBounds_toArray, List.set_cons_zero, List.set_cons_succ]
        go_simp
        have s7 : Below e1.heap.size e1 (e1.alloc (.cells #[.int .i64 0, .slice none 0 0, .slice none 0 0] 31)) := (Below.refl _ _).alloc (Nat.le_refl _) _
        have z7 : e1.heap.size + 1 = (e1.alloc (.cells #[.int .i64 0, .slice none 0 0, .slice none 0 0] 31)).heap.size := by simp
        have X7_ := hide (X1_.out.below s7)
        have B7_ := hide (B1_.out.trans (s7.mono (by have := B1_.out.size; omega)))
        have N7 := hide (BoxN.new e1 #[.int .i64 0, .slice none 0 0, .slice none 0 0] 31)
        have OT7 := hide (OT1.out.below s7 (by omega))
        refine hK.out _ _ (⟨X7_.out.p.cell 0, X7_.out.p.cell 1, X7_.out.p.cell 2, X7_.out.q.cell 0, X7_.out.q.cell 1, X7_.out.q.cell 2⟩) (fun hHeld => ?_)
        clear hK K
        try simp only [Act.put, List.getElem_toArray, List.getElem_cons_succ, List.getElem_cons_zero, List.setIfInBounds_toArray, List.set_cons_zero, List.set_cons_succ]
        generalize (e1.alloc (.cells #[.int .i64 0, .slice none 0 0, .slice none 0 0] 31)) = e7 at *
        refine wpAnyH_ready (rs := [3]) (by kernel_rfl) (by simp) ?_
        refine AllReadyH.cons rfl (fun K hK => ?_) AllReadyH.nil
        try simp only [Act.put, List.getElem_toArray, List.getElem_cons_succ, List.getElem_cons_zero, List.setIfInBounds_toArray, List.set_cons_zero, List.set_cons_succ]
        go_simp
        go_at_call 10
        refine (toChange_any y _).mono ?_
        rintro e e8 ⟨rfl, s8⟩
        have OT8 := hide (OT7.out.below s8 (by omega))
        have z8 := s8.size
        have X8_ := hide (X7_.out.below s8)
        have B8_ := hide (B7_.out.trans (s8.mono (by have := B7_.out.size; omega)))
        have N8 := hide (N7.out.below s8 (by have := N7.out.lt; omega))
        dsimp only
        refine hK.out _ _ (⟨X8_.out.p.cell 0, X8_.out.p.cell 1, X8_.out.p.cell 2, X8_.out.q.cell 0, X8_.out.q.cell 1, X8_.out.q.cell 2⟩) (fun hHeld => ?_)
        clear hK K
        try simp only [Act.put, List.getElem_toArray, List.getElem_cons_succ, List.getElem_cons_zero, List.setIfInBounds_toArray, List.set_cons_zero, List.set_cons_succ]
        refine wpAnyH_ready (rs := [4]) (by kernel_rfl) (by simp) ?_
        refine AllReadyH.cons rfl (fun K hK => ?_) AllReadyH.nil
        try simp only [Act.put, List.getElem_toArray, List.getElem_cons_succ, List.getElem_cons_zero, List.setIfInBounds_toArray, List.set_cons_zero, List.set_cons_succ]
        go_simp
        go_at_call 8
        refine (HS.out _ _ (OT8.out.r) (capZ_of OT8.out)).mono ?_
        rintro e e9 ⟨rv, rfl, orr, s9⟩
        obtain ⟨Ar, cr, Br, dr, rfl, _, _⟩ := orr.r
        have OR9 := hide orr
        clear orr
        have z9 := s9.size
        have X9_ := hide (X8_.out.below s9)
        have B9_ := hide (B8_.out.trans (s9.mono (by have := B8_.out.size; omega)))
        have N9 := hide (N8.out.below s9 (by have := N8.out.lt; omega))
        dsimp only
        refine hK.out _ _ (⟨X9_.out.p.cell 0, X9_.out.p.cell 1, X9_.out.p.cell 2, X9_.out.q.cell 0, X9_.out.q.cell 1, X9_.out.q.cell 2⟩) (fun hHeld => ?_)
        clear hK K
        try simp only [Act.put, List.getElem_toArray, List.getElem_cons_succ, List.getElem_cons_zero, List.setIfInBounds_toArray, List.set_cons_zero, List.set_cons_succ]
        refine wpAnyH_take (i := 5) (v := ?_) rfl (by kernel_rfl) (by kernel_rfl) (by kernel_rfl) (fun _ _ _ h => h) (Or.inl ⟨by rfl, ?_⟩) (by assumption) ?_
        rotate_left 1
        · (intro w hSw; (try dsimp only at hSw); go_simp; try with_reducible rfl)
        try simp only [Act.put, List.getElem_toArray, List.getElem_cons_succ, List.getElem_cons_zero, List.setIfInBounds_toArray, List.set_cons_zero, List.set_cons_succ]
        refine wpAnyH_take (i := 6) (v := ?_) rfl (by kernel_rfl) (by kernel_rfl) (by kernel_rfl) (fun _ _ _ h => h) (Or.inl ⟨by rfl, ?_⟩) (by assumption) ?_
        rotate_left 1
        · (intro w hSw; (try dsimp only at hSw); go_simp; try with_reducible rfl)
        try simp only [Act.put, List.getElem_toArray, List.getElem_cons_succ, List.getElem_cons_zero, List.setIfInBounds_toArray, List.set_cons_zero, List.set_cons_succ]
        refine wpAnyH_take (i := 7) (v := ?_) rfl (by kernel_rfl) (by kernel_rfl) (by kernel_rfl) (fun _ _ _ h => h) (Or.inl ⟨by rfl, ?_⟩) (by assumption) ?_
        rotate_left 1
        · (intro w hSw; (try dsimp only at hSw); go_simp; try with_reducible rfl)
        try simp only [Act.put, List.getElem_toArray, List.getElem_cons_succ, List.getElem_cons_zero, List.setIfInBounds_toArray, List.set_cons_zero, List.set_cons_succ]
        obtain ⟨nb, hnb⟩ : ∃ nb, nb = e1.heap.size := ⟨_, rfl⟩
        have NN := N9
        rw [← hnb] at NN ⊢
        have hnb5 : w2.heap.size ≤ nb := by have := BD.out.size; omega
        have hnb6 : nb < e9.heap.size := NN.out.lt
        have hlo5 : w2.heap.size ≤ e8.heap.size := by have := BD.out.size; omega
        have hhi5 : e9.heap.size ≤ e9.heap.size := by omega
        have hdis : nb < e8.heap.size ∨ e9.heap.size ≤ nb := by omega
        have ZN := hide (ZB.stored NN.out OR9.out hlo5 hhi5 hnb5 hnb6 hdis)
        have hwl : w2.heap.size ≤ nb := hnb5
        have m0 : e9.cell? ⟨nb, 0, none⟩ = some (.int .i64 0) := NN.out.cell 0
        have n0 := NN.out.fro 0
        have T0 := hide (NN.out.set 0 (.int .i64 r.z))
        have m1 : (e9.setCell ⟨nb, 0, none⟩ (.int .i64 r.z)).cell? ⟨nb, 1, none⟩ = some (.slice none 0 0) := T0.out.cell 1
        have n1 := T0.out.fro 1
        have T1 := hide (T0.out.set 1 (.slice Ar r.of.length cr))
        have m2 : ((e9.setCell ⟨nb, 0, none⟩ (.int .i64 r.z)).setCell ⟨nb, 1, none⟩ (.slice Ar r.of.length cr)).cell? ⟨nb, 2, none⟩ = some (.slice none 0 0) := T1.out.cell 2
        have n2 := T1.out.fro 2
        have T2 := hide (T1.out.set 2 (.slice Br r.ch.length dr))
        have BE := hide (((B9_.out.setCell (p := ⟨nb, 0, none⟩) (by dsimp only; omega) (.int .i64 r.z)).setCell (p := ⟨nb, 1, none⟩) (by dsimp only; omega) (.slice Ar r.of.length cr)).setCell (p := ⟨nb, 2, none⟩) (by dsimp only; omega) (.slice Br r.ch.length dr))
        have XE := hide (X2.out.belowB BE.out X2.out.sz)
        clear hnb
        refine wpAnyH_ready (rs := [9]) (by kernel_rfl) (by simp) ?_
        refine AllReadyH.cons rfl (fun K hK => ?_) AllReadyH.nil
        try simp only [Act.put, List.getElem_toArray, List.getElem_cons_succ, List.getElem_cons_zero, List.setIfInBounds_toArray, List.set_cons_zero, List.set_cons_succ]
        go_simp
        refine hK.out _ _ (⟨XE.out.p.cell 0, XE.out.p.cell 1, XE.out.p.cell 2, XE.out.q.cell 0, XE.out.q.cell 1, XE.out.q.cell 2⟩) (fun hHeld => ?_)
        clear hK K
        try simp only [Act.put, List.getElem_toArray, List.getElem_cons_succ, List.getElem_cons_zero, List.setIfInBounds_toArray, List.set_cons_zero, List.set_cons_succ]
        refine wpAnyH_take (i := 10) (v := ?_) rfl (by kernel_rfl) (by kernel_rfl) (by kernel_rfl) (fun _ _ _ h => h) (Or.inl ⟨by rfl, ?_⟩) (by assumption) ?_
        rotate_left 1
        · (intro w hSw; (try dsimp only at hSw); go_simp; try with_reducible rfl)
        try simp only [Act.put, List.getElem_toArray, List.getElem_cons_succ, List.getElem_cons_zero, List.setIfInBounds_toArray, List.set_cons_zero, List.set_cons_succ]
        refine wpAnyH_done (by kernel_rfl) ?_ _
        go_wp2_with fail
        go_meet
        exact ⟨nb, Ar, cr, Br, dr, rfl, rfl, BE, hide (by have h := ZN.out; simpa using h)⟩
    · try simp only [Act.put, List.getElem_toArray, List.getElem_cons_succ, List.getElem_cons_zero, List.setIfInBounds_toArray, List.set_cons_zero, List.set_cons_succ]
      go_simp
      have s10 : Below wd.heap.size wd (wd.alloc (.cells #[.int .i64 0, .slice none 0 0, .slice none 0 0] 31)) := (Below.refl _ _).alloc (Nat.le_refl _) _
      have z10 : wd.heap.size + 1 = (wd.alloc (.cells #[.int .i64 0, .slice none 0 0, .slice none 0 0] 31)).heap.size := by simp
      have X10_ := hide (XD.out.below s10)
      have B10_ := hide (BD.out.trans (s10.mono (by have := BD.out.size; omega)))
      have N10 := hide (BoxN.new wd #[.int .i64 0, .slice none 0 0, .slice none 0 0] 31)
      refine hK.out _ _ (⟨X10_.out.p.cell 0, X10_.out.p.cell 1, X10_.out.p.cell 2, X10_.out.q.cell 0, X10_.out.q.cell 1, X10_.out.q.cell 2⟩) (fun hHeld => ?_)
      clear hK K
      try simp only [Act.put, List.getElem_toArray, List.getElem_cons_succ, List.getElem_cons_zero, List.setIfInBounds_toArray, List.set_cons_zero, List.set_cons_succ]
      generalize (wd.alloc (.cells #[.int .i64 0, .slice none 0 0, .slice none 0 0] 31)) = e10 at *
      refine wpAnyH_ready (rs := [1]) (by kernel_rfl) (by simp) ?_
      refine AllReadyH.cons rfl (fun K hK => ?_) AllReadyH.nil
      try simp only [Act.put, List.getElem_toArray, List.getElem_cons_succ, List.getElem_cons_zero, List.setIfInBounds_toArray, List.set_cons_zero, List.set_cons_succ]
      go_simp
      go_at_call 9
      refine (HTO.out _ X10_.out).mono ?_
      rintro e e11 ⟨tv, rfl, ot, s11⟩
      obtain ⟨At, ct, Bt, dt, rfl, _, _⟩ := ot.r
      have OT11 := hide ot
      clear ot
      have z11 := s11.size
      have X11_ := hide (X10_.out.below s11)
      have B11_ := hide (B10_.out.trans (s11.mono (by have := B10_.out.size; omega)))
      have N11 := hide (N10.out.below s11 (by have := N10.out.lt; omega))
      dsimp only
      refine hK.out _ _ (⟨X11_.out.p.cell 0, X11_.out.p.cell 1, X11_.out.p.cell 2, X11_.out.q.cell 0, X11_.out.q.cell 1, X11_.out.q.cell 2⟩) (fun hHeld => ?_)
      clear hK K
      try simp only [Act.put, List.getElem_toArray, List.getElem_cons_succ, List.getElem_cons_zero, List.setIfInBounds_toArray, List.set_cons_zero, List.set_cons_succ]
      refine wpAnyH_ready (rs := [3]) (by kernel_rfl) (by simp) ?_
      refine AllReadyH.cons rfl (fun K hK => ?_) AllReadyH.nil
      try simp only [Act.put, List.getElem_toArray, List.getElem_cons_succ, List.getElem_cons_zero, List.setIfInBounds_toArray, List.set_cons_zero, List.set_cons_succ]
      go_simp
      go_at_call 10
      refine (toChange_any y _).mono ?_
      rintro e e12 ⟨rfl, s12⟩
      have OT12 := hide (OT11.out.below s12 (by omega))
      have z12 := s12.size
      have X12_ := hide (X11_.out.below s12)
      have B12_ := hide (B11_.out.trans (s12.mono (by have := B11_.out.size; omega)))
      have N12 := hide (N11.out.below s12 (by have := N11.out.lt; omega))
      dsimp only
      refine hK.out _ _ (⟨X12_.out.p.cell 0, X12_.out.p.cell 1, X12_.out.p.cell 2, X12_.out.q.cell 0, X12_.out.q.cell 1, X12_.out.q.cell 2⟩) (fun hHeld => ?_)
      clear hK K
      try simp only [Act.put, List.getElem_toArray, List.getElem_cons_succ, List.getElem_cons_zero, List.setIfInBounds_toArray, List.set_cons_zero, List.set_cons_succ]
      refine wpAnyH_ready (rs := [4]) (by kernel_rfl) (by simp) ?_
      refine AllReadyH.cons rfl (fun K hK => ?_) AllReadyH.nil
      try simp only [Act.put, List.getElem_toArray, List.getElem_cons_succ, List.getElem_cons_zero, List.setIfInBounds_toArray, List.set_cons_zero, List.set_cons_succ]
      go_simp
      go_at_call 8
      refine (HS.out _ _ (OT12.out.r) (capZ_of OT12.out)).mono ?_
      rintro e e13 ⟨rv, rfl, orr, s13⟩
      obtain ⟨Ar, cr, Br, dr, rfl, _, _⟩ := orr.r
      have OR13 := hide orr
      clear orr
      have z13 := s13.size
      have X13_ := hide (X12_.out.below s13)
      have B13_ := hide (B12_.out.trans (s13.mono (by have := B12_.out.size; omega)))
      have N13 := hide (N12.out.below s13 (by have := N12.out.lt; omega))
      dsimp only
      refine hK.out _ _ (⟨X13_.out.p.cell 0, X13_.out.p.cell 1, X13_.out.p.cell 2, X13_.out.q.cell 0, X13_.out.q.cell 1, X13_.out.q.cell 2⟩) (fun hHeld => ?_)
      clear hK K
      try simp only [Act.put, List.getElem_toArray, List.getElem_cons_succ, List.getElem_cons_zero, List.setIfInBounds_toArray, List.set_cons_zero, List.set_cons_succ]
      refine wpAnyH_take (i := 5) (v := ?_) rfl (by kernel_rfl) (by kernel_rfl) (by kernel_rfl) (fun _ _ _ h => h) (Or.inl ⟨by rfl, ?_⟩) (by assumption) ?_
      rotate_left 1
      · (intro w hSw; (try dsimp only at hSw); go_simp; try with_reducible rfl)
      try simp only [Act.put, List.getElem_toArray, List.getElem_cons_succ, List.getElem_cons_zero, List.setIfInBounds_toArray, List.set_cons_zero, List.set_cons_succ]
      refine wpAnyH_take (i := 6) (v := ?_) rfl (by kernel_rfl) (by kernel_rfl) (by kernel_rfl) (fun _ _ _ h => h) (Or.inl ⟨by rfl, ?_⟩) (by assumption) ?_
      rotate_left 1
      · (intro w hSw; (try dsimp only at hSw); go_simp; try with_reducible rfl)
      try simp only [Act.put, List.getElem_toArray, List.getElem_cons_succ, List.getElem_cons_zero, List.setIfInBounds_toArray, List.set_cons_zero, List.set_cons_succ]
      refine wpAnyH_take (i := 7) (v := ?_) rfl (by kernel_rfl) (by kernel_rfl) (by kernel_rfl) (fun _ _ _ h => h) (Or.inl ⟨by rfl, ?_⟩) (by assumption) ?_
      rotate_left 1
      · (intro w hSw; (try dsimp only at hSw); go_simp; try with_reducible rfl)
      try simp only [Act.put, List.getElem_toArray, List.getElem_cons_succ, List.getElem_cons_zero, List.setIfInBounds_toArray, List.set_cons_zero, List.set_cons_succ]
      obtain ⟨nb, hnb⟩ : ∃ nb, nb = wd.heap.size := ⟨_, rfl⟩
      have NN := N13
      rw [← hnb] at NN ⊢
      have hnb5 : w2.heap.size ≤ nb := by have := BD.out.size; omega
      have hnb6 : nb < e13.heap.size := NN.out.lt
      have hlo5 : w2.heap.size ≤ e12.heap.size := by have := BD.out.size; omega
      have hhi5 : e13.heap.size ≤ e13.heap.size := by omega
      have hdis : nb < e12.heap.size ∨ e13.heap.size ≤ nb := by omega
      have ZN := hide (ZB.stored NN.out OR13.out hlo5 hhi5 hnb5 hnb6 hdis)
      have hwl : w2.heap.size ≤ nb := hnb5
      have m0 : e13.cell? ⟨nb, 0, none⟩ = some (.int .i64 0) := NN.out.cell 0
      have n0 := NN.out.fro 0
      have T0 := hide (NN.out.set 0 (.int .i64 r.z))
      have m1 : (e13.setCell ⟨nb, 0, none⟩ (.int .i64 r.z)).cell? ⟨nb, 1, none⟩ = some (.slice none 0 0) := T0.out.cell 1
      have n1 := T0.out.fro 1
      have T1 := hide (T0.out.set 1 (.slice Ar r.of.length cr))
      have m2 : ((e13.setCell ⟨nb, 0, none⟩ (.int .i64 r.z)).setCell ⟨nb, 1, none⟩ (.slice Ar r.of.length cr)).cell? ⟨nb, 2, none⟩ = some (.slice none 0 0) := T1.out.cell 2
      have n2 := T1.out.fro 2
      have T2 := hide (T1.out.set 2 (.slice Br r.ch.length dr))
      have BE := hide (((B13_.out.setCell (p := ⟨nb, 0, none⟩) (by dsimp only; omega) (.int .i64 r.z)).setCell (p := ⟨nb, 1, none⟩) (by dsimp only; omega) (.slice Ar r.of.length cr)).setCell (p := ⟨nb, 2, none⟩) (by dsimp only; omega) (.slice Br r.ch.length dr))
      have XE := hide (X2.out.belowB BE.out X2.out.sz)
      clear hnb
      refine wpAnyH_ready (rs := [9]) (by kernel_rfl) (by simp) ?_
      refine AllReadyH.cons rfl (fun K hK => ?_) AllReadyH.nil
      try simp only [Act.put, List.getElem_toArray, List.getElem_cons_succ, List.getElem_cons_zero, List.setIfInBounds_toArray, List.set_cons_zero, List.set_cons_succ]
      go_simp
      refine hK.out _ _ (⟨XE.out.p.cell 0, XE.out.p.cell 1, XE.out.p.cell 2, XE.out.q.cell 0, XE.out.q.cell 1, XE.out.q.cell 2⟩) (fun hHeld => ?_)
      clear hK K
      try simp only [Act.put, List.getElem_toArray, List.getElem_cons_succ, List.getElem_cons_zero, List.setIfInBounds_toArray, List.set_cons_zero, List.set_cons_succ]
      refine wpAnyH_take (i := 10) (v := ?_) rfl (by kernel_rfl) (by kernel_rfl) (by kernel_rfl) (fun _ _ _ h => h) (Or.inl ⟨by rfl, ?_⟩) (by assumption) ?_
      rotate_left 1
      · (intro w hSw; (try dsimp only at hSw); go_simp; try with_reducible rfl)
      try simp only [Act.put, List.getElem_toArray, List.getElem_cons_succ, List.getElem_cons_zero, List.setIfInBounds_toArray, List.set_cons_zero, List.set_cons_succ]
      refine wpAnyH_done (by kernel_rfl) ?_ _
      go_wp2_with fail
      go_meet
      exact ⟨nb, Ar, cr, Br, dr, rfl, rfl, BE, hide (by have h := ZN.out; simpa using h)⟩
  case rest =>
    obtain ⟨b6, A6, c6, B6, d6, rfl, rfl, BB6, Z6⟩ := hcut
    obtain ⟨w6, hw6⟩ : ∃ q, q = wc := ⟨wc, rfl⟩
    subst hw6
    have X6 := hide (X2.out.belowB BB6.out X2.out.sz)

    have kp0 : w6.cell? ⟨w.heap.size, 0, none⟩ = some (.int .i64 x.z) := X6.out.p.cell 0
    have kp1 : w6.cell? ⟨w.heap.size, 1, none⟩ = some (.slice A x.of.length c) := X6.out.p.cell 1
    have kp2 : w6.cell? ⟨w.heap.size, 2, none⟩ = some (.slice B x.ch.length d) := X6.out.p.cell 2
    go_upto_region 7 with (go_at_call 9; refine (HTO.out _ X6.out).mono ?_; rintro e w7 ⟨tv, rfl, ot, s7⟩; obtain ⟨A8, c8, B8, d8, rfl, _, _⟩ := ot.r; have O7 := hide ot; clear ot)
    have s8 : Below w7.heap.size w7 (w7.alloc (.cells #[.int .i64 x.z, .slice A8 x.of.length c8, .slice B8 x.ch.length d8] 31)) := (Below.refl _ _).alloc (Nat.le_refl _) _
    have z7 := s7.size
    have z8 : w7.heap.size + 1 = (w7.alloc (.cells #[.int .i64 x.z, .slice A8 x.of.length c8, .slice B8 x.ch.length d8] 31)).heap.size := by simp
    have B68 := hide (s7.trans (s8.mono z7))
    have X8 := hide (X6.out.below B68.out)
    have Z8 := hide (show ZB (w7.alloc (.cells #[.int .i64 x.z, .slice A8 x.of.length c8, .slice B8 x.ch.length d8] 31)) w6.heap.size (w7.alloc (.cells #[.int .i64 x.z, .slice A8 x.of.length c8, .slice B8 x.ch.length d8] 31)).heap.size w7.heap.size #[.int .i64 x.z, .slice A8 x.of.length c8, .slice B8 x.ch.length d8] x from ⟨w6.heap.size, w7.heap.size, BoxN.new w7 _ _, O7.out.below s8 (Nat.le_refl _), Nat.le_refl _, by omega, z7, by omega, .inr (Nat.le_refl _)⟩)
    clear s8 s7 O7
    generalize (w7.alloc (.cells #[.int .i64 x.z, .slice A8 x.of.length c8, .slice B8 x.ch.length d8] 31)) = w8 at *
    generalize w7.heap.size = b8 at *
    have Z6_8 := hide (Z6.out.below B68.out (Nat.le_refl _))
    obtain ⟨lo8, hi8, o8, l8, h8, d8_⟩ := Z8.out.own
    have O8 := hide o8
    clear o8
    clear kp0 kp1 kp2
    go_cut [9, 10] (fun c1 c2 wx => ∃ b Ar cr Br dr, c1 = .pointer (some ⟨b, 0, none⟩) ∧ c2 = .int .i64 cd ∧ Hid (Below w8.heap.size w8 wx) ∧ Hid (ZB wx w8.heap.size wx.heap.size b #[.int .i64 r.z, .slice Ar r.of.length cr, .slice Br r.ch.length dr] r))
    case first =>
      have XD := hide (X8.out.below (Below.refl _ _).drew)
      have BD : Hid (Below w8.heap.size w8 w8.drew) := (Below.refl _ _).drew
      have zD : w8.heap.size ≤ w8.drew.heap.size := Nat.le_refl _
      refine wp_region_held_drew (S := fun W => W.cell? ⟨w.heap.size, 0, none⟩ = some (.int .i64 x.z) ∧ W.cell? ⟨w.heap.size, 1, none⟩ = some (.slice A x.of.length c) ∧ W.cell? ⟨w.heap.size, 2, none⟩ = some (.slice B x.ch.length d) ∧ W.cell? ⟨w.heap.size + 1, 0, none⟩ = some (.int .i64 y.a) ∧ W.cell? ⟨w.heap.size + 1, 1, none⟩ = some (.int .i64 y.b) ∧ W.cell? ⟨w.heap.size + 1, 2, none⟩ = some (.int .i64 y.c) ∧ W.cell? ⟨b8, 0, none⟩ = some (.int .i64 x.z) ∧ W.cell? ⟨b8, 1, none⟩ = some (.slice A8 x.of.length c8) ∧ W.cell? ⟨b8, 2, none⟩ = some (.slice B8 x.ch.length d8)) (by kernel_rfl) (⟨XD.out.p.cell 0, XD.out.p.cell 1, XD.out.p.cell 2, XD.out.q.cell 0, XD.out.q.cell 1, XD.out.q.cell 2, (Z8.out.below BD.out (Nat.le_refl _)).box.cell 0, (Z8.out.below BD.out (Nat.le_refl _)).box.cell 1, (Z8.out.below BD.out (Nat.le_refl _)).box.cell 2⟩) (fun hHeld => ?_)
      generalize w8.drew = wd at *
      refine wpAnyH_take (i := 0) (v := ?_) rfl (by kernel_rfl) (by kernel_rfl) (by kernel_rfl) (fun _ _ _ h => h) (Or.inl ⟨by rfl, ?_⟩) (by assumption) ?_
      rotate_left 1
      · (intro w hSw; (try dsimp only at hSw); go_simp; try with_reducible rfl)
      try simp only [Act.put, List.getElem_toArray, List.getElem_cons_succ, List.getElem_cons_zero, List.setIfInBounds_toArray, List.set_cons_zero, List.set_cons_succ]
      refine wpAnyH_take (i := 1) (v := ?_) rfl (by kernel_rfl) (by kernel_rfl) (by kernel_rfl) (fun _ _ _ h => h) (Or.inl ⟨by rfl, ?_⟩) (by assumption) ?_
      rotate_left 1
      · (intro w hSw; (try dsimp only at hSw); go_simp; try with_reducible rfl)
      try simp only [Act.put, List.getElem_toArray, List.getElem_cons_succ, List.getElem_cons_zero, List.setIfInBounds_toArray, List.set_cons_zero, List.set_cons_succ]
      refine wpAnyH_ready (rs := [2, 7]) (by kernel_rfl) (by simp) ?_
      refine AllReadyH.cons rfl (fun K hK => ?_) (AllReadyH.cons rfl (fun K hK => ?_) AllReadyH.nil)
      · try simp only [Act.put, List.getElem_toArray, List.getElem_cons_succ, List.getElem_cons_zero, List.setIfInBounds_toArray, List.set_cons_zero, List.set_cons_succ]
        go_simp
        go_at_call 10
        refine (toChange_any y _).mono ?_
        rintro e e14 ⟨rfl, s14⟩
        have z14 := s14.size
        have X14_ := hide (XD.out.below s14)
        have B14_ := hide (BD.out.trans (s14.mono (by have := BD.out.size; omega)))
        dsimp only
        refine hK.out _ _ (⟨X14_.out.p.cell 0, X14_.out.p.cell 1, X14_.out.p.cell 2, X14_.out.q.cell 0, X14_.out.q.cell 1, X14_.out.q.cell 2, (Z8.out.below B14_.out (Nat.le_refl _)).box.cell 0, (Z8.out.below B14_.out (Nat.le_refl _)).box.cell 1, (Z8.out.below B14_.out (Nat.le_refl _)).box.cell 2⟩) (fun hHeld => ?_)
        clear hK K
        try simp only [Act.put, List.getElem_toArray, List.getElem_cons_succ, List.getElem_cons_zero, List.setIfInBounds_toArray, List.set_cons_zero, List.set_cons_succ]
        refine wpAnyH_ready (rs := [3, 7]) (by kernel_rfl) (by simp) ?_
        refine AllReadyH.cons rfl (fun K hK => ?_) (AllReadyH.cons rfl (fun K hK => ?_) AllReadyH.nil)
        · try simp only [Act.put, List.getElem_toArray, List.getElem_cons_succ, List.getElem_cons_zero, List.setIfInBounds_toArray, List.set_cons_zero, List.set_cons_succ]
          go_simp
          go_at_call 11
          refine (HP.out _ _ ((O8.out.below B14_.out h8).r) (capZ_of (O8.out.below B14_.out h8))).mono ?_
          rintro e e15 ⟨rv, rfl, orr, s15⟩
          obtain ⟨Ar, cr, Br, dr, rfl, _, _⟩ := orr.r
          have OR15 := hide orr
          clear orr
          have z15 := s15.size
          have X15_ := hide (X14_.out.below s15)
          have B15_ := hide (B14_.out.trans (s15.mono (by have := B14_.out.size; omega)))
          dsimp only
          refine hK.out _ _ (⟨X15_.out.p.cell 0, X15_.out.p.cell 1, X15_.out.p.cell 2, X15_.out.q.cell 0, X15_.out.q.cell 1, X15_.out.q.cell 2, (Z8.out.below B15_.out (Nat.le_refl _)).box.cell 0, (Z8.out.below B15_.out (Nat.le_refl _)).box.cell 1, (Z8.out.below B15_.out (Nat.le_refl _)).box.cell 2⟩) (fun hHeld => ?_)
          clear hK K
          try simp only [Act.put, List.getElem_toArray, List.getElem_cons_succ, List.getElem_cons_zero, List.setIfInBounds_toArray, List.set_cons_zero, List.set_cons_succ]
          refine wpAnyH_take (i := 4) (v := ?_) rfl (by kernel_rfl) (by kernel_rfl) (by kernel_rfl) (fun _ _ _ h => h) (Or.inl ⟨by rfl, ?_⟩) (by assumption) ?_
          rotate_left 1
          · (intro w hSw; (try dsimp only at hSw); go_simp; try with_reducible rfl)
          try simp only [Act.put, List.getElem_toArray, List.getElem_cons_succ, List.getElem_cons_zero, List.setIfInBounds_toArray, List.set_cons_zero, List.set_cons_succ]
          refine wpAnyH_take (i := 5) (v := ?_) rfl (by kernel_rfl) (by kernel_rfl) (by kernel_rfl) (fun _ _ _ h => h) (Or.inl ⟨by rfl, ?_⟩) (by assumption) ?_
          rotate_left 1
          · (intro w hSw; (try dsimp only at hSw); go_simp; try with_reducible rfl)
          try simp only [Act.put, List.getElem_toArray, List.getElem_cons_succ, List.getElem_cons_zero, List.setIfInBounds_toArray, List.set_cons_zero, List.set_cons_succ]
          refine wpAnyH_take (i := 6) (v := ?_) rfl (by kernel_rfl) (by kernel_rfl) (by kernel_rfl) (fun _ _ _ h => h) (Or.inl ⟨by rfl, ?_⟩) (by assumption) ?_
          rotate_left 1
          · (intro w hSw; (try dsimp only at hSw); go_simp; try with_reducible rfl)
          try simp only [Act.put, List.getElem_toArray, List.getElem_cons_succ, List.getElem_cons_zero, List.setIfInBounds_toArray, List.set_cons_zero, List.set_cons_succ]
          refine wpAnyH_ready (rs := [7]) (by kernel_rfl) (by simp) ?_
          refine AllReadyH.cons rfl (fun K hK => ?_) AllReadyH.nil
          try simp only [Act.put, List.getElem_toArray, List.getElem_cons_succ, List.getElem_cons_zero, List.setIfInBounds_toArray, List.set_cons_zero, List.set_cons_succ]
          go_simp
          have s16 : Below e15.heap.size e15 (e15.alloc (.cells #[.int .i64 0, .slice none 0 0, .slice none 0 0] 31)) := (Below.refl _ _).alloc (Nat.le_refl _) _
          have z16 : e15.heap.size + 1 = (e15.alloc (.cells #[.int .i64 0, .slice none 0 0, .slice none 0 0] 31)).heap.size := by simp
          have X16_ := hide (X15_.out.below s16)
          have B16_ := hide (B15_.out.trans (s16.mono (by have := B15_.out.size; omega)))
          have N16 := hide (BoxN.new e15 #[.int .i64 0, .slice none 0 0, .slice none 0 0] 31)
          have OR16 := hide (OR15.out.below s16 (by omega))
          refine hK.out _ _ (⟨X16_.out.p.cell 0, X16_.out.p.cell 1, X16_.out.p.cell 2, X16_.out.q.cell 0, X16_.out.q.cell 1, X16_.out.q.cell 2, (Z8.out.below B16_.out (Nat.le_refl _)).box.cell 0, (Z8.out.below B16_.out (Nat.le_refl _)).box.cell 1, (Z8.out.below B16_.out (Nat.le_refl _)).box.cell 2⟩) (fun hHeld => ?_)
          clear hK K
          try simp only [Act.put, List.getElem_toArray, List.getElem_cons_succ, List.getElem_cons_zero, List.setIfInBounds_toArray, List.set_cons_zero, List.set_cons_succ]
          generalize (e15.alloc (.cells #[.int .i64 0, .slice none 0 0, .slice none 0 0] 31)) = e16 at *
          obtain ⟨nb, hnb⟩ : ∃ nb, nb = e15.heap.size := ⟨_, rfl⟩
          have NN := N16
          rw [← hnb] at NN ⊢
          have hnb5 : w8.heap.size ≤ nb := by have := BD.out.size; omega
          have hnb6 : nb < e16.heap.size := NN.out.lt
          have hlo5 : w8.heap.size ≤ e14.heap.size := by have := BD.out.size; omega
          have hhi5 : e15.heap.size ≤ e16.heap.size := by omega
          have hdis : nb < e14.heap.size ∨ e15.heap.size ≤ nb := by omega
          have ZN := hide (ZB.stored NN.out OR16.out hlo5 hhi5 hnb5 hnb6 hdis)
          have hwl : w8.heap.size ≤ nb := hnb5
          have m0 : e16.cell? ⟨nb, 0, none⟩ = some (.int .i64 0) := NN.out.cell 0
          have n0 := NN.out.fro 0
          have T0 := hide (NN.out.set 0 (.int .i64 r.z))
          have m1 : (e16.setCell ⟨nb, 0, none⟩ (.int .i64 r.z)).cell? ⟨nb, 1, none⟩ = some (.slice none 0 0) := T0.out.cell 1
          have n1 := T0.out.fro 1
          have T1 := hide (T0.out.set 1 (.slice Ar r.of.length cr))
          have m2 : ((e16.setCell ⟨nb, 0, none⟩ (.int .i64 r.z)).setCell ⟨nb, 1, none⟩ (.slice Ar r.of.length cr)).cell? ⟨nb, 2, none⟩ = some (.slice none 0 0) := T1.out.cell 2
          have n2 := T1.out.fro 2
          have T2 := hide (T1.out.set 2 (.slice Br r.ch.length dr))
          have BE := hide (((B16_.out.setCell (p := ⟨nb, 0, none⟩) (by dsimp only; omega) (.int .i64 r.z)).setCell (p := ⟨nb, 1, none⟩) (by dsimp only; omega) (.slice Ar r.of.length cr)).setCell (p := ⟨nb, 2, none⟩) (by dsimp only; omega) (.slice Br r.ch.length dr))
          have XE := hide (X8.out.belowB BE.out X8.out.sz)
          clear hnb
          refine wpAnyH_ready (rs := [8]) (by kernel_rfl) (by simp) ?_
          refine AllReadyH.cons rfl (fun K hK => ?_) AllReadyH.nil
          try simp only [Act.put, List.getElem_toArray, List.getElem_cons_succ, List.getElem_cons_zero, List.setIfInBounds_toArray, List.set_cons_zero, List.set_cons_succ]
          go_simp
          refine hK.out _ _ (⟨XE.out.p.cell 0, XE.out.p.cell 1, XE.out.p.cell 2, XE.out.q.cell 0, XE.out.q.cell 1, XE.out.q.cell 2, (Z8.out.below BE.out (Nat.le_refl _)).box.cell 0, (Z8.out.below BE.out (Nat.le_refl _)).box.cell 1, (Z8.out.below BE.out (Nat.le_refl _)).box.cell 2⟩) (fun hHeld => ?_)
          clear hK K
          try simp only [Act.put, List.getElem_toArray, List.getElem_cons_succ, List.getElem_cons_zero, List.setIfInBounds_toArray, List.set_cons_zero, List.set_cons_succ]
          refine wpAnyH_take (i := 9) (v := ?_) rfl (by kernel_rfl) (by kernel_rfl) (by kernel_rfl) (fun _ _ _ h => h) (Or.inl ⟨by rfl, ?_⟩) (by assumption) ?_
          rotate_left 1
          · (intro w hSw; (try dsimp only at hSw); go_simp; try with_reducible rfl)
          try simp only [Act.put, List.getElem_toArray, List.getElem_cons_succ, List.getElem_cons_zero, List.setIfInBounds_toArray, List.set_cons_zero, List.set_cons_succ]
          refine wpAnyH_done (by kernel_rfl) ?_ _
          go_wp2_with fail
          go_meet
          exact ⟨nb, Ar, cr, Br, dr, rfl, rfl, BE, hide (by have h := ZN.out; simpa using h)⟩
        · try simp only [Act.put, List.getElem_toArray, List.getElem_cons_succ, List.getElem_cons_zero, List.setIfInBounds_toArray, List.set_cons_zero, List.set_cons_succ]
          go_simp
          have s17 : Below e14.heap.size e14 (e14.alloc (.cells #[.int .i64 0, .slice none 0 0, .slice none 0 0] 31)) := (Below.refl _ _).alloc (Nat.le_refl _) _
          have z17 : e14.heap.size + 1 = (e14.alloc (.cells #[.int .i64 0, .slice none 0 0, .slice none 0 0] 31)).heap.size := by simp
          have X17_ := hide (X14_.out.below s17)
          have B17_ := hide (B14_.out.trans (s17.mono (by have := B14_.out.size; omega)))
          have N17 := hide (BoxN.new e14 #[.int .i64 0, .slice none 0 0, .slice none 0 0] 31)
          refine hK.out _ _ (⟨X17_.out.p.cell 0, X17_.out.p.cell 1, X17_.out.p.cell 2, X17_.out.q.cell 0, X17_.out.q.cell 1, X17_.out.q.cell 2, (Z8.out.below B17_.out (Nat.le_refl _)).box.cell 0, (Z8.out.below B17_.out (Nat.le_refl _)).box.cell 1, (Z8.out.below B17_.out (Nat.le_refl _)).box.cell 2⟩) (fun hHeld => ?_)
          clear hK K
          try simp only [Act.put, List.getElem_toArray, List.getElem_cons_succ, List.getElem_cons_zero, List.setIfInBounds_toArray, List.set_cons_zero, List.set_cons_succ]
          generalize (e14.alloc (.cells #[.int .i64 0, .slice none 0 0, .slice none 0 0] 31)) = e17 at *
          refine wpAnyH_ready (rs := [3]) (by kernel_rfl) (by simp) ?_
          refine AllReadyH.cons rfl (fun K hK => ?_) AllReadyH.nil
          try simp only [Act.put, List.getElem_toArray, List.getElem_cons_succ, List.getElem_cons_zero, List.setIfInBounds_toArray, List.set_cons_zero, List.set_cons_succ]
          go_simp
          go_at_call 11
          refine (HP.out _ _ ((O8.out.below B17_.out h8).r) (capZ_of (O8.out.below B17_.out h8))).mono ?_
          rintro e e18 ⟨rv, rfl, orr, s18⟩
          obtain ⟨Ar, cr, Br, dr, rfl, _, _⟩ := orr.r
          have OR18 := hide orr
          clear orr
          have z18 := s18.size
          have X18_ := hide (X17_.out.below s18)
          have B18_ := hide (B17_.out.trans (s18.mono (by have := B17_.out.size; omega)))
          have N18 := hide (N17.out.below s18 (by have := N17.out.lt; omega))
          dsimp only
          refine hK.out _ _ (⟨X18_.out.p.cell 0, X18_.out.p.cell 1, X18_.out.p.cell 2, X18_.out.q.cell 0, X18_.out.q.cell 1, X18_.out.q.cell 2, (Z8.out.below B18_.out (Nat.le_refl _)).box.cell 0, (Z8.out.below B18_.out (Nat.le_refl _)).box.cell 1, (Z8.out.below B18_.out (Nat.le_refl _)).box.cell 2⟩) (fun hHeld => ?_)
          clear hK K
          try simp only [Act.put, List.getElem_toArray, List.getElem_cons_succ, List.getElem_cons_zero, List.setIfInBounds_toArray, List.set_cons_zero, List.set_cons_succ]
          refine wpAnyH_take (i := 4) (v := ?_) rfl (by kernel_rfl) (by kernel_rfl) (by kernel_rfl) (fun _ _ _ h => h) (Or.inl ⟨by rfl, ?_⟩) (by assumption) ?_
          rotate_left 1
          · (intro w hSw; (try dsimp only at hSw); go_simp; try with_reducible rfl)
          try simp only [Act.put, List.getElem_toArray, List.getElem_cons_succ, List.getElem_cons_zero, List.setIfInBounds_toArray, List.set_cons_zero, List.set_cons_succ]
          refine wpAnyH_take (i := 5) (v := ?_) rfl (by kernel_rfl) (by kernel_rfl) (by kernel_rfl) (fun _ _ _ h => h) (Or.inl ⟨by rfl, ?_⟩) (by assumption) ?_
          rotate_left 1
          · (intro w hSw; (try dsimp only at hSw); go_simp; try with_reducible rfl)
          try simp only [Act.put, List.getElem_toArray, List.getElem_cons_succ, List.getElem_cons_zero, List.setIfInBounds_toArray, List.set_cons_zero, List.set_cons_succ]
          refine wpAnyH_take (i := 6) (v := ?_) rfl (by kernel_rfl) (by kernel_rfl) (by kernel_rfl) (fun _ _ _ h => h) (Or.inl ⟨by rfl, ?_⟩) (by assumption) ?_
          rotate_left 1
          · (intro w hSw; (try dsimp only at hSw); go_simp; try with_reducible rfl)
          try simp only [Act.put, List.getElem_toArray, List.getElem_cons_succ, List.getElem_cons_zero, List.setIfInBounds_toArray, List.set_cons_zero, List.set_cons_succ]
          obtain ⟨nb, hnb⟩ : ∃ nb, nb = e14.heap.size := ⟨_, rfl⟩
          have NN := N18
          rw [← hnb] at NN ⊢
          have hnb5 : w8.heap.size ≤ nb := by have := BD.out.size; omega
          have hnb6 : nb < e18.heap.size := NN.out.lt
          have hlo5 : w8.heap.size ≤ e17.heap.size := by have := BD.out.size; omega
          have hhi5 : e18.heap.size ≤ e18.heap.size := by omega
          have hdis : nb < e17.heap.size ∨ e18.heap.size ≤ nb := by omega
          have ZN := hide (ZB.stored NN.out OR18.out hlo5 hhi5 hnb5 hnb6 hdis)
          have hwl : w8.heap.size ≤ nb := hnb5
          have m0 : e18.cell? ⟨nb, 0, none⟩ = some (.int .i64 0) := NN.out.cell 0
          have n0 := NN.out.fro 0
          have T0 := hide (NN.out.set 0 (.int .i64 r.z))
          have m1 : (e18.setCell ⟨nb, 0, none⟩ (.int .i64 r.z)).cell? ⟨nb, 1, none⟩ = some (.slice none 0 0) := T0.out.cell 1
          have n1 := T0.out.fro 1
          have T1 := hide (T0.out.set 1 (.slice Ar r.of.length cr))
          have m2 : ((e18.setCell ⟨nb, 0, none⟩ (.int .i64 r.z)).setCell ⟨nb, 1, none⟩ (.slice Ar r.of.length cr)).cell? ⟨nb, 2, none⟩ = some (.slice none 0 0) := T1.out.cell 2
          have n2 := T1.out.fro 2
          have T2 := hide (T1.out.set 2 (.slice Br r.ch.length dr))
          have BE := hide (((B18_.out.setCell (p := ⟨nb, 0, none⟩) (by dsimp only; omega) (.int .i64 r.z)).setCell (p := ⟨nb, 1, none⟩) (by dsimp only; omega) (.slice Ar r.of.length cr)).setCell (p := ⟨nb, 2, none⟩) (by dsimp only; omega) (.slice Br r.ch.length dr))
          have XE := hide (X8.out.belowB BE.out X8.out.sz)
          clear hnb
          refine wpAnyH_ready (rs := [8]) (by kernel_rfl) (by simp) ?_
          refine AllReadyH.cons rfl (fun K hK => ?_) AllReadyH.nil
          try simp only [Act.put, List.getElem_toArray, List.getElem_cons_succ, List.getElem_cons_zero, List.setIfInBounds_toArray, List.set_cons_zero, List.set_cons_succ]
          go_simp
          refine hK.out _ _ (⟨XE.out.p.cell 0, XE.out.p.cell 1, XE.out.p.cell 2, XE.out.q.cell 0, XE.out.q.cell 1, XE.out.q.cell 2, (Z8.out.below BE.out (Nat.le_refl _)).box.cell 0, (Z8.out.below BE.out (Nat.le_refl _)).box.cell 1, (Z8.out.below BE.out (Nat.le_refl _)).box.cell 2⟩) (fun hHeld => ?_)
          clear hK K
          try simp only [Act.put, List.getElem_toArray, List.getElem_cons_succ, List.getElem_cons_zero, List.setIfInBounds_toArray, List.set_cons_zero, List.set_cons_succ]
          refine wpAnyH_take (i := 9) (v := ?_) rfl (by kernel_rfl) (by kernel_rfl) (by kernel_rfl) (fun _ _ _ h => h) (Or.inl ⟨by rfl, ?_⟩) (by assumption) ?_
          rotate_left 1
          · (intro w hSw; (try dsimp only at hSw); go_simp; try with_reducible rfl)
          try simp only [Act.put, List.getElem_toArray, List.getElem_cons_succ, List.getElem_cons_zero, List.setIfInBounds_toArray, List.set_cons_zero, List.set_cons_succ]
          refine wpAnyH_done (by kernel_rfl) ?_ _
          go_wp2_with fail
          go_meet
          exact ⟨nb, Ar, cr, Br, dr, rfl, rfl, BE, hide (by have h := ZN.out; simpa using h)⟩
      · try simp only [Act.put, List.getElem_toArray, List.getElem_cons_succ, List.getElem_cons_zero, List.setIfInBounds_toArray, List.set_cons_zero, List.set_cons_succ]
        go_simp
        have s19 : Below wd.heap.size wd (wd.alloc (.cells #[.int .i64 0, .slice none 0 0, .slice none 0 0] 31)) := (Below.refl _ _).alloc (Nat.le_refl _) _
        have z19 : wd.heap.size + 1 = (wd.alloc (.cells #[.int .i64 0, .slice none 0 0, .slice none 0 0] 31)).heap.size := by simp
        have X19_ := hide (XD.out.below s19)
        have B19_ := hide (BD.out.trans (s19.mono (by have := BD.out.size; omega)))
        have N19 := hide (BoxN.new wd #[.int .i64 0, .slice none 0 0, .slice none 0 0] 31)
        refine hK.out _ _ (⟨X19_.out.p.cell 0, X19_.out.p.cell 1, X19_.out.p.cell 2, X19_.out.q.cell 0, X19_.out.q.cell 1, X19_.out.q.cell 2, (Z8.out.below B19_.out (Nat.le_refl _)).box.cell 0, (Z8.out.below B19_.out (Nat.le_refl _)).box.cell 1, (Z8.out.below B19_.out (Nat.le_refl _)).box.cell 2⟩) (fun hHeld => ?_)
        clear hK K
        try simp only [Act.put, List.getElem_toArray, List.getElem_cons_succ, List.getElem_cons_zero, List.setIfInBounds_toArray, List.set_cons_zero, List.set_cons_succ]
        generalize (wd.alloc (.cells #[.int .i64 0, .slice none 0 0, .slice none 0 0] 31)) = e19 at *
        refine wpAnyH_ready (rs := [2]) (by kernel_rfl) (by simp) ?_
        refine AllReadyH.cons rfl (fun K hK => ?_) AllReadyH.nil
        try simp only [Act.put, List.getElem_toArray, List.getElem_cons_succ, List.getElem_cons_zero, List.setIfInBounds_toArray, List.set_cons_zero, List.set_cons_succ]
        go_simp
        go_at_call 10
        refine (toChange_any y _).mono ?_
        rintro e e20 ⟨rfl, s20⟩
        have z20 := s20.size
        have X20_ := hide (X19_.out.below s20)
        have B20_ := hide (B19_.out.trans (s20.mono (by have := B19_.out.size; omega)))
        have N20 := hide (N19.out.below s20 (by have := N19.out.lt; omega))
        dsimp only
        refine hK.out _ _ (⟨X20_.out.p.cell 0, X20_.out.p.cell 1, X20_.out.p.cell 2, X20_.out.q.cell 0, X20_.out.q.cell 1, X20_.out.q.cell 2, (Z8.out.below B20_.out (Nat.le_refl _)).box.cell 0, (Z8.out.below B20_.out (Nat.le_refl _)).box.cell 1, (Z8.out.below B20_.out (Nat.le_refl _)).box.cell 2⟩) (fun hHeld => ?_)
        clear hK K
        try simp only [Act.put, List.getElem_toArray, List.getElem_cons_succ, List.getElem_cons_zero, List.setIfInBounds_toArray, List.set_cons_zero, List.set_cons_succ]
        refine wpAnyH_ready (rs := [3]) (by kernel_rfl) (by simp) ?_
        refine AllReadyH.cons rfl (fun K hK => ?_) AllReadyH.nil
        try simp only [Act.put, List.getElem_toArray, List.getElem_cons_succ, List.getElem_cons_zero, List.setIfInBounds_toArray, List.set_cons_zero, List.set_cons_succ]
        go_simp
        go_at_call 11
        refine (HP.out _ _ ((O8.out.below B20_.out h8).r) (capZ_of (O8.out.below B20_.out h8))).mono ?_
        rintro e e21 ⟨rv, rfl, orr, s21⟩
        obtain ⟨Ar, cr, Br, dr, rfl, _, _⟩ := orr.r
        have OR21 := hide orr
        clear orr
        have z21 := s21.size
        have X21_ := hide (X20_.out.below s21)
        have B21_ := hide (B20_.out.trans (s21.mono (by have := B20_.out.size; omega)))
        have N21 := hide (N20.out.below s21 (by have := N20.out.lt; omega))
        dsimp only
        refine hK.out _ _ (⟨X21_.out.p.cell 0, X21_.out.p.cell 1, X21_.out.p.cell 2, X21_.out.q.cell 0, X21_.out.q.cell 1, X21_.out.q.cell 2, (Z8.out.below B21_.out (Nat.le_refl _)).box.cell 0, (Z8.out.below B21_.out (Nat.le_refl _)).box.cell 1, (Z8.out.below B21_.out (Nat.le_refl _)).box.cell 2⟩) (fun hHeld => ?_)
        clear hK K
        try simp only [Act.put, List.getElem_toArray, List.getElem_cons_succ, List.getElem_cons_zero, List.setIfInBounds_toArray, List.set_cons_zero, List.set_cons_succ]
        refine wpAnyH_take (i := 4) (v := ?_) rfl (by kernel_rfl) (by kernel_rfl) (by kernel_rfl) (fun _ _ _ h => h) (Or.inl ⟨by rfl, ?_⟩) (by assumption) ?_
        rotate_left 1
        · (intro w hSw; (try dsimp only at hSw); go_simp; try with_reducible rfl)
        try simp only [Act.put, List.getElem_toArray, List.getElem_cons_succ, List.getElem_cons_zero, List.setIfInBounds_toArray, List.set_cons_zero, List.set_cons_succ]
        refine wpAnyH_take (i := 5) (v := ?_) rfl (by kernel_rfl) (by kernel_rfl) (by kernel_rfl) (fun _ _ _ h => h) (Or.inl ⟨by rfl, ?_⟩) (by assumption) ?_
        rotate_left 1
        · (intro w hSw; (try dsimp only at hSw); go_simp; try with_reducible rfl)
        try simp only [Act.put, List.getElem_toArray, List.getElem_cons_succ, List.getElem_cons_zero, List.setIfInBounds_toArray, List.set_cons_zero, List.set_cons_succ]
        refine wpAnyH_take (i := 6) (v := ?_) rfl (by kernel_rfl) (by kernel_rfl) (by kernel_rfl) (fun _ _ _ h => h) (Or.inl ⟨by rfl, ?_⟩) (by assumption) ?_
        rotate_left 1
        · (intro w hSw; (try dsimp only at hSw); go_simp; try with_reducible rfl)
        try simp only [Act.put, List.getElem_toArray, List.getElem_cons_succ, List.getElem_cons_zero, List.setIfInBounds_toArray, List.set_cons_zero, List.set_cons_succ]
        obtain ⟨nb, hnb⟩ : ∃ nb, nb = wd.heap.size := ⟨_, rfl⟩
        have NN := N21
        rw [← hnb] at NN ⊢
        have hnb5 : w8.heap.size ≤ nb := by have := BD.out.size; omega
        have hnb6 : nb < e21.heap.size := NN.out.lt
        have hlo5 : w8.heap.size ≤ e20.heap.size := by have := BD.out.size; omega
        have hhi5 : e21.heap.size ≤ e21.heap.size := by omega
        have hdis : nb < e20.heap.size ∨ e21.heap.size ≤ nb := by omega
        have ZN := hide (ZB.stored NN.out OR21.out hlo5 hhi5 hnb5 hnb6 hdis)
        have hwl : w8.heap.size ≤ nb := hnb5
        have m0 : e21.cell? ⟨nb, 0, none⟩ = some (.int .i64 0) := NN.out.cell 0
        have n0 := NN.out.fro 0
        have T0 := hide (NN.out.set 0 (.int .i64 r.z))
        have m1 : (e21.setCell ⟨nb, 0, none⟩ (.int .i64 r.z)).cell? ⟨nb, 1, none⟩ = some (.slice none 0 0) := T0.out.cell 1
        have n1 := T0.out.fro 1
        have T1 := hide (T0.out.set 1 (.slice Ar r.of.length cr))
        have m2 : ((e21.setCell ⟨nb, 0, none⟩ (.int .i64 r.z)).setCell ⟨nb, 1, none⟩ (.slice Ar r.of.length cr)).cell? ⟨nb, 2, none⟩ = some (.slice none 0 0) := T1.out.cell 2
        have n2 := T1.out.fro 2
        have T2 := hide (T1.out.set 2 (.slice Br r.ch.length dr))
        have BE := hide (((B21_.out.setCell (p := ⟨nb, 0, none⟩) (by dsimp only; omega) (.int .i64 r.z)).setCell (p := ⟨nb, 1, none⟩) (by dsimp only; omega) (.slice Ar r.of.length cr)).setCell (p := ⟨nb, 2, none⟩) (by dsimp only; omega) (.slice Br r.ch.length dr))
        have XE := hide (X8.out.belowB BE.out X8.out.sz)
        clear hnb
        refine wpAnyH_ready (rs := [8]) (by kernel_rfl) (by simp) ?_
        refine AllReadyH.cons rfl (fun K hK => ?_) AllReadyH.nil
        try simp only [Act.put, List.getElem_toArray, List.getElem_cons_succ, List.getElem_cons_zero, List.setIfInBounds_toArray, List.set_cons_zero, List.set_cons_succ]
        go_simp
        refine hK.out _ _ (⟨XE.out.p.cell 0, XE.out.p.cell 1, XE.out.p.cell 2, XE.out.q.cell 0, XE.out.q.cell 1, XE.out.q.cell 2, (Z8.out.below BE.out (Nat.le_refl _)).box.cell 0, (Z8.out.below BE.out (Nat.le_refl _)).box.cell 1, (Z8.out.below BE.out (Nat.le_refl _)).box.cell 2⟩) (fun hHeld => ?_)
        clear hK K
        try simp only [Act.put, List.getElem_toArray, List.getElem_cons_succ, List.getElem_cons_zero, List.setIfInBounds_toArray, List.set_cons_zero, List.set_cons_succ]
        refine wpAnyH_take (i := 9) (v := ?_) rfl (by kernel_rfl) (by kernel_rfl) (by kernel_rfl) (fun _ _ _ h => h) (Or.inl ⟨by rfl, ?_⟩) (by assumption) ?_
        rotate_left 1
        · (intro w hSw; (try dsimp only at hSw); go_simp; try with_reducible rfl)
        try simp only [Act.put, List.getElem_toArray, List.getElem_cons_succ, List.getElem_cons_zero, List.setIfInBounds_toArray, List.set_cons_zero, List.set_cons_succ]
        refine wpAnyH_done (by kernel_rfl) ?_ _
        go_wp2_with fail
        go_meet
        exact ⟨nb, Ar, cr, Br, dr, rfl, rfl, BE, hide (by have h := ZN.out; simpa using h)⟩
    case rest =>
    obtain ⟨b9, A9, c9, B9, d9, rfl, rfl, BB9, Z9⟩ := hcut
    obtain ⟨w9, hw9⟩ : ∃ q, q = wc := ⟨wc, rfl⟩
    subst hw9
    have z9 := BB9.out.size
    have zz68 := B68.out.size
    have X9 := hide (X8.out.belowB BB9.out X8.out.sz)
    have Z6_9 := hide (Z6_8.out.below BB9.out zz68)
    have Z8_9 := hide (Z8.out.below BB9.out (Nat.le_refl _))
    have O8_9 := hide (O8.out.below BB9.out h8)
    obtain ⟨lo6, hi6, o6, l6, h6, d6_⟩ := Z6_9.out.own
    obtain ⟨lo9, hi9, o9, l9, h9, d9_⟩ := Z9.out.own
    have O6 := hide o6
    have O9 := hide o9
    clear o6 o9
    have k9_0 : w9.cell? ⟨b9, 0, none⟩ = some (.int .i64 r.z) := Z9.out.box.cell 0
    have k9_1 : w9.cell? ⟨b9, 1, none⟩ = some (.slice A9 r.of.length c9) := Z9.out.box.cell 1
    have k9_2 : w9.cell? ⟨b9, 2, none⟩ = some (.slice B9 r.ch.length d9) := Z9.out.box.cell 2
    have k6_0 : w9.cell? ⟨b6, 0, none⟩ = some (.int .i64 r.z) := Z6_9.out.box.cell 0
    have k6_1 : w9.cell? ⟨b6, 1, none⟩ = some (.slice A6 r.of.length c6) := Z6_9.out.box.cell 1
    have k6_2 : w9.cell? ⟨b6, 2, none⟩ = some (.slice B6 r.ch.length d6) := Z6_9.out.box.cell 2
    go_upto_region 10 with (go_at_call 12; (with_reducible refine (L_eq_Zoned _ _ _ _ _ _ _ _ O9.out O6.out).mono ?_); rintro e w10 ⟨rfl, s10⟩)
    have z10 := s10.size
    have X10 := hide (X9.out.below s10)
    have Z6_10 := hide (Z6_9.out.below s10 (by omega))
    have Z8_10 := hide (Z8_9.out.below s10 (by omega))
    have Z9_10 := hide (Z9.out.below s10 (Nat.le_refl _))
    have O6_10 := hide (O6.out.below s10 (by omega))
    have O8_10 := hide (O8_9.out.below s10 (by omega))
    have O9_10 := hide (O9.out.below s10 (by omega))
    clear k9_0 k9_1 k9_2 k6_0 k6_1 k6_2
    have XD := hide (X10.out.below (Below.refl _ _).drew)
    have BD : Hid (Below w10.heap.size w10 w10.drew) := (Below.refl _ _).drew
    have zD : w10.heap.size ≤ w10.drew.heap.size := Nat.le_refl _
    refine wp_region_held_drew (S := fun W => W.cell? ⟨w.heap.size, 0, none⟩ = some (.int .i64 x.z) ∧ W.cell? ⟨w.heap.size, 1, none⟩ = some (.slice A x.of.length c) ∧ W.cell? ⟨w.heap.size, 2, none⟩ = some (.slice B x.ch.length d) ∧ W.cell? ⟨w.heap.size + 1, 0, none⟩ = some (.int .i64 y.a) ∧ W.cell? ⟨w.heap.size + 1, 1, none⟩ = some (.int .i64 y.b) ∧ W.cell? ⟨w.heap.size + 1, 2, none⟩ = some (.int .i64 y.c) ∧ W.cell? ⟨b8, 0, none⟩ = some (.int .i64 x.z) ∧ W.cell? ⟨b8, 1, none⟩ = some (.slice A8 x.of.length c8) ∧ W.cell? ⟨b8, 2, none⟩ = some (.slice B8 x.ch.length d8)) (by kernel_rfl) (⟨XD.out.p.cell 0, XD.out.p.cell 1, XD.out.p.cell 2, XD.out.q.cell 0, XD.out.q.cell 1, XD.out.q.cell 2, (Z8_10.out.below BD.out (by omega)).box.cell 0, (Z8_10.out.below BD.out (by omega)).box.cell 1, (Z8_10.out.below BD.out (by omega)).box.cell 2⟩) (fun hHeld => ?_)
    generalize w10.drew = wd at *
    refine wpAnyH_take (i := 0) (v := ?_) rfl (by kernel_rfl) (by kernel_rfl) (by kernel_rfl) (fun _ _ _ h => h) (Or.inl ⟨by rfl, ?_⟩) (by assumption) ?_
    rotate_left 1
    · (intro w hSw; (try dsimp only at hSw); go_simp; try with_reducible rfl)
    try simp only [Act.put, List.getElem_toArray, List.getElem_cons_succ, List.getElem_cons_zero, List.setIfInBounds_toArray, List.set_cons_zero, List.set_cons_succ]
    refine wpAnyH_take (i := 1) (v := ?_) rfl (by kernel_rfl) (by kernel_rfl) (by kernel_rfl) (fun _ _ _ h => h) (Or.inl ⟨by rfl, ?_⟩) (by assumption) ?_
    rotate_left 1
    · (intro w hSw; (try dsimp only at hSw); go_simp; try with_reducible rfl)
    try simp only [Act.put, List.getElem_toArray, List.getElem_cons_succ, List.getElem_cons_zero, List.setIfInBounds_toArray, List.set_cons_zero, List.set_cons_succ]
    refine wpAnyH_ready (rs := [2]) (by kernel_rfl) (by simp) ?_
    refine AllReadyH.cons rfl (fun K hK => ?_) AllReadyH.nil
    try simp only [Act.put, List.getElem_toArray, List.getElem_cons_succ, List.getElem_cons_zero, List.setIfInBounds_toArray, List.set_cons_zero, List.set_cons_succ]
    go_simp
    go_at_call 9
    refine (HTO.out _ XD.out).mono ?_
    rintro e e1 ⟨tv, rfl, ot, s1⟩
    have X11a := hide (XD.out.below s1)
    have B11a := hide (BD.out.trans (s1.mono zD))
    have z1 := s1.size
    dsimp only
    refine hK.out _ _ (⟨X11a.out.p.cell 0, X11a.out.p.cell 1, X11a.out.p.cell 2, X11a.out.q.cell 0, X11a.out.q.cell 1, X11a.out.q.cell 2, (Z8_10.out.below B11a.out (by omega)).box.cell 0, (Z8_10.out.below B11a.out (by omega)).box.cell 1, (Z8_10.out.below B11a.out (by omega)).box.cell 2⟩) (fun hHeld => ?_)
    clear hK K
    try simp only [Act.put, List.getElem_toArray, List.getElem_cons_succ, List.getElem_cons_zero, List.setIfInBounds_toArray, List.set_cons_zero, List.set_cons_succ]
    refine wpAnyH_ready (rs := [3]) (by kernel_rfl) (by simp) ?_
    refine AllReadyH.cons rfl (fun K hK => ?_) AllReadyH.nil
    try simp only [Act.put, List.getElem_toArray, List.getElem_cons_succ, List.getElem_cons_zero, List.setIfInBounds_toArray, List.set_cons_zero, List.set_cons_succ]
    go_simp
    go_at_call 12
    refine (L_eq_Zoned x _ _ _ _ _ _ _ (O8_10.out.below B11a.out (by omega)) ot).mono ?_
    rintro e w11 ⟨rfl, s11⟩
    have X11 := hide (X11a.out.below s11)
    have B11 := hide (B11a.out.trans (s11.mono (by omega)))
    have z11 := B11.out.size
    dsimp only
    refine hK.out _ _ (⟨X11.out.p.cell 0, X11.out.p.cell 1, X11.out.p.cell 2, X11.out.q.cell 0, X11.out.q.cell 1, X11.out.q.cell 2, (Z8_10.out.below B11.out (by omega)).box.cell 0, (Z8_10.out.below B11.out (by omega)).box.cell 1, (Z8_10.out.below B11.out (by omega)).box.cell 2⟩) (fun hHeld => ?_)
    clear hK K
    try simp only [Act.put, List.getElem_toArray, List.getElem_cons_succ, List.getElem_cons_zero, List.setIfInBounds_toArray, List.set_cons_zero, List.set_cons_succ]
    refine wpAnyH_take (i := 4) (v := ?_) rfl (by kernel_rfl) (by kernel_rfl) (by kernel_rfl) (fun _ _ _ h => h) (Or.inl ⟨by rfl, ?_⟩) (by assumption) ?_
    rotate_left 1
    · (intro w hSw; (try dsimp only at hSw); go_simp; try with_reducible rfl)
    try simp only [Act.put, List.getElem_toArray, List.getElem_cons_succ, List.getElem_cons_zero, List.setIfInBounds_toArray, List.set_cons_zero, List.set_cons_succ]
    refine wpAnyH_done (by kernel_rfl) ?_ _
    have Z6_11 := hide (Z6_10.out.below B11.out (by omega))
    have Z8_11 := hide (Z8_10.out.below B11.out (by omega))
    have Z9_11 := hide (Z9_10.out.below B11.out (by omega))
    have O6_11 := hide (O6_10.out.below B11.out (by omega))
    have O8_11 := hide (O8_10.out.below B11.out (by omega))
    have O9_11 := hide (O9_10.out.below B11.out (by omega))
    clear B11a X11a XD BD zD ot s1 s11 z1
    obtain ⟨cx0, cx1⟩ := O8_11.out.cnt
    have hk14 : ¬ (1 + cnt_Zoned x < 0) := by omega
    have k8_0 : w11.cell? ⟨b8, 0, none⟩ = some (.int .i64 x.z) := Z8_11.out.box.cell 0
    have k8_1 : w11.cell? ⟨b8, 1, none⟩ = some (.slice A8 x.of.length c8) := Z8_11.out.box.cell 1
    have k8_2 : w11.cell? ⟨b8, 2, none⟩ = some (.slice B8 x.ch.length d8) := Z8_11.out.box.cell 2
    go_upto_region 14 with (go_at_call 13; (with_reducible refine (L_mark_Zoned x _ 1 lo8 hi8 _ (by omega) (by omega) (by omega) O8_11.out).mono ?_); rintro e w13 ⟨rfl, _, s13⟩)
    have z13 := s13.size
    have zx := X11.out.sz
    have zx6 := X6.out.sz
    have zx2 := X2.out.sz
    have zb6 := BB6.out.size
    have X13 := hide (X11.out.belowB (s13.below (B := w.heap.size + 2) (by omega) (by omega)) (Nat.le_refl _))
    have Z6_13 := hide (Z6_11.out.only s13 (by omega))
    have Z9_13 := hide (Z9_11.out.only s13 (by omega))
    have O6_13 := hide (O6_11.out.kept s13 (by omega))
    have O9_13 := hide (O9_11.out.kept s13 (by omega))
    clear k8_0 k8_1 k8_2
    have k9_0 : w13.cell? ⟨b9, 0, none⟩ = some (.int .i64 r.z) := Z9_13.out.box.cell 0
    have k9_1 : w13.cell? ⟨b9, 1, none⟩ = some (.slice A9 r.of.length c9) := Z9_13.out.box.cell 1
    have k9_2 : w13.cell? ⟨b9, 2, none⟩ = some (.slice B9 r.ch.length d9) := Z9_13.out.box.cell 2
    have k6_0 : w13.cell? ⟨b6, 0, none⟩ = some (.int .i64 r.z) := Z6_13.out.box.cell 0
    have k6_1 : w13.cell? ⟨b6, 1, none⟩ = some (.slice A6 r.of.length c6) := Z6_13.out.box.cell 1
    have k6_2 : w13.cell? ⟨b6, 2, none⟩ = some (.slice B6 r.ch.length d6) := Z6_13.out.box.cell 2
    go_upto_region 17 with (go_at_call 12; (with_reducible refine (L_eq_Zoned _ _ _ _ _ _ _ _ O9_13.out O6_13.out).mono ?_); rintro e w14 ⟨rfl, s14⟩)
    have z14 := s14.size
    have X14 := hide (X13.out.below s14)
    have Z6_14 := hide (Z6_13.out.below s14 (by omega))
    have Z9_14 := hide (Z9_13.out.below s14 (by omega))
    have O6_14 := hide (O6_13.out.below s14 (by omega))
    have O9_14 := hide (O9_13.out.below s14 (by omega))
    obtain ⟨cr0, cr1⟩ := O9_14.out.cnt
    have hk20 : ¬ (1 + cnt_Zoned r < 0) := by omega
    clear k9_0 k9_1 k9_2 k6_0 k6_1 k6_2
    have k9_0 : w14.cell? ⟨b9, 0, none⟩ = some (.int .i64 r.z) := Z9_14.out.box.cell 0
    have k9_1 : w14.cell? ⟨b9, 1, none⟩ = some (.slice A9 r.of.length c9) := Z9_14.out.box.cell 1
    have k9_2 : w14.cell? ⟨b9, 2, none⟩ = some (.slice B9 r.ch.length d9) := Z9_14.out.box.cell 2
    go_upto_region 19 with (go_at_call 13; (with_reducible refine (L_mark_Zoned r _ 1 lo9 hi9 _ (by omega) (by omega) (by omega) O9_14.out).mono ?_); rintro e w17 ⟨rfl, o9m, s17⟩)
    have z17 := s17.size
    have X17 := hide (X14.out.belowB (s17.below (B := w.heap.size + 2) (by omega) (by omega)) (Nat.le_refl _))
    have Z6_17 := hide (Z6_14.out.only s17 (by omega))
    have O6_17 := hide (O6_14.out.kept s17 (by omega))
    have Z9_17 := hide (Z9_14.out.marked o9m s17 l9 h9 d9_)
    have O9_17 := hide o9m
    clear o9m s17
    clear k9_0 k9_1 k9_2
    have k9_0 : w17.cell? ⟨b9, 0, none⟩ = some (.int .i64 r.z) := Z9_17.out.box.cell 0
    have k9_1 : w17.cell? ⟨b9, 1, none⟩ = some (.slice A9 r.of.length c9) := Z9_17.out.box.cell 1
    have k9_2 : w17.cell? ⟨b9, 2, none⟩ = some (.slice B9 r.ch.length d9) := Z9_17.out.box.cell 2
    go_upto_region 24 with (go_at_call 14; (with_reducible refine (L_held_Zoned r _ 1 lo9 hi9 _ (by omega) (by omega) (by omega) O9_17.out).mono ?_); rintro e w19 ⟨rfl, s19⟩)
    have z19 := s19.size
    have X19 := hide (X17.out.below s19)
    have Z6_19 := hide (Z6_17.out.below s19 (by omega))
    have Z9_19 := hide (Z9_17.out.below s19 (by omega))
    have O6_19 := hide (O6_17.out.below s19 (by omega))
    have O9_19 := hide (O9_17.out.below s19 (by omega))
    clear k9_0 k9_1 k9_2
    go_cut [14, 15] (fun c1 c2 wx => ∃ b Ar cr Br dr, c1 = .pointer (some ⟨b, 0, none⟩) ∧ c2 = .int .i64 cd ∧ Hid (Below w19.heap.size w19 wx) ∧ Hid (ZB wx w19.heap.size wx.heap.size b #[.int .i64 r.z, .slice Ar r.of.length cr, .slice Br r.ch.length dr] r))
    case first =>
      have XD := hide (X19.out.below (Below.refl _ _).drew)
      have BD : Hid (Below w19.heap.size w19 w19.drew) := (Below.refl _ _).drew
      have zD : w19.heap.size ≤ w19.drew.heap.size := Nat.le_refl _
      refine wp_region_held_drew (S := fun W => W.cell? ⟨w.heap.size, 0, none⟩ = some (.int .i64 x.z) ∧ W.cell? ⟨w.heap.size, 1, none⟩ = some (.slice A x.of.length c) ∧ W.cell? ⟨w.heap.size, 2, none⟩ = some (.slice B x.ch.length d) ∧ W.cell? ⟨w.heap.size + 1, 0, none⟩ = some (.int .i64 y.a) ∧ W.cell? ⟨w.heap.size + 1, 1, none⟩ = some (.int .i64 y.b) ∧ W.cell? ⟨w.heap.size + 1, 2, none⟩ = some (.int .i64 y.c)) (by kernel_rfl) (⟨XD.out.p.cell 0, XD.out.p.cell 1, XD.out.p.cell 2, XD.out.q.cell 0, XD.out.q.cell 1, XD.out.q.cell 2⟩) (fun hHeld => ?_)
      generalize w19.drew = wd at *
      refine wpAnyH_take (i := 0) (v := ?_) rfl (by kernel_rfl) (by kernel_rfl) (by kernel_rfl) (fun _ _ _ h => h) (Or.inl ⟨by rfl, ?_⟩) (by assumption) ?_
      rotate_left 1
      · (intro w hSw; (try dsimp only at hSw); go_simp; try with_reducible rfl)
      try simp only [Act.put, List.getElem_toArray, List.getElem_cons_succ, List.getElem_cons_zero, List.setIfInBounds_toArray, List.set_cons_zero, List.set_cons_succ]
      refine wpAnyH_take (i := 2) (v := ?_) rfl (by kernel_rfl) (by kernel_rfl) (by kernel_rfl) (fun _ _ _ h => h) (Or.inl ⟨by rfl, ?_⟩) (by assumption) ?_
      rotate_left 1
      · (intro w hSw; (try dsimp only at hSw); go_simp; try with_reducible rfl)
      try simp only [Act.put, List.getElem_toArray, List.getElem_cons_succ, List.getElem_cons_zero, List.setIfInBounds_toArray, List.set_cons_zero, List.set_cons_succ]
      refine wpAnyH_ready (rs := [1, 8]) (by kernel_rfl) (by simp) ?_
      refine AllReadyH.cons rfl (fun K hK => ?_) (AllReadyH.cons rfl (fun K hK => ?_) AllReadyH.nil)
      · try simp only [Act.put, List.getElem_toArray, List.getElem_cons_succ, List.getElem_cons_zero, List.setIfInBounds_toArray, List.set_cons_zero, List.set_cons_succ]
        go_simp
        go_at_call 9
        refine (HTO.out _ XD.out).mono ?_
        rintro e e22 ⟨tv, rfl, ot, s22⟩
        obtain ⟨At, ct, Bt, dt, rfl, _, _⟩ := ot.r
        have OT22 := hide ot
        clear ot
        have z22 := s22.size
        have X22_ := hide (XD.out.below s22)
        have B22_ := hide (BD.out.trans (s22.mono (by have := BD.out.size; omega)))
        dsimp only
        refine hK.out _ _ (⟨X22_.out.p.cell 0, X22_.out.p.cell 1, X22_.out.p.cell 2, X22_.out.q.cell 0, X22_.out.q.cell 1, X22_.out.q.cell 2⟩) (fun hHeld => ?_)
        clear hK K
        try simp only [Act.put, List.getElem_toArray, List.getElem_cons_succ, List.getElem_cons_zero, List.setIfInBounds_toArray, List.set_cons_zero, List.set_cons_succ]
        refine wpAnyH_ready (rs := [3, 8]) (by kernel_rfl) (by simp) ?_
        refine AllReadyH.cons rfl (fun K hK => ?_) (AllReadyH.cons rfl (fun K hK => ?_) AllReadyH.nil)
        · try simp only [Act.put, List.getElem_toArray, List.getElem_cons_succ, List.getElem_cons_zero, List.setIfInBounds_toArray, List.set_cons_zero, List.set_cons_succ]
          go_simp
          go_at_call 10
          refine (toChange_any y _).mono ?_
          rintro e e23 ⟨rfl, s23⟩
          have OT23 := hide (OT22.out.below s23 (by omega))
          have z23 := s23.size
          have X23_ := hide (X22_.out.below s23)
          have B23_ := hide (B22_.out.trans (s23.mono (by have := B22_.out.size; omega)))
          dsimp only
          refine hK.out _ _ (⟨X23_.out.p.cell 0, X23_.out.p.cell 1, X23_.out.p.cell 2, X23_.out.q.cell 0, X23_.out.q.cell 1, X23_.out.q.cell 2⟩) (fun hHeld => ?_)
          clear hK K
          try simp only [Act.put, List.getElem_toArray, List.getElem_cons_succ, List.getElem_cons_zero, List.setIfInBounds_toArray, List.set_cons_zero, List.set_cons_succ]
          refine wpAnyH_ready (rs := [4, 8]) (by kernel_rfl) (by simp) ?_
          refine AllReadyH.cons rfl (fun K hK => ?_) (AllReadyH.cons rfl (fun K hK => ?_) AllReadyH.nil)
          · try simp only [Act.put, List.getElem_toArray, List.getElem_cons_succ, List.getElem_cons_zero, List.setIfInBounds_toArray, List.set_cons_zero, List.set_cons_succ]
            go_simp
            go_at_call 11
            refine (HP.out _ _ (OT23.out.r) (capZ_of OT23.out)).mono ?_
            rintro e e24 ⟨rv, rfl, orr, s24⟩
            obtain ⟨Ar, cr, Br, dr, rfl, _, _⟩ := orr.r
            have OR24 := hide orr
            clear orr
            have z24 := s24.size
            have X24_ := hide (X23_.out.below s24)
            have B24_ := hide (B23_.out.trans (s24.mono (by have := B23_.out.size; omega)))
            dsimp only
            refine hK.out _ _ (⟨X24_.out.p.cell 0, X24_.out.p.cell 1, X24_.out.p.cell 2, X24_.out.q.cell 0, X24_.out.q.cell 1, X24_.out.q.cell 2⟩) (fun hHeld => ?_)
            clear hK K
            try simp only [Act.put, List.getElem_toArray, List.getElem_cons_succ, List.getElem_cons_zero, List.setIfInBounds_toArray, List.set_cons_zero, List.set_cons_succ]
            refine wpAnyH_take (i := 5) (v := ?_) rfl (by kernel_rfl) (by kernel_rfl) (by kernel_rfl) (fun _ _ _ h => h) (Or.inl ⟨by rfl, ?_⟩) (by assumption) ?_
            rotate_left 1
            · (intro w hSw; (try dsimp only at hSw); go_simp; try with_reducible rfl)
            try simp only [Act.put, List.getElem_toArray, List.getElem_cons_succ, List.getElem_cons_zero, List.setIfInBounds_toArray, List.set_cons_zero, List.set_cons_succ]
            refine wpAnyH_take (i := 6) (v := ?_) rfl (by kernel_rfl) (by kernel_rfl) (by kernel_rfl) (fun _ _ _ h => h) (Or.inl ⟨by rfl, ?_⟩) (by assumption) ?_
            rotate_left 1
            · (intro w hSw; (try dsimp only at hSw); go_simp; try with_reducible rfl)
            try simp only [Act.put, List.getElem_toArray, List.getElem_cons_succ, List.getElem_cons_zero, List.setIfInBounds_toArray, List.set_cons_zero, List.set_cons_succ]
            refine wpAnyH_take (i := 7) (v := ?_) rfl (by kernel_rfl) (by kernel_rfl) (by kernel_rfl) (fun _ _ _ h => h) (Or.inl ⟨by rfl, ?_⟩) (by assumption) ?_
            rotate_left 1
            · (intro w hSw; (try dsimp only at hSw); go_simp; try with_reducible rfl)
            try simp only [Act.put, List.getElem_toArray, List.getElem_cons_succ, List.getElem_cons_zero, List.setIfInBounds_toArray, List.set_cons_zero, List.set_cons_succ]
            refine wpAnyH_ready (rs := [8]) (by kernel_rfl) (by simp) ?_
            refine AllReadyH.cons rfl (fun K hK => ?_) AllReadyH.nil
            try simp only [Act.put, List.getElem_toArray, List.getElem_cons_succ, List.getElem_cons_zero, List.setIfInBounds_toArray, List.set_cons_zero, List.set_cons_succ]
            go_simp
            have s25 : Below e24.heap.size e24 (e24.alloc (.cells #[.int .i64 0, .slice none 0 0, .slice none 0 0] 31)) := (Below.refl _ _).alloc (Nat.le_refl _) _
            have z25 : e24.heap.size + 1 = (e24.alloc (.cells #[.int .i64 0, .slice none 0 0, .slice none 0 0] 31)).heap.size := by simp
            have X25_ := hide (X24_.out.below s25)
            have B25_ := hide (B24_.out.trans (s25.mono (by have := B24_.out.size; omega)))
            have N25 := hide (BoxN.new e24 #[.int .i64 0, .slice none 0 0, .slice none 0 0] 31)
            have OR25 := hide (OR24.out.below s25 (by omega))
            refine hK.out _ _ (⟨X25_.out.p.cell 0, X25_.out.p.cell 1, X25_.out.p.cell 2, X25_.out.q.cell 0, X25_.out.q.cell 1, X25_.out.q.cell 2⟩) (fun hHeld => ?_)
            clear hK K
            try simp only [Act.put, List.getElem_toArray, List.getElem_cons_succ, List.getElem_cons_zero, List.setIfInBounds_toArray, List.set_cons_zero, List.set_cons_succ]
            generalize (e24.alloc (.cells #[.int .i64 0, .slice none 0 0, .slice none 0 0] 31)) = e25 at *
            obtain ⟨nb, hnb⟩ : ∃ nb, nb = e24.heap.size := ⟨_, rfl⟩
            have NN := N25
            rw [← hnb] at NN ⊢
            have hnb5 : w19.heap.size ≤ nb := by have := BD.out.size; omega
            have hnb6 : nb < e25.heap.size := NN.out.lt
            have hlo5 : w19.heap.size ≤ e23.heap.size := by have := BD.out.size; omega
            have hhi5 : e24.heap.size ≤ e25.heap.size := by omega
            have hdis : nb < e23.heap.size ∨ e24.heap.size ≤ nb := by omega
            have ZN := hide (ZB.stored NN.out OR25.out hlo5 hhi5 hnb5 hnb6 hdis)
            have hwl : w19.heap.size ≤ nb := hnb5
            have m0 : e25.cell? ⟨nb, 0, none⟩ = some (.int .i64 0) := NN.out.cell 0
            have n0 := NN.out.fro 0
            have T0 := hide (NN.out.set 0 (.int .i64 r.z))
            have m1 : (e25.setCell ⟨nb, 0, none⟩ (.int .i64 r.z)).cell? ⟨nb, 1, none⟩ = some (.slice none 0 0) := T0.out.cell 1
            have n1 := T0.out.fro 1
            have T1 := hide (T0.out.set 1 (.slice Ar r.of.length cr))
            have m2 : ((e25.setCell ⟨nb, 0, none⟩ (.int .i64 r.z)).setCell ⟨nb, 1, none⟩ (.slice Ar r.of.length cr)).cell? ⟨nb, 2, none⟩ = some (.slice none 0 0) := T1.out.cell 2
            have n2 := T1.out.fro 2
            have T2 := hide (T1.out.set 2 (.slice Br r.ch.length dr))
            have BE := hide (((B25_.out.setCell (p := ⟨nb, 0, none⟩) (by dsimp only; omega) (.int .i64 r.z)).setCell (p := ⟨nb, 1, none⟩) (by dsimp only; omega) (.slice Ar r.of.length cr)).setCell (p := ⟨nb, 2, none⟩) (by dsimp only; omega) (.slice Br r.ch.length dr))
            have XE := hide (X19.out.belowB BE.out X19.out.sz)
            clear hnb
            refine wpAnyH_ready (rs := [9]) (by kernel_rfl) (by simp) ?_
            refine AllReadyH.cons rfl (fun K hK => ?_) AllReadyH.nil
            try simp only [Act.put, List.getElem_toArray, List.getElem_cons_succ, List.getElem_cons_zero, List.setIfInBounds_toArray, List.set_cons_zero, List.set_cons_succ]
            go_simp
            refine hK.out _ _ (⟨XE.out.p.cell 0, XE.out.p.cell 1, XE.out.p.cell 2, XE.out.q.cell 0, XE.out.q.cell 1, XE.out.q.cell 2⟩) (fun hHeld => ?_)
            clear hK K
            try simp only [Act.put, List.getElem_toArray, List.getElem_cons_succ, List.getElem_cons_zero, List.setIfInBounds_toArray, List.set_cons_zero, List.set_cons_succ]
            refine wpAnyH_take (i := 10) (v := ?_) rfl (by kernel_rfl) (by kernel_rfl) (by kernel_rfl) (fun _ _ _ h => h) (Or.inl ⟨by rfl, ?_⟩) (by assumption) ?_
            rotate_left 1
            · (intro w hSw; (try dsimp only at hSw); go_simp; try with_reducible rfl)
            try simp only [Act.put, List.getElem_toArray, List.getElem_cons_succ, List.getElem_cons_zero, List.setIfInBounds_toArray, List.set_cons_zero, List.set_cons_succ]
            refine wpAnyH_done (by kernel_rfl) ?_ _
            go_wp2_with fail
            go_meet
            exact ⟨nb, Ar, cr, Br, dr, rfl, rfl, BE, hide (by have h := ZN.out; simpa using h)⟩
          · try simp only [Act.put, List.getElem_toArray, List.getElem_cons_succ, List.getElem_cons_zero, List.setIfInBounds_toArray, List.set_cons_zero, List.set_cons_succ]
            go_simp
            have s26 : Below e23.heap.size e23 (e23.alloc (.cells #[.int .i64 0, .slice none 0 0, .slice none 0 0] 31)) := (Below.refl _ _).alloc (Nat.le_refl _) _
            have z26 : e23.heap.size + 1 = (e23.alloc (.cells #[.int .i64 0, .slice none 0 0, .slice none 0 0] 31)).heap.size := by simp
            have X26_ := hide (X23_.out.below s26)
            have B26_ := hide (B23_.out.trans (s26.mono (by have := B23_.out.size; omega)))
            have N26 := hide (BoxN.new e23 #[.int .i64 0, .slice none 0 0, .slice none 0 0] 31)
            have OT26 := hide (OT23.out.below s26 (by omega))
            refine hK.out _ _ (⟨X26_.out.p.cell 0, X26_.out.p.cell 1, X26_.out.p.cell 2, X26_.out.q.cell 0, X26_.out.q.cell 1, X26_.out.q.cell 2⟩) (fun hHeld => ?_)
            clear hK K
            try simp only [Act.put, List.getElem_toArray, List.getElem_cons_succ, List.getElem_cons_zero, List.setIfInBounds_toArray, List.set_cons_zero, List.set_cons_succ]
            generalize (e23.alloc (.cells #[.int .i64 0, .slice none 0 0, .slice none 0 0] 31)) = e26 at *
            refine wpAnyH_ready (rs := [4]) (by kernel_rfl) (by simp) ?_
            refine AllReadyH.cons rfl (fun K hK => ?_) AllReadyH.nil
            try simp only [Act.put, List.getElem_toArray, List.getElem_cons_succ, List.getElem_cons_zero, List.setIfInBounds_toArray, List.set_cons_zero, List.set_cons_succ]
            go_simp
            go_at_call 11
            refine (HP.out _ _ (OT26.out.r) (capZ_of OT26.out)).mono ?_
            rintro e e27 ⟨rv, rfl, orr, s27⟩
            obtain ⟨Ar, cr, Br, dr, rfl, _, _⟩ := orr.r
            have OR27 := hide orr
            clear orr
            have z27 := s27.size
            have X27_ := hide (X26_.out.below s27)
            have B27_ := hide (B26_.out.trans (s27.mono (by have := B26_.out.size; omega)))
            have N27 := hide (N26.out.below s27 (by have := N26.out.lt; omega))
            dsimp only
            refine hK.out _ _ (⟨X27_.out.p.cell 0, X27_.out.p.cell 1, X27_.out.p.cell 2, X27_.out.q.cell 0, X27_.out.q.cell 1, X27_.out.q.cell 2⟩) (fun hHeld => ?_)
            clear hK K
            try simp only [Act.put, List.getElem_toArray, List.getElem_cons_succ, List.getElem_cons_zero, List.setIfInBounds_toArray, List.set_cons_zero, List.set_cons_succ]
            refine wpAnyH_take (i := 5) (v := ?_) rfl (by kernel_rfl) (by kernel_rfl) (by kernel_rfl) (fun _ _ _ h => h) (Or.inl ⟨by rfl, ?_⟩) (by assumption) ?_
            rotate_left 1
            · (intro w hSw; (try dsimp only at hSw); go_simp; try with_reducible rfl)
            try simp only [Act.put, List.getElem_toArray, List.getElem_cons_succ, List.getElem_cons_zero, List.setIfInBounds_toArray, List.set_cons_zero, List.set_cons_succ]
            refine wpAnyH_take (i := 6) (v := ?_) rfl (by kernel_rfl) (by kernel_rfl) (by kernel_rfl) (fun _ _ _ h => h) (Or.inl ⟨by rfl, ?_⟩) (by assumption) ?_
            rotate_left 1
            · (intro w hSw; (try dsimp only at hSw); go_simp; try with_reducible rfl)
            try simp only [Act.put, List.getElem_toArray, List.getElem_cons_succ, List.getElem_cons_zero, List.setIfInBounds_toArray, List.set_cons_zero, List.set_cons_succ]
            refine wpAnyH_take (i := 7) (v := ?_) rfl (by kernel_rfl) (by kernel_rfl) (by kernel_rfl) (fun _ _ _ h => h) (Or.inl ⟨by rfl, ?_⟩) (by assumption) ?_
            rotate_left 1
            · (intro w hSw; (try dsimp only at hSw); go_simp; try with_reducible rfl)
            try simp only [Act.put, List.getElem_toArray, List.getElem_cons_succ, List.getElem_cons_zero, List.setIfInBounds_toArray, List.set_cons_zero, List.set_cons_succ]
            obtain ⟨nb, hnb⟩ : ∃ nb, nb = e23.heap.size := ⟨_, rfl⟩
            have NN := N27
            rw [← hnb] at NN ⊢
            have hnb5 : w19.heap.size ≤ nb := by have := BD.out.size; omega
            have hnb6 : nb < e27.heap.size := NN.out.lt
            have hlo5 : w19.heap.size ≤ e26.heap.size := by have := BD.out.size; omega
            have hhi5 : e27.heap.size ≤ e27.heap.size := by omega
            have hdis : nb < e26.heap.size ∨ e27.heap.size ≤ nb := by omega
            have ZN := hide (ZB.stored NN.out OR27.out hlo5 hhi5 hnb5 hnb6 hdis)
            have hwl : w19.heap.size ≤ nb := hnb5
            have m0 : e27.cell? ⟨nb, 0, none⟩ = some (.int .i64 0) := NN.out.cell 0
            have n0 := NN.out.fro 0
            have T0 := hide (NN.out.set 0 (.int .i64 r.z))
            have m1 : (e27.setCell ⟨nb, 0, none⟩ (.int .i64 r.z)).cell? ⟨nb, 1, none⟩ = some (.slice none 0 0) := T0.out.cell 1
            have n1 := T0.out.fro 1
            have T1 := hide (T0.out.set 1 (.slice Ar r.of.length cr))
            have m2 : ((e27.setCell ⟨nb, 0, none⟩ (.int .i64 r.z)).setCell ⟨nb, 1, none⟩ (.slice Ar r.of.length cr)).cell? ⟨nb, 2, none⟩ = some (.slice none 0 0) := T1.out.cell 2
            have n2 := T1.out.fro 2
            have T2 := hide (T1.out.set 2 (.slice Br r.ch.length dr))
            have BE := hide (((B27_.out.setCell (p := ⟨nb, 0, none⟩) (by dsimp only; omega) (.int .i64 r.z)).setCell (p := ⟨nb, 1, none⟩) (by dsimp only; omega) (.slice Ar r.of.length cr)).setCell (p := ⟨nb, 2, none⟩) (by dsimp only; omega) (.slice Br r.ch.length dr))
            have XE := hide (X19.out.belowB BE.out X19.out.sz)
            clear hnb
            refine wpAnyH_ready (rs := [9]) (by kernel_rfl) (by simp) ?_
            refine AllReadyH.cons rfl (fun K hK => ?_) AllReadyH.nil
            try simp only [Act.put, List.getElem_toArray, List.getElem_cons_succ, List.getElem_cons_zero, List.setIfInBounds_toArray, List.set_cons_zero, List.set_cons_succ]
            go_simp
            refine hK.out _ _ (⟨XE.out.p.cell 0, XE.out.p.cell 1, XE.out.p.cell 2, XE.out.q.cell 0, XE.out.q.cell 1, XE.out.q.cell 2⟩) (fun hHeld => ?_)
            clear hK K
            try simp only [Act.put, List.getElem_toArray, List.getElem_cons_succ, List.getElem_cons_zero, List.setIfInBounds_toArray, List.set_cons_zero, List.set_cons_succ]
            refine wpAnyH_take (i := 10) (v := ?_) rfl (by kernel_rfl) (by kernel_rfl) (by kernel_rfl) (fun _ _ _ h => h) (Or.inl ⟨by rfl, ?_⟩) (by assumption) ?_
            rotate_left 1
            · (intro w hSw; (try dsimp only at hSw); go_simp; try with_reducible rfl)
            try simp only [Act.put, List.getElem_toArray, List.getElem_cons_succ, List.getElem_cons_zero, List.setIfInBounds_toArray, List.set_cons_zero, List.set_cons_succ]
            refine wpAnyH_done (by kernel_rfl) ?_ _
            go_wp2_with fail
            go_meet
            exact ⟨nb, Ar, cr, Br, dr, rfl, rfl, BE, hide (by have h := ZN.out; simpa using h)⟩
        · try simp only [Act.put, List.getElem_toArray, List.getElem_cons_succ, List.getElem_cons_zero, List.setIfInBounds_toArray, List.set_cons_zero, List.set_cons_succ]
          go_simp
          have s28 : Below e22.heap.size e22 (e22.alloc (.cells #[.int .i64 0, .slice none 0 0, .slice none 0 0] 31)) := (Below.refl _ _).alloc (Nat.le_refl _) _
          have z28 : e22.heap.size + 1 = (e22.alloc (.cells #[.int .i64 0, .slice none 0 0, .slice none 0 0] 31)).heap.size := by simp
          have X28_ := hide (X22_.out.below s28)
          have B28_ := hide (B22_.out.trans (s28.mono (by have := B22_.out.size; omega)))
          have N28 := hide (BoxN.new e22 #[.int .i64 0, .slice none 0 0, .slice none 0 0] 31)
          have OT28 := hide (OT22.out.below s28 (by omega))
          refine hK.out _ _ (⟨X28_.out.p.cell 0, X28_.out.p.cell 1, X28_.out.p.cell 2, X28_.out.q.cell 0, X28_.out.q.cell 1, X28_.out.q.cell 2⟩) (fun hHeld => ?_)
          clear hK K
          try simp only [Act.put, List.getElem_toArray, List.getElem_cons_succ, List.getElem_cons_zero, List.setIfInBounds_toArray, List.set_cons_zero, List.set_cons_succ]
          generalize (e22.alloc (.cells #[.int .i64 0, .slice none 0 0, .slice none 0 0] 31)) = e28 at *
          refine wpAnyH_ready (rs := [3]) (by kernel_rfl) (by simp) ?_
          refine AllReadyH.cons rfl (fun K hK => ?_) AllReadyH.nil
          try simp only [Act.put, List.getElem_toArray, List.getElem_cons_succ, List.getElem_cons_zero, List.setIfInBounds_toArray, List.set_cons_zero, List.set_cons_succ]
          go_simp
          go_at_call 10
          refine (toChange_any y _).mono ?_
          rintro e e29 ⟨rfl, s29⟩
          have OT29 := hide (OT28.out.below s29 (by omega))
          have z29 := s29.size
          have X29_ := hide (X28_.out.below s29)
          have B29_ := hide (B28_.out.trans (s29.mono (by have := B28_.out.size; omega)))
          have N29 := hide (N28.out.below s29 (by have := N28.out.lt; omega))
          dsimp only
          refine hK.out _ _ (⟨X29_.out.p.cell 0, X29_.out.p.cell 1, X29_.out.p.cell 2, X29_.out.q.cell 0, X29_.out.q.cell 1, X29_.out.q.cell 2⟩) (fun hHeld => ?_)
          clear hK K
          try simp only [Act.put, List.getElem_toArray, List.getElem_cons_succ, List.getElem_cons_zero, List.setIfInBounds_toArray, List.set_cons_zero, List.set_cons_succ]
          refine wpAnyH_ready (rs := [4]) (by kernel_rfl) (by simp) ?_
          refine AllReadyH.cons rfl (fun K hK => ?_) AllReadyH.nil
          try simp only [Act.put, List.getElem_toArray, List.getElem_cons_succ, List.getElem_cons_zero, List.setIfInBounds_toArray, List.set_cons_zero, List.set_cons_succ]
          go_simp
          go_at_call 11
          refine (HP.out _ _ (OT29.out.r) (capZ_of OT29.out)).mono ?_
          rintro e e30 ⟨rv, rfl, orr, s30⟩
          obtain ⟨Ar, cr, Br, dr, rfl, _, _⟩ := orr.r
          have OR30 := hide orr
          clear orr
          have z30 := s30.size
          have X30_ := hide (X29_.out.below s30)
          have B30_ := hide (B29_.out.trans (s30.mono (by have := B29_.out.size; omega)))
          have N30 := hide (N29.out.below s30 (by have := N29.out.lt; omega))
          dsimp only
          refine hK.out _ _ (⟨X30_.out.p.cell 0, X30_.out.p.cell 1, X30_.out.p.cell 2, X30_.out.q.cell 0, X30_.out.q.cell 1, X30_.out.q.cell 2⟩) (fun hHeld => ?_)
          clear hK K
          try simp only [Act.put, List.getElem_toArray, List.getElem_cons_succ, List.getElem_cons_zero, List.setIfInBounds_toArray, List.set_cons_zero, List.set_cons_succ]
          refine wpAnyH_take (i := 5) (v := ?_) rfl (by kernel_rfl) (by kernel_rfl) (by kernel_rfl) (fun _ _ _ h => h) (Or.inl ⟨by rfl, ?_⟩) (by assumption) ?_
          rotate_left 1
          · (intro w hSw; (try dsimp only at hSw); go_simp; try with_reducible rfl)
          try simp only [Act.put, List.getElem_toArray, List.getElem_cons_succ, List.getElem_cons_zero, List.setIfInBounds_toArray, List.set_cons_zero, List.set_cons_succ]
          refine wpAnyH_take (i := 6) (v := ?_) rfl (by kernel_rfl) (by kernel_rfl) (by kernel_rfl) (fun _ _ _ h => h) (Or.inl ⟨by rfl, ?_⟩) (by assumption) ?_
          rotate_left 1
          · (intro w hSw; (try dsimp only at hSw); go_simp; try with_reducible rfl)
          try simp only [Act.put, List.getElem_toArray, List.getElem_cons_succ, List.getElem_cons_zero, List.setIfInBounds_toArray, List.set_cons_zero, List.set_cons_succ]
          refine wpAnyH_take (i := 7) (v := ?_) rfl (by kernel_rfl) (by kernel_rfl) (by kernel_rfl) (fun _ _ _ h => h) (Or.inl ⟨by rfl, ?_⟩) (by assumption) ?_
          rotate_left 1
          · (intro w hSw; (try dsimp only at hSw); go_simp; try with_reducible rfl)
          try simp only [Act.put, List.getElem_toArray, List.getElem_cons_succ, List.getElem_cons_zero, List.setIfInBounds_toArray, List.set_cons_zero, List.set_cons_succ]
          obtain ⟨nb, hnb⟩ : ∃ nb, nb = e22.heap.size := ⟨_, rfl⟩
          have NN := N30
          rw [← hnb] at NN ⊢
          have hnb5 : w19.heap.size ≤ nb := by have := BD.out.size; omega
          have hnb6 : nb < e30.heap.size := NN.out.lt
          have hlo5 : w19.heap.size ≤ e29.heap.size := by have := BD.out.size; omega
          have hhi5 : e30.heap.size ≤ e30.heap.size := by omega
          have hdis : nb < e29.heap.size ∨ e30.heap.size ≤ nb := by omega
          have ZN := hide (ZB.stored NN.out OR30.out hlo5 hhi5 hnb5 hnb6 hdis)
          have hwl : w19.heap.size ≤ nb := hnb5
          have m0 : e30.cell? ⟨nb, 0, none⟩ = some (.int .i64 0) := NN.out.cell 0
          have n0 := NN.out.fro 0
          have T0 := hide (NN.out.set 0 (.int .i64 r.z))
          have m1 : (e30.setCell ⟨nb, 0, none⟩ (.int .i64 r.z)).cell? ⟨nb, 1, none⟩ = some (.slice none 0 0) := T0.out.cell 1
          have n1 := T0.out.fro 1
          have T1 := hide (T0.out.set 1 (.slice Ar r.of.length cr))
          have m2 : ((e30.setCell ⟨nb, 0, none⟩ (.int .i64 r.z)).setCell ⟨nb, 1, none⟩ (.slice Ar r.of.length cr)).cell? ⟨nb, 2, none⟩ = some (.slice none 0 0) := T1.out.cell 2
          have n2 := T1.out.fro 2
          have T2 := hide (T1.out.set 2 (.slice Br r.ch.length dr))
          have BE := hide (((B30_.out.setCell (p := ⟨nb, 0, none⟩) (by dsimp only; omega) (.int .i64 r.z)).setCell (p := ⟨nb, 1, none⟩) (by dsimp only; omega) (.slice Ar r.of.length cr)).setCell (p := ⟨nb, 2, none⟩) (by dsimp only; omega) (.slice Br r.ch.length dr))
          have XE := hide (X19.out.belowB BE.out X19.out.sz)
          clear hnb
          refine wpAnyH_ready (rs := [9]) (by kernel_rfl) (by simp) ?_
          refine AllReadyH.cons rfl (fun K hK => ?_) AllReadyH.nil
          try simp only [Act.put, List.getElem_toArray, List.getElem_cons_succ, List.getElem_cons_zero, List.setIfInBounds_toArray, List.set_cons_zero, List.set_cons_succ]
          go_simp
          refine hK.out _ _ (⟨XE.out.p.cell 0, XE.out.p.cell 1, XE.out.p.cell 2, XE.out.q.cell 0, XE.out.q.cell 1, XE.out.q.cell 2⟩) (fun hHeld => ?_)
          clear hK K
          try simp only [Act.put, List.getElem_toArray, List.getElem_cons_succ, List.getElem_cons_zero, List.setIfInBounds_toArray, List.set_cons_zero, List.set_cons_succ]
          refine wpAnyH_take (i := 10) (v := ?_) rfl (by kernel_rfl) (by kernel_rfl) (by kernel_rfl) (fun _ _ _ h => h) (Or.inl ⟨by rfl, ?_⟩) (by assumption) ?_
          rotate_left 1
          · (intro w hSw; (try dsimp only at hSw); go_simp; try with_reducible rfl)
          try simp only [Act.put, List.getElem_toArray, List.getElem_cons_succ, List.getElem_cons_zero, List.setIfInBounds_toArray, List.set_cons_zero, List.set_cons_succ]
          refine wpAnyH_done (by kernel_rfl) ?_ _
          go_wp2_with fail
          go_meet
          exact ⟨nb, Ar, cr, Br, dr, rfl, rfl, BE, hide (by have h := ZN.out; simpa using h)⟩
      · try simp only [Act.put, List.getElem_toArray, List.getElem_cons_succ, List.getElem_cons_zero, List.setIfInBounds_toArray, List.set_cons_zero, List.set_cons_succ]
        go_simp
        have s31 : Below wd.heap.size wd (wd.alloc (.cells #[.int .i64 0, .slice none 0 0, .slice none 0 0] 31)) := (Below.refl _ _).alloc (Nat.le_refl _) _
        have z31 : wd.heap.size + 1 = (wd.alloc (.cells #[.int .i64 0, .slice none 0 0, .slice none 0 0] 31)).heap.size := by simp
        have X31_ := hide (XD.out.below s31)
        have B31_ := hide (BD.out.trans (s31.mono (by have := BD.out.size; omega)))
        have N31 := hide (BoxN.new wd #[.int .i64 0, .slice none 0 0, .slice none 0 0] 31)
        refine hK.out _ _ (⟨X31_.out.p.cell 0, X31_.out.p.cell 1, X31_.out.p.cell 2, X31_.out.q.cell 0, X31_.out.q.cell 1, X31_.out.q.cell 2⟩) (fun hHeld => ?_)
        clear hK K
        try simp only [Act.put, List.getElem_toArray, List.getElem_cons_succ, List.getElem_cons_zero, List.setIfInBounds_toArray, List.set_cons_zero, List.set_cons_succ]
        generalize (wd.alloc (.cells #[.int .i64 0, .slice none 0 0, .slice none 0 0] 31)) = e31 at *
        refine wpAnyH_ready (rs := [1]) (by kernel_rfl) (by simp) ?_
        refine AllReadyH.cons rfl (fun K hK => ?_) AllReadyH.nil
        try simp only [Act.put, List.getElem_toArray, List.getElem_cons_succ, List.getElem_cons_zero, List.setIfInBounds_toArray, List.set_cons_zero, List.set_cons_succ]
        go_simp
        go_at_call 9
        refine (HTO.out _ X31_.out).mono ?_
        rintro e e32 ⟨tv, rfl, ot, s32⟩
        obtain ⟨At, ct, Bt, dt, rfl, _, _⟩ := ot.r
        have OT32 := hide ot
        clear ot
        have z32 := s32.size
        have X32_ := hide (X31_.out.below s32)
        have B32_ := hide (B31_.out.trans (s32.mono (by have := B31_.out.size; omega)))
        have N32 := hide (N31.out.below s32 (by have := N31.out.lt; omega))
        dsimp only
        refine hK.out _ _ (⟨X32_.out.p.cell 0, X32_.out.p.cell 1, X32_.out.p.cell 2, X32_.out.q.cell 0, X32_.out.q.cell 1, X32_.out.q.cell 2⟩) (fun hHeld => ?_)
        clear hK K
        try simp only [Act.put, List.getElem_toArray, List.getElem_cons_succ, List.getElem_cons_zero, List.setIfInBounds_toArray, List.set_cons_zero, List.set_cons_succ]
        refine wpAnyH_ready (rs := [3]) (by kernel_rfl) (by simp) ?_
        refine AllReadyH.cons rfl (fun K hK => ?_) AllReadyH.nil
        try simp only [Act.put, List.getElem_toArray, List.getElem_cons_succ, List.getElem_cons_zero, List.setIfInBounds_toArray, List.set_cons_zero, List.set_cons_succ]
        go_simp
        go_at_call 10
        refine (toChange_any y _).mono ?_
        rintro e e33 ⟨rfl, s33⟩
        have OT33 := hide (OT32.out.below s33 (by omega))
        have z33 := s33.size
        have X33_ := hide (X32_.out.below s33)
        have B33_ := hide (B32_.out.trans (s33.mono (by have := B32_.out.size; omega)))
        have N33 := hide (N32.out.below s33 (by have := N32.out.lt; omega))
        dsimp only
        refine hK.out _ _ (⟨X33_.out.p.cell 0, X33_.out.p.cell 1, X33_.out.p.cell 2, X33_.out.q.cell 0, X33_.out.q.cell 1, X33_.out.q.cell 2⟩) (fun hHeld => ?_)
        clear hK K
        try simp only [Act.put, List.getElem_toArray, List.getElem_cons_succ, List.getElem_cons_zero, List.setIfInBounds_toArray, List.set_cons_zero, List.set_cons_succ]
        refine wpAnyH_ready (rs := [4]) (by kernel_rfl) (by simp) ?_
        refine AllReadyH.cons rfl (fun K hK => ?_) AllReadyH.nil
        try simp only [Act.put, List.getElem_toArray, List.getElem_cons_succ, List.getElem_cons_zero, List.setIfInBounds_toArray, List.set_cons_zero, List.set_cons_succ]
        go_simp
        go_at_call 11
        refine (HP.out _ _ (OT33.out.r) (capZ_of OT33.out)).mono ?_
        rintro e e34 ⟨rv, rfl, orr, s34⟩
        obtain ⟨Ar, cr, Br, dr, rfl, _, _⟩ := orr.r
        have OR34 := hide orr
        clear orr
        have z34 := s34.size
        have X34_ := hide (X33_.out.below s34)
        have B34_ := hide (B33_.out.trans (s34.mono (by have := B33_.out.size; omega)))
        have N34 := hide (N33.out.below s34 (by have := N33.out.lt; omega))
        dsimp only
        refine hK.out _ _ (⟨X34_.out.p.cell 0, X34_.out.p.cell 1, X34_.out.p.cell 2, X34_.out.q.cell 0, X34_.out.q.cell 1, X34_.out.q.cell 2⟩) (fun hHeld => ?_)
        clear hK K
        try simp only [Act.put, List.getElem_toArray, List.getElem_cons_succ, List.getElem_cons_zero, List.setIfInBounds_toArray, List.set_cons_zero, List.set_cons_succ]
        refine wpAnyH_take (i := 5) (v := ?_) rfl (by kernel_rfl) (by kernel_rfl) (by kernel_rfl) (fun _ _ _ h => h) (Or.inl ⟨by rfl, ?_⟩) (by assumption) ?_
        rotate_left 1
        · (intro w hSw; (try dsimp only at hSw); go_simp; try with_reducible rfl)
        try simp only [Act.put, List.getElem_toArray, List.getElem_cons_succ, List.getElem_cons_zero, List.setIfInBounds_toArray, List.set_cons_zero, List.set_cons_succ]
        refine wpAnyH_take (i := 6) (v := ?_) rfl (by kernel_rfl) (by kernel_rfl) (by kernel_rfl) (fun _ _ _ h => h) (Or.inl ⟨by rfl, ?_⟩) (by assumption) ?_
        rotate_left 1
        · (intro w hSw; (try dsimp only at hSw); go_simp; try with_reducible rfl)
        try simp only [Act.put, List.getElem_toArray, List.getElem_cons_succ, List.getElem_cons_zero, List.setIfInBounds_toArray, List.set_cons_zero, List.set_cons_succ]
        refine wpAnyH_take (i := 7) (v := ?_) rfl (by kernel_rfl) (by kernel_rfl) (by kernel_rfl) (fun _ _ _ h => h) (Or.inl ⟨by rfl, ?_⟩) (by assumption) ?_
        rotate_left 1
        · (intro w hSw; (try dsimp only at hSw); go_simp; try with_reducible rfl)
        try simp only [Act.put, List.getElem_toArray, List.getElem_cons_succ, List.getElem_cons_zero, List.setIfInBounds_toArray, List.set_cons_zero, List.set_cons_succ]
        obtain ⟨nb, hnb⟩ : ∃ nb, nb = wd.heap.size := ⟨_, rfl⟩
        have NN := N34
        rw [← hnb] at NN ⊢
        have hnb5 : w19.heap.size ≤ nb := by have := BD.out.size; omega
        have hnb6 : nb < e34.heap.size := NN.out.lt
        have hlo5 : w19.heap.size ≤ e33.heap.size := by have := BD.out.size; omega
        have hhi5 : e34.heap.size ≤ e34.heap.size := by omega
        have hdis : nb < e33.heap.size ∨ e34.heap.size ≤ nb := by omega
        have ZN := hide (ZB.stored NN.out OR34.out hlo5 hhi5 hnb5 hnb6 hdis)
        have hwl : w19.heap.size ≤ nb := hnb5
        have m0 : e34.cell? ⟨nb, 0, none⟩ = some (.int .i64 0) := NN.out.cell 0
        have n0 := NN.out.fro 0
        have T0 := hide (NN.out.set 0 (.int .i64 r.z))
        have m1 : (e34.setCell ⟨nb, 0, none⟩ (.int .i64 r.z)).cell? ⟨nb, 1, none⟩ = some (.slice none 0 0) := T0.out.cell 1
        have n1 := T0.out.fro 1
        have T1 := hide (T0.out.set 1 (.slice Ar r.of.length cr))
        have m2 : ((e34.setCell ⟨nb, 0, none⟩ (.int .i64 r.z)).setCell ⟨nb, 1, none⟩ (.slice Ar r.of.length cr)).cell? ⟨nb, 2, none⟩ = some (.slice none 0 0) := T1.out.cell 2
        have n2 := T1.out.fro 2
        have T2 := hide (T1.out.set 2 (.slice Br r.ch.length dr))
        have BE := hide (((B34_.out.setCell (p := ⟨nb, 0, none⟩) (by dsimp only; omega) (.int .i64 r.z)).setCell (p := ⟨nb, 1, none⟩) (by dsimp only; omega) (.slice Ar r.of.length cr)).setCell (p := ⟨nb, 2, none⟩) (by dsimp only; omega) (.slice Br r.ch.length dr))
        have XE := hide (X19.out.belowB BE.out X19.out.sz)
        clear hnb
        refine wpAnyH_ready (rs := [9]) (by kernel_rfl) (by simp) ?_
        refine AllReadyH.cons rfl (fun K hK => ?_) AllReadyH.nil
        try simp only [Act.put, List.getElem_toArray, List.getElem_cons_succ, List.getElem_cons_zero, List.setIfInBounds_toArray, List.set_cons_zero, List.set_cons_succ]
        go_simp
        refine hK.out _ _ (⟨XE.out.p.cell 0, XE.out.p.cell 1, XE.out.p.cell 2, XE.out.q.cell 0, XE.out.q.cell 1, XE.out.q.cell 2⟩) (fun hHeld => ?_)
        clear hK K
        try simp only [Act.put, List.getElem_toArray, List.getElem_cons_succ, List.getElem_cons_zero, List.setIfInBounds_toArray, List.set_cons_zero, List.set_cons_succ]
        refine wpAnyH_take (i := 10) (v := ?_) rfl (by kernel_rfl) (by kernel_rfl) (by kernel_rfl) (fun _ _ _ h => h) (Or.inl ⟨by rfl, ?_⟩) (by assumption) ?_
        rotate_left 1
        · (intro w hSw; (try dsimp only at hSw); go_simp; try with_reducible rfl)
        try simp only [Act.put, List.getElem_toArray, List.getElem_cons_succ, List.getElem_cons_zero, List.setIfInBounds_toArray, List.set_cons_zero, List.set_cons_succ]
        refine wpAnyH_done (by kernel_rfl) ?_ _
        go_wp2_with fail
        go_meet
        exact ⟨nb, Ar, cr, Br, dr, rfl, rfl, BE, hide (by have h := ZN.out; simpa using h)⟩
    case rest =>
    obtain ⟨b14, A14, c14, B14, d14, rfl, rfl, BB14, Z14⟩ := hcut
    obtain ⟨w24, hw24⟩ : ∃ q, q = wc := ⟨wc, rfl⟩
    subst hw24
    have z24 := BB14.out.size
    have X24 := hide (X19.out.below BB14.out)
    have Z6_24 := hide (Z6_19.out.below BB14.out (by omega))
    have Z9_24 := hide (Z9_19.out.below BB14.out (by omega))
    have O6_24 := hide (O6_19.out.below BB14.out (by omega))
    have O9_24 := hide (O9_19.out.below BB14.out (by omega))
    obtain ⟨lo14, hi14, o14, l14, h14, d14_⟩ := Z14.out.own
    have O14 := hide o14
    clear o14
    have k14_0 : w24.cell? ⟨b14, 0, none⟩ = some (.int .i64 r.z) := Z14.out.box.cell 0
    have k14_1 : w24.cell? ⟨b14, 1, none⟩ = some (.slice A14 r.of.length c14) := Z14.out.box.cell 1
    have k14_2 : w24.cell? ⟨b14, 2, none⟩ = some (.slice B14 r.ch.length d14) := Z14.out.box.cell 2
    have k6_0 : w24.cell? ⟨b6, 0, none⟩ = some (.int .i64 r.z) := Z6_24.out.box.cell 0
    have k6_1 : w24.cell? ⟨b6, 1, none⟩ = some (.slice A6 r.of.length c6) := Z6_24.out.box.cell 1
    have k6_2 : w24.cell? ⟨b6, 2, none⟩ = some (.slice B6 r.ch.length d6) := Z6_24.out.box.cell 2
    go_upto_region 28 with (go_at_call 12; (with_reducible refine (L_eq_Zoned _ _ _ _ _ _ _ _ O14.out O6_24.out).mono ?_); rintro e w25 ⟨rfl, s25⟩)
    have z25 := s25.size
    have X25 := hide (X24.out.below s25)
    have Z9_25 := hide (Z9_24.out.below s25 (by omega))
    have O9_25 := hide (O9_24.out.below s25 (by omega))
    clear k14_0 k14_1 k14_2 k6_0 k6_1 k6_2
    have k9_0 : w25.cell? ⟨b9, 0, none⟩ = some (.int .i64 r.z) := Z9_25.out.box.cell 0
    have k9_1 : w25.cell? ⟨b9, 1, none⟩ = some (.slice A9 r.of.length c9) := Z9_25.out.box.cell 1
    have k9_2 : w25.cell? ⟨b9, 2, none⟩ = some (.slice B9 r.ch.length d9) := Z9_25.out.box.cell 2
    go_wp2_with (go_at_call 14; (with_reducible refine (L_held_Zoned r _ 1 lo9 hi9 _ (by omega) (by omega) (by omega) O9_25.out).mono ?_); rintro e w28 ⟨rfl, s28⟩)
    go_ret
    exact ⟨rfl, X25.out.bel.trans (s28.mono X25.out.bel.size)⟩

theorem fnExactAddChange_own : ownKnob Try.prog.godebug = none := by kernel_rfl
theorem fnExactAddChange_laid : laidOutB Try.prog = true := by kernel_rfl
set_option maxRecDepth 100000 in
theorem fnExactAddChange_lifted (os : Os) (started : os.Started) (H : Type) (enc : TypeId × Value → H) :
    ReturnsInHanded {} Try.checked os 3 .any (Rows.fnExactAddChangeSpec.pre6 enc Try.prog Try.f3 Rows.fnExactAddChangeRow.domain false) (Rows.fnExactAddChangeSpec.post enc Try.prog Try.f3 false true false false) := by
  refine returnsInHanded_of_change (C := Try.checked) fnExactAddChange_own started (by kernel_rfl) Try.func3
    (ChangeSpec.witness6 (enc := enc) (C := Try.checked) false ⟨#[], #[.agg #[.int .i64 0, .slice none 0 0, .slice none 0 0], .agg #[.int .i64 0, .int .i64 0, .int .i64 0]], []⟩ 8 (by kernel_rfl) (by kernel_rfl) (by kernel_rfl) (by kernel_rfl)) ?_
  intro W base args ds gs before hval0 hW hcnd _
  have hval : ∀ (j : Nat) t v, Try.f3.params[j]? = some t → args[j]? = some v → Value.okWide Try.prog W .any base t v := hval0
  have hW' := hW
  obtain ⟨p, q, hA0, hV, rfl, hfz, hnd⟩ := hW
  have hA : DataW.TrodAll enc Try.prog W 0 (fun _ => true) true Try.f3.params.toList args.toList ds p := hA0
  rw [Try.params3] at hA hval
  obtain ⟨v0, vs0, d0, ds0, p0, q0, hargs, rfl, rfl, h0, r0⟩ := trodAll_cons hA
  obtain ⟨v1, vs1, d1, ds1, p1, q1, rfl, rfl, rfl, h1, r1⟩ := trodAll_cons r0
  obtain ⟨rfl, rfl, rfl⟩ := trodAll_nil r1
  obtain rfl : args = #[v0, v1] := by cases args; simp_all
  obtain ⟨rfl, rfl⟩ := trodVars_none hV
  have k0 := h0
  have lt0 : ∀ x ∈ p0, x.block < W.heap.size := by obtain ⟨m, hm⟩ := k0; exact DataW.trod_lt m _ _ _ hm
  obtain ⟨zz0, A0, c0, B0, e0, rfl, rd0, rt0, len0, bd0⟩ := open_ZN Try.underlying25 (by kernel_rfl) (by kernel_rfl) Try.underlying2 Try.underlying22 Try.underlying2 (by kernel_rfl) Try.underlying23 Try.underlying27 (by kernel_rfl) (by kernel_rfl) Try.underlying2 Try.underlying2 Try.underlying2 (hval 0 25 v0 rfl rfl) h0
  have k1 := h1
  have lt1 : ∀ x ∈ p1, x.block < W.heap.size := by obtain ⟨m, hm⟩ := k1; exact DataW.trod_lt m _ _ _ hm
  obtain ⟨z1, rfl, bd1⟩ := open_V3 Try.underlying27 (by kernel_rfl) (by kernel_rfl) Try.underlying2 Try.underlying2 Try.underlying2 (hval 1 27 v1 rfl rfl) h1
  clear hA0 hval0
  refine (xAddChange_walk zz0 (.agg #[.int .i64 zz0.z, .slice A0 zz0.of.length c0, .slice B0 zz0.ch.length e0]) z1 W ⟨A0, c0, B0, e0, rfl, rd0, rt0⟩ len0 bd0 bd1).mono fun e W' ⟨he, bel⟩ => ?_
  subst he
  exact ⟨_, rfl, _, _, _, [], _, [], hW', trodAll_mk1 (shut_bool Try.underlying4 _), (trodAll_cons_mk (Below.trod fnExactAddChange_laid (by kernel_rfl) (of_decide_eq_true (by kernel_rfl)) k0 bel lt0) (trodAll_cons_mk (Below.trod fnExactAddChange_laid (by kernel_rfl) (of_decide_eq_true (by kernel_rfl)) k1 bel lt1) trodAll_mk0)), rfl, bel.frame _, fun h => by cases h⟩
theorem fnExactAddChange_holds : Rows.FnExactAddChangeSaid :=
  OpenClaim.holds_of_wide 3 Try.f3 rfl rfl rfl rfl rfl rfl rfl ⟨rfl, rfl, rfl, rfl, rfl⟩ rfl rfl rfl rfl rfl (by kernel_rfl) Try.func3 (by kernel_rfl)
    (of_decide_eq_true (by kernel_rfl)) (by unfold Func.isWrapper; first | (rw [if_pos (by decide +kernel)]; kernel_rfl) | (rw [if_neg (by decide +kernel)]; exact ⟨rfl, rfl⟩))
    (fun os started H enc _ => fnExactAddChange_lifted os started H enc)
#print axioms fnExactAddChange_holds
end Go.Proofs.Ytlkccijlbeibjaa
