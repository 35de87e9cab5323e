/-
  The best order, in the program: the whole function.
-/
import Derived.Test.YtfhociekhffjhaaOrdB
namespace Go.Proofs.Ytfhociekhffjhaa
open Go.RowKit

set_option maxRecDepth 100000 in
set_option maxHeartbeats 8000000 in
theorem bestOrder_any (late : Bool) (G : FuncId) (capG : Array Value) (ts : List Int) (l : List TN) (A0 : Option Addr) (c0 : Nat) (A : Option Addr) (c : Nat) (w : World) (h0 : ts.length ≤ 1048576) (hs : SmallN l) (h1 : RdI w w.heap.size A0 ts) (h2 : RN 2 w w.heap.size A l)
    (hcf : ∀ args w, (callFunc G args).run Try.prog w = .ok (.enter G args) w)
    (hp : ∀ order A3 c3 (po : List (Value × TN)) base W', Below w.heap.size w W' → codeO ts l order = 0 → po.map (·.2) = planR ts l order → W'.ownsRow base 34 2 (.slice A3 l.length c3) l.length (po.flatMap (Nc 1)) → (∀ p ∈ po, WayAt W' W'.heap.size p) → Calls Try.prog G (#[.slice A3 l.length c3] ++ capG) W' fun e w' => e = .returned (.int .i64 (valO late ts l order)) ∧ Below W'.heap.size W' w') :
    Calls Try.prog 110 #[.slice A0 ts.length c0, .slice A l.length c, .func (.func G) #[] capG] w fun e w' => ∃ r, e = .returned (.tuple #[r, .int .i64 (bestO late ts l).2.1, .int .i64 (bestO late ts l).2.2]) ∧ O_Int64S w' w.heap.size w'.heap.size r (bestO late ts l).1 ∧ Below w.heap.size w w' := by
  have bx : Below w.heap.size w (((w.alloc (.cells #[.slice A0 ts.length c0] 24)).alloc (.cells #[.slice A l.length c] 40)).alloc (.cells #[.func (.func G) #[] capG] 133)) := (by repeat (first | exact Below.refl _ _ | assumption | (refine Below.alloc ?_ (by simp <;> omega) _) | refine Below.drew ?_ | refine bdn ?_ _))
  have z0 : w.heap.size + 3 ≤ (((w.alloc (.cells #[.slice A0 ts.length c0] 24)).alloc (.cells #[.slice A l.length c] 40)).alloc (.cells #[.func (.func G) #[] capG] 133)).heap.size := by simp
  have k3 : (((w.alloc (.cells #[.slice A0 ts.length c0] 24)).alloc (.cells #[.slice A l.length c] 40)).alloc (.cells #[.func (.func G) #[] capG] 133)).cell? ⟨w.heap.size, 0, none⟩ = some (.slice A0 ts.length c0) := by simp [go_sem]
  have k4 : (((w.alloc (.cells #[.slice A0 ts.length c0] 24)).alloc (.cells #[.slice A l.length c] 40)).alloc (.cells #[.func (.func G) #[] capG] 133)).cell? ⟨w.heap.size + 1, 0, none⟩ = some (.slice A l.length c) := by simp [go_sem]
  have k5 : (((w.alloc (.cells #[.slice A0 ts.length c0] 24)).alloc (.cells #[.slice A l.length c] 40)).alloc (.cells #[.func (.func G) #[] capG] 133)).cell? ⟨w.heap.size + 2, 0, none⟩ = some (.func (.func G) #[] capG) := by simp [go_sem]
  have HV := hide (validWishs_any ts l A0 c0 A c _ h0 hs ((h1.below bx).more bx.size) ((h2.below bx).more bx.size))
  have HT := hide h1
  have HX := hide h2
  have HP := hide hp
  have HCF := hide hcf
  have hcf1 := hide (callFunc_gen (P := Try.prog) (F := 188) Try.func188 (by kernel_rfl) (by kernel_rfl))
  clear h1 h2 hp hcf
  cases hcd : vWishes ts l
  · have HR := hide (show bestO late ts l = ([], 0, 1) by simp [bestO, hcd])
    rw [hcd] at HV
    clear hcd
    go_enter Try.func110, Try.ntmps110
    go_wp2_with (go_at_call 183; refine (HV.out).mono ?_; rintro e w1 ⟨rfl, hb1⟩)
    go_ret3
    exact ⟨_, by rw [HR.out]; rfl, by rw [HR.out]; exact O_Int64S.nil _ _ _ _ _, bx.trans (hb1.mono bx.size)⟩
  have HR := hide (show bestO late ts l = ((ordGoF (valO late ts l) l.length l.length [] ([], -1)).1, (ordGoF (valO late ts l) l.length l.length [] ([], -1)).2, 0) by simp [bestO, hcd])
  have hl6 := (vWishes_iff.1 hcd).2.1
  have HCD := hide hcd
  rw [hcd] at HV
  clear hcd
  go_enter Try.func110, Try.ntmps110
  go_wp2_with (go_at_call 183; refine (HV.out).mono ?_; rintro e w1 ⟨rfl, hb1⟩; have hb2 := hb1.mono z0; have hz1 : w.heap.size + 3 ≤ w1.heap.size := Nat.le_trans z0 hb1.size; have j3 := (hb2.cell (p := ⟨w.heap.size, 0, none⟩) (by dsimp only; omega)).trans k3; have j4 := (hb2.cell (p := ⟨w.heap.size + 1, 0, none⟩) (by dsimp only; omega)).trans k4; have j5 := (hb2.cell (p := ⟨w.heap.size + 2, 0, none⟩) (by dsimp only; omega)).trans k5; have b13 : Below w1.heap.size w1 (((w1.alloc (.cells #[] 2)).alloc (.cells #[.slice (some ⟨w1.heap.size, 0, none⟩) 0 0] 24)).alloc (.cells #[.int .i64 (-1)] 2)) := (((Below.refl _ _).alloc (Nat.le_refl _) _).alloc (by simp) _).alloc (by simp; omega) _; have i3 := (b13.cell (p := ⟨w.heap.size, 0, none⟩) (by dsimp only; omega)).trans j3; have i4 := (b13.cell (p := ⟨w.heap.size + 1, 0, none⟩) (by dsimp only; omega)).trans j4; have i5 := (b13.cell (p := ⟨w.heap.size + 2, 0, none⟩) (by dsimp only; omega)).trans j5)
  have bw1 : Below w.heap.size w w1 := bx.trans (hb1.mono bx.size)
  have X3 : BoxN (((w1.alloc (.cells #[] 2)).alloc (.cells #[.slice (some ⟨w1.heap.size, 0, none⟩) 0 0] 24)).alloc (.cells #[.int .i64 (-1)] 2)) (w1.heap.size + 1) #[.slice (some ⟨w1.heap.size, 0, none⟩) 0 0] 24 := by
    have := (BoxN.new (w1.alloc (.cells #[] 2)) #[.slice (some ⟨w1.heap.size, 0, none⟩) 0 0] 24).alloc (.cells #[.int .i64 (-1)] 2)
    simpa using this
  have Y3 : BoxN (((w1.alloc (.cells #[] 2)).alloc (.cells #[.slice (some ⟨w1.heap.size, 0, none⟩) 0 0] 24)).alloc (.cells #[.int .i64 (-1)] 2)) (w1.heap.size + 1 + 1) #[.int .i64 (-1)] 2 := by
    have := BoxN.new ((w1.alloc (.cells #[] 2)).alloc (.cells #[.slice (some ⟨w1.heap.size, 0, none⟩) 0 0] 24)) #[.int .i64 (-1)] 2
    simpa using this
  have hz3 : w1.heap.size + 1 + 2 ≤ (((w1.alloc (.cells #[] 2)).alloc (.cells #[.slice (some ⟨w1.heap.size, 0, none⟩) 0 0] 24)).alloc (.cells #[.int .i64 (-1)] 2)).heap.size := by simp
  clear j3 j4 j5 k3 k4 k5 hb1 hb2 z0 bx HV
  generalize (((w1.alloc (.cells #[] 2)).alloc (.cells #[.slice (some ⟨w1.heap.size, 0, none⟩) 0 0] 24)).alloc (.cells #[.int .i64 (-1)] 2)) = w3 at *
  have I3 : InvB (w1.heap.size + 1) ([], -1) w3 := ⟨_, X3, Y3, O_Int64S.nil _ _ _ _ _, hz3⟩
  clear X3 Y3
  have bw3 := bw1.trans (b13.mono bw1.size)
  have HO := hide (orders_any (valO late ts l) l.length hl6 188 #[.pointer (some ⟨w.heap.size + 1 + 1, 0, none⟩), .pointer (some ⟨w.heap.size, 0, none⟩), .pointer (some ⟨w.heap.size + 1, 0, none⟩), .pointer (some ⟨w1.heap.size + 1 + 1, 0, none⟩), .pointer (some ⟨w1.heap.size + 1, 0, none⟩)] (w1.heap.size + 1) w3 hcf1.out (InvB (w1.heap.size + 1)) (fun s W W' h k => h.below k)
    (fun order s W A2 c2 hol hg ho hpb hi hr => by
      have hb := ho.below (B := w1.heap.size + 1) (Nat.le_refl _) (by omega)
      have bw := bw3.trans (hb.mono (by omega))
      have hzw := hb.size
      have := bestCl_any late ts l G capG A0 c0 A c (w.heap.size + 2) w.heap.size (w.heap.size + 1) (w1.heap.size + 1) order s A2 c2 W HCF.out (by omega) (by omega) (by omega)
        ((hb.cell (p := ⟨w.heap.size + 2, 0, none⟩) (by dsimp only; omega)).trans i5) ((hb.cell (p := ⟨w.heap.size, 0, none⟩) (by dsimp only; omega)).trans i3) ((hb.cell (p := ⟨w.heap.size + 1, 0, none⟩) (by dsimp only; omega)).trans i4)
        ((HT.out.below bw).more bw.size) ((HX.out.below bw).more bw.size) (hg.code HCD.out hol) hr (fun A3 c3 po base W' hW' => HP.out order A3 c3 po base W' (bw.trans (hW'.mono bw.size)) (hg.code HCD.out hol)) hi
      exact this)
    l.length [] ([], -1) w3 none 0 (by simp) (GoodO.nil _) (only_of_below (Below.refl _ _)) hz3 I3 (O_Int64S.nil _ _ _ _ _))
  rw [List.length_nil] at HO
  generalize hfin : ordGoF (valO late ts l) l.length l.length [] ([], -1) = fin at *
  clear hfin
  go_wp2_with (go_at_call 187; refine (HO.out).mono ?_; rintro e w5 ⟨rfl, hi5, ho5⟩)
  obtain ⟨v5, X5, Y5, O5, hz5⟩ := hi5
  obtain ⟨A5, c5, hv5, _⟩ := O5.r
  subst hv5
  have x5 : w5.cell? ⟨w1.heap.size + 1, 0, none⟩ = some (.slice A5 fin.1.length c5) := X5.cell 0
  have y5 : w5.cell? ⟨w1.heap.size + 1 + 1, 0, none⟩ = some (.int .i64 fin.2) := Y5.cell 0
  clear X5 Y5
  go_quiet (fail)
  go_wp2_with fail
  go_ret3
  have hb5 := ho5.below (B := w.heap.size) (by omega) (by omega)
  refine ⟨_, by rw [HR.out]; rfl, ?_, bdn (bw3.trans hb5) nq⟩
  rw [HR.out]
  exact (own_to O5 (only_of_below (lo := 0) (hi := 0) (bdn (Below.refl _ _) nq)) (by omega) (Nat.le_refl _)).widen (by omega) (Nat.le_refl _)
end Go.Proofs.Ytfhociekhffjhaa
