/-
  The best order and the one with the fewest late carriers, in the program.
-/
import Derived.Test.YtfhociekhffjhaaOrdC
namespace Go.Proofs.Ytfhociekhffjhaa
open Go.RowKit

theorem RN.of_row {w : World} {base n : Nat} {A : Option Addr} {c : Nat} {T : TypeId} {po : List (Value × TN)} {x : List TN} (h : w.ownsRow base T 2 (.slice A n c) n (po.flatMap (Nc 1))) (hx : po.map (·.2) = x) (hw : ∀ p ∈ po, WayAt w w.heap.size p) : RN 1 w w.heap.size A x :=
  ⟨po, hx, Rd.of_own h, hw⟩
theorem planR_bd {ts : List Int} {l : List TN} {order : List Int} (h : codeO ts l order = 0) : ∀ e ∈ planR ts l order, 0 ≤ e.p ∧ e.p ≤ 100000 := by
  intro e he
  have := plan_bd h e.p (by rw [← plan_p]; exact List.mem_map_of_mem he)
  exact this
set_option maxRecDepth 100000 in
set_option maxHeartbeats 4000000 in
theorem bestVal_any (ts : List Int) (l : List TN) (order : List Int) (A : Option Addr) (c : Nat) (A3 : Option Addr) (c3 : Nat) (po : List (Value × TN)) (base bl : Nat) (w : World) (hcd : codeO ts l order = 0)
    (kl : w.cell? ⟨bl, 0, none⟩ = some (.slice A l.length c)) (h2 : RN 2 w w.heap.size A l) (hx : po.map (·.2) = planR ts l order) (hro : w.ownsRow base 34 2 (.slice A3 l.length c3) l.length (po.flatMap (Nc 1))) (hw : ∀ p ∈ po, WayAt w w.heap.size p) :
    Calls Try.prog 111 #[.slice A3 l.length c3, .pointer (some ⟨bl, 0, none⟩)] w fun e w' => e = .returned (.int .i64 (valO false ts l order)) ∧ Below w.heap.size w w' := by
  obtain ⟨⟨hts, hl6, hlo⟩, hol, hoi⟩ := codeO_ok hcd
  have hxl := planR_len ts l order
  have HC := hide (delayOf_any l (planR ts l order) A c A3 c3 w hl6 hxl (planR_bd hcd) (fun e he => (hlo e he).2.1) h2 (RN.of_row hro hx hw))
  rw [hxl, plan_p] at HC
  have HV := hide (show valO false ts l order = dlGo l (plan ts l order) 0 by unfold valO; exact if_neg (by simp))
  clear h2 hro hw hx hcd hxl hts hlo hol hoi
  go_enter Try.func111, Try.ntmps111
  go_wp2_with (go_at_call 112; refine (HC.out).mono ?_; rintro e w1 ⟨rfl, hb1⟩)
  go_ret
  exact ⟨ret_i HV.out.symm, hb1⟩
set_option maxRecDepth 100000 in
set_option maxHeartbeats 4000000 in
theorem fewVal_any (ts : List Int) (l : List TN) (order : List Int) (A0 : Option Addr) (c0 : Nat) (A : Option Addr) (c : Nat) (A3 : Option Addr) (c3 : Nat) (po : List (Value × TN)) (base bt bl : Nat) (w : World) (hcd : codeO ts l order = 0)
    (kt : w.cell? ⟨bt, 0, none⟩ = some (.slice A0 ts.length c0)) (kl : w.cell? ⟨bl, 0, none⟩ = some (.slice A l.length c)) (h1 : RdI w w.heap.size A0 ts) (h2 : RN 2 w w.heap.size A l) (hx : po.map (·.2) = planR ts l order) (hro : w.ownsRow base 34 2 (.slice A3 l.length c3) l.length (po.flatMap (Nc 1))) (hw : ∀ p ∈ po, WayAt w w.heap.size p) :
    Calls Try.prog 155 #[.slice A3 l.length c3, .pointer (some ⟨bt, 0, none⟩), .pointer (some ⟨bl, 0, none⟩)] w fun e w' => e = .returned (.int .i64 (valO true ts l order)) ∧ Below w.heap.size w w' := by
  obtain ⟨⟨hts, hl6, hlo⟩, hol, hoi⟩ := codeO_ok hcd
  have hxl := planR_len ts l order
  have HC := hide (lateOf_any ts l (planR ts l order) A0 c0 A c A3 c3 w hts hl6 hlo hxl (planR_bd hcd) (fun i e he => planR_way hcd he) h1 h2 po hx base (by rw [hxl]; exact hro) hw)
  rw [hxl, plan_p] at HC
  have HV := hide (show valO true ts l order = ((laGo ts l (plan ts l order) 0).length : Int) by unfold valO; exact if_pos rfl)
  generalize valO true ts l order = z at *
  generalize laGo ts l (plan ts l order) 0 = la at *
  clear h1 h2 hro hw hx hcd hxl hts hlo hol hoi
  go_enter Try.func155, Try.ntmps155
  go_wp2_with (go_at_call 154; refine (HC.out).mono ?_; rintro e w1 ⟨r, rfl, hO, hb1⟩; obtain ⟨Ar, cr, rfl⟩ := hO.1; have hsm := hO.small)
  go_ret
  exact ⟨ret_i HV.out.symm, hb1⟩
set_option maxRecDepth 100000 in
set_option maxHeartbeats 4000000 in
theorem P_BestOrder (ts : List Int) (v : Value) (l : List TN) (u : Value) (w : World) (h0 : ts.length ≤ 1048576) (_ : ∀ z ∈ ts, -9223372036854775808 ≤ z ∧ z ≤ 9223372036854775807) (h : R_Int64S w w.heap.size v ts) (hs : SmallN l) (_ : ∀ e ∈ l, e.Fits) (k : R_WishS w w.heap.size u l) :
    Calls Try.prog 25 #[v, u] w fun e w' => ∃ r, e = .returned (.tuple #[r, .int .i64 (bestO false ts l).2.1, .int .i64 (bestO false ts l).2.2]) ∧ O_Int64S w' w.heap.size w'.heap.size r (bestO false ts l).1 ∧ Below w.heap.size w w' := by
  obtain ⟨A0, c0, rfl, h1⟩ := h
  obtain ⟨A, c, rfl, h2⟩ := k
  have bx : Below w.heap.size w (w.alloc (.cells #[.slice A l.length c] 40)) := (by repeat (first | exact Below.refl _ _ | assumption | (refine Below.alloc ?_ (by simp <;> omega) _) | refine Below.drew ?_ | refine bdn ?_ _))
  have k4 : (w.alloc (.cells #[.slice A l.length c] 40)).cell? ⟨w.heap.size, 0, none⟩ = some (.slice A l.length c) := by simp [go_sem]
  have z1 : w.heap.size < (w.alloc (.cells #[.slice A l.length c] 40)).heap.size := by simp
  have h2x := (h2.below bx).more bx.size
  have HC := hide (bestOrder_any false 111 #[.pointer (some ⟨w.heap.size, 0, none⟩)] ts l A0 c0 A c (w.alloc (.cells #[.slice A l.length c] 40)) h0 hs ((h1.below bx).more bx.size) h2x (callFunc_gen (P := Try.prog) (F := 111) Try.func111 (by kernel_rfl) (by kernel_rfl))
    (fun order A3 c3 po base W' hW' hcd hx hro hw => bestVal_any ts l order A c A3 c3 po base w.heap.size W' hcd ((hW'.cell (p := ⟨w.heap.size, 0, none⟩) z1).trans k4) ((h2x.below hW').more hW'.size) hx hro hw))
  clear h1 h2 h2x z1
  go_enter Try.func25, Try.ntmps25
  go_wp2_with (go_at_call 110; refine (HC.out).mono ?_; rintro e w1 ⟨r, rfl, ho, hb1⟩)
  go_ret3
  exact ⟨r, rfl, ho.widen bx.size (Nat.le_refl _), bx.trans (hb1.mono bx.size)⟩
set_option maxRecDepth 100000 in
set_option maxHeartbeats 4000000 in
theorem P_FewestLate (ts : List Int) (v : Value) (l : List TN) (u : Value) (w : World) (h0 : ts.length ≤ 1048576) (_ : ∀ z ∈ ts, -9223372036854775808 ≤ z ∧ z ≤ 9223372036854775807) (h : R_Int64S w w.heap.size v ts) (hs : SmallN l) (_ : ∀ e ∈ l, e.Fits) (k : R_WishS w w.heap.size u l) :
    Calls Try.prog 67 #[v, u] w fun e w' => ∃ r, e = .returned (.tuple #[r, .int .i64 (bestO true ts l).2.1, .int .i64 (bestO true ts l).2.2]) ∧ O_Int64S w' w.heap.size w'.heap.size r (bestO true ts l).1 ∧ Below w.heap.size w w' := by
  obtain ⟨A0, c0, rfl, h1⟩ := h
  obtain ⟨A, c, rfl, h2⟩ := k
  have bx : Below w.heap.size w ((w.alloc (.cells #[.slice A0 ts.length c0] 24)).alloc (.cells #[.slice A l.length c] 40)) := (by repeat (first | exact Below.refl _ _ | assumption | (refine Below.alloc ?_ (by simp <;> omega) _) | refine Below.drew ?_ | refine bdn ?_ _))
  have k3 : ((w.alloc (.cells #[.slice A0 ts.length c0] 24)).alloc (.cells #[.slice A l.length c] 40)).cell? ⟨w.heap.size, 0, none⟩ = some (.slice A0 ts.length c0) := by simp [go_sem]
  have k4 : ((w.alloc (.cells #[.slice A0 ts.length c0] 24)).alloc (.cells #[.slice A l.length c] 40)).cell? ⟨w.heap.size + 1, 0, none⟩ = some (.slice A l.length c) := by simp [go_sem]
  have z1 : w.heap.size + 1 < ((w.alloc (.cells #[.slice A0 ts.length c0] 24)).alloc (.cells #[.slice A l.length c] 40)).heap.size := by simp
  have h1x := (h1.below bx).more bx.size
  have h2x := (h2.below bx).more bx.size
  have HC := hide (bestOrder_any true 155 #[.pointer (some ⟨w.heap.size, 0, none⟩), .pointer (some ⟨w.heap.size + 1, 0, none⟩)] ts l A0 c0 A c _ h0 hs h1x h2x (callFunc_gen (P := Try.prog) (F := 155) Try.func155 (by kernel_rfl) (by kernel_rfl))
    (fun order A3 c3 po base W' hW' hcd hx hro hw => fewVal_any ts l order A0 c0 A c A3 c3 po base w.heap.size (w.heap.size + 1) W' hcd ((hW'.cell (p := ⟨w.heap.size, 0, none⟩) (by dsimp only; omega)).trans k3) ((hW'.cell (p := ⟨w.heap.size + 1, 0, none⟩) z1).trans k4) ((h1x.below hW').more hW'.size) ((h2x.below hW').more hW'.size) hx hro hw))
  clear h1 h2 h1x h2x z1
  go_enter Try.func67, Try.ntmps67
  go_wp2_with (go_at_call 110; refine (HC.out).mono ?_; rintro e w1 ⟨r, rfl, ho, hb1⟩)
  go_ret3
  exact ⟨r, rfl, ho.widen bx.size (Nat.le_refl _), bx.trans (hb1.mono bx.size)⟩
end Go.Proofs.Ytfhociekhffjhaa
