/-
  The sum of delays; in the program and in the reference.
-/
import Derived.Test.YtfhociekhffjhaaRunJ
namespace Go.Proofs.Ytfhociekhffjhaa
open Go.RowKit

theorem dlGo_drop {l : List TN} {xs : List Int} {k : Nat} {z : Int} (h : xs[k]? = some z) : dlGo l (xs.drop k) k = z - (wishAt l k).p + dlGo l (xs.drop (k + 1)) (k + 1) := by rw [drop_cons h, dlGo]
set_option maxRecDepth 100000 in
set_option maxHeartbeats 4000000 in
theorem delayOf_any (l x : List TN) (A : Option Addr) (c : Nat) (A2 : Option Addr) (c2 : Nat) (w : World) (hl6 : l.length ≤ 6) (hxl : x.length = l.length) (hb : ∀ e ∈ x, 0 ≤ e.p ∧ e.p ≤ 100000) (hp : ∀ e ∈ l, 0 ≤ e.p ∧ e.p ≤ 10000) (h2 : RN 2 w w.heap.size A l) (h3 : RN 1 w w.heap.size A2 x) :
    Calls Try.prog 112 #[.slice A l.length c, .slice A2 x.length c2] w fun e w' => e = .returned (.int .i64 (dlGo l (x.map (·.p)) 0)) ∧ Below w.heap.size w w' := by
  have HX := hide h2
  have HO := hide h3
  have HB := hide hb
  have HPP := hide hp
  have HXL := hide hxl
  have hx6 : x.length ≤ 6 := by omega
  clear h2 h3 hb hp hxl
  go_enter Try.func112, Try.ntmps112
  go_wp2_with fail
  go_loopg [5, 10] x.length (fun g s i wr => ∃ (k : Nat) (acc : Int), k ≤ x.length ∧ Hid (g = x.length - k) ∧ i = .int .i64 k ∧ s = .int .i64 acc ∧ -100000 * (k : Int) ≤ acc ∧ acc ≤ 100000 * (k : Int) ∧ Hid (dlGo l (x.map (·.p)) 0 = acc + dlGo l ((x.map (·.p)).drop k) k) ∧ Below w.heap.size w wr)
  case atStart => exact ⟨0, 0, by omega, by simp [Hid], rfl, rfl, by omega, by omega, by simp [Hid], Below.refl _ _⟩
  case round =>
    obtain ⟨k, acc, hk, hg, rfl, rfl, ha0, ha9, HS, hb⟩ := hrel
    by_cases hlt : k < x.length
    · obtain ⟨b3, o3, z, Az, cz, rfl, _, hz, _, hm0, hd1, _⟩ := (HO.out.below hb).at_ (by omega) hlt
      have hm1 := hd1 (by omega)
      obtain ⟨b1, o1, e, Aw, cw, rfl, hbb1, he, _, hn0, hc1, _⟩ := (HX.out.below hb).at_ (by omega) (show k < l.length by have := HXL.out; omega)
      have hn1 := hc1 (by omega)
      have hkl : (k : Int) < l.length := by have := HXL.out; omega
      have hk0 : (0 : Int) ≤ (k : Int) := by omega
      obtain ⟨hz0, hz9⟩ := HB.out z (List.mem_of_getElem? hz)
      obtain ⟨hp0, hp9⟩ := HPP.out e (List.mem_of_getElem? he)
      have HS' := HS.out
      rw [dlGo_drop (by rw [List.getElem?_map, hz]; rfl : (x.map (·.p))[k]? = some z.p), wishAt_get he] at HS'
      have HQ := hide (show dlGo l (x.map (·.p)) 0 = (acc + (z.p - e.p)) + dlGo l ((x.map (·.p)).drop (k + 1)) (k + 1) by rw [HS']; omega)
      have hw1 : IntKind.i64.wrap (z.p - e.p) = z.p - e.p := by rw [IntKind.wrap_i64] <;> omega
      have hw2 : IntKind.i64.wrap (acc + (z.p - e.p)) = acc + (z.p - e.p) := by rw [IntKind.wrap_i64] <;> omega
      have hba := hide (hb.alloc hb.size (.cells #[.slice Az z.way.length cz, .int .i64 z.p] 34))
      have m0 : (wr.alloc (.cells #[.slice Az z.way.length cz, .int .i64 z.p] 34)).cell? ⟨wr.heap.size, 1, none⟩ = some (.int .i64 z.p) := by simp [go_sem]
      have m1 : (wr.alloc (.cells #[.slice Az z.way.length cz, .int .i64 z.p] 34)).cell? ⟨b1, o1 + k * 3 + 1, none⟩ = some (.int .i64 e.p) := (World.cell?_alloc_old _ _ _ (by dsimp only; have := hb.size; omega)).trans hn1
      clear HS' HS hz he hc1 hn0 hd1 hn1
      go_wp2_with fail
      clear hm0 hm1
      generalize (wr.alloc (.cells #[.slice Az z.way.length cz, .int .i64 z.p] 34)) = wb at *
      go_quiet (fail)
      go_wp2_with fail
      go_roundg (x.length - (k + 1))
      case measure => have := hg.out; omega
      case rel => exact ⟨k + 1, acc + (z.p - e.p), by omega, rfl, by go_num, by first | rfl | go_num, by omega, by omega, HQ, bdn hba.out _⟩
    · have HF := hide (HS.out.trans (by rw [List.drop_eq_nil_of_le (by rw [List.length_map]; omega), dlGo]; omega : _ = acc))
      go_wp2_with fail
      go_ret
      exact ⟨by rw [HF.out]; rfl, hb⟩
set_option maxRecDepth 100000 in
set_option maxHeartbeats 8000000 in
theorem P_SumOfDelays (ts : List Int) (v : Value) (l : List TN) (u : Value) (order : List Int) (y : Value) (w : World) (h0 : ts.length ≤ 1048576) (_ : ∀ z ∈ ts, -9223372036854775808 ≤ z ∧ z ≤ 9223372036854775807) (h : R_Int64S w w.heap.size v ts) (hs : SmallN l) (_ : ∀ e ∈ l, e.Fits) (k : R_WishS w w.heap.size u l) (ho : order.length ≤ 1048576) (_ : ∀ z ∈ order, -9223372036854775808 ≤ z ∧ z ≤ 9223372036854775807) (q : R_Int64S w w.heap.size y order) (hcap : ∀ A m c, y = .slice A m c → m ≤ c) :
    Calls Try.prog 26 #[v, u, y] w fun e w' => e = .returned (.tuple #[.int .i64 (sumOfDelays ts l order).1, .int .i64 (sumOfDelays ts l order).2]) ∧ Below w.heap.size w w' := by
  obtain ⟨A0, c0, rfl, h1⟩ := h
  obtain ⟨A, c, rfl, h2⟩ := k
  obtain ⟨A2, c2, rfl, h3⟩ := q
  have hc2 := hcap _ _ _ rfl
  have HC := hide (wishesCode_any ts l order A0 c0 A c A2 c2 w h0 hs ho hc2 h1 h2 h3)
  have HPL := hide fun (hcd : codeO ts l order = 0) W (hW : Below w.heap.size w W) => runsOfPlan_any ts l order A0 c0 A c A2 c2 W hcd ((h1.below hW).more hW.size) ((h2.below hW).more hW.size) ((h3.below hW).more hW.size)
  have HX := hide h2
  have HTR := hide h1
  clear h1 h2 h3
  by_cases hcd : codeO ts l order = 0
  case neg =>
    have HR := hide (show sumOfDelays ts l order = (0, codeO ts l order) by unfold sumOfDelays; exact if_neg hcd)
    have hne : (codeO ts l order != 0) = true := by simp [hcd]
    generalize codeO ts l order = cd at *
    go_enter Try.func26, Try.ntmps26
    go_wp2_with (go_at_call 113; refine (HC.out).mono ?_; rintro e w1 ⟨rfl, hb1⟩)
    go_ret2
    exact ⟨by rw [HR.out]; rfl, hb1⟩
  have HOK := hide (codeO_ok hcd)
  have HPQ := hide (HPL.out hcd)
  rw [hcd] at HC
  have HR := hide (show sumOfDelays ts l order = (dlGo l (plan ts l order) 0, 0) by unfold sumOfDelays; exact if_pos hcd)
  have hl6 := HOK.out.1.2.1
  have HDL := hide fun (A3 : Option Addr) (c3 : Nat) W (hW : Below w.heap.size w W) (r : RN 1 W W.heap.size A3 (planR ts l order)) => delayOf_any l (planR ts l order) A c A3 c3 W hl6 (planR_len ts l order) (fun e he => by obtain ⟨i, hi⟩ := List.getElem?_of_mem he; exact plan_bd hcd _ (List.mem_of_getElem? (planR_get hi))) (fun e he => (HOK.out.1.2.2 e he).2.1) ((HX.out.below hW).more hW.size) r
  rw [planR_len, plan_p] at HDL
  clear hcd HPL
  go_enter Try.func26, Try.ntmps26
  go_wp2_with (first | (go_at_call 113; refine (HC.out).mono ?_; rintro e w1 ⟨rfl, hb1⟩) | (go_at_call 114; refine (HPQ.out _ hb1).mono ?_; rintro e w2 ⟨A3, c3, po, rfl, hpo, hro, hwy, hb2⟩; have hb3 := hb1.trans (hb2.mono hb1.size); have hrn : RN 1 w2 w2.heap.size A3 (planR ts l order) := ⟨po, hpo, Rd.of_own hro, fun p hp => by obtain ⟨A', c', h5, h6⟩ := hwy p hp; exact ⟨A', c', h5, (h6.below hb2).more hb2.size⟩⟩) | (go_at_call 112; refine (HDL.out _ _ _ hb3 hrn).mono ?_; rintro e w3 ⟨rfl, hb4⟩))
  go_ret2
  exact ⟨by rw [HR.out]; rfl, hb3.trans (hb4.mono hb3.size)⟩
end Go.Proofs.Ytfhociekhffjhaa
