/-
  Rides in the reference: ticks of ways, places, the slowest one, catching up.
  Rides in the reference: the place after some ticks.
-/
import Derived.Test.YtlkccijlbeibjaaQPlaces5
import Derived.Test.YtlkccijlbeibjaaQPlaces6
import Derived.Test.YtlkccijlbeibjaaQPlaces7
namespace Go.Proofs.Ytlkccijlbeibjaa
open Go.RowKit
set_option maxRecDepth 100000 in
set_option maxHeartbeats 4000000 in
theorem specTicksOfWay_any (xs : List T4) (A : Option Addr) (c : Nat) (w : World) (hl : xs.length ≤ 1048576) (h : Rd4 w w.heap.size A xs) :
    Calls Try.prog 49 #[.slice A xs.length c] w fun e w' => e = .returned (.tuple #[.int .i64 (ticksOfWay xs).1, .int .i64 (ticksOfWay xs).2]) ∧ Below w.heap.size w w' := by
  have HV := hide (specList_any xs A c w hl h)
  cases ho : okRs xs
  · have HK := hide (show ticksOfWay xs = (0, 1) by unfold ticksOfWay; rw [if_pos ho])
    rw [ho] at HV
    clear ho h
    go_enter Try.func49, Try.ntmps49
    go_wp2_with (go_at_call 126; refine HV.out.mono ?_; rintro e w1 ⟨rfl, rfl⟩)
    refine bodyPost_ret (v := .tuple #[.int .i64 0, .int .i64 1]) (by simp [results, Try.results49, go_sem]) rfl ⟨by rw [HK.out], Below.refl _ _⟩
  have HK := hide (show ticksOfWay xs = (sumR xs, 0) by unfold ticksOfWay; rw [if_neg (by simp [ho])])
  obtain ⟨h8, hx⟩ := okRs_iff.1 ho
  have HX := hide h
  have HO := hide hx
  rw [ho] at HV
  clear ho h hx
  go_enter Try.func49, Try.ntmps49
  go_wp2_with (go_at_call 126; refine HV.out.mono ?_; rintro e w1 ⟨rfl, rfl⟩)
  go_loopg [4, 5] xs.length (fun g s i wr => ∃ k : Nat, k ≤ xs.length ∧ Hid (g = xs.length - k) ∧ s = .int .i64 (sumR (xs.take k)) ∧ i = .int .i64 k ∧ Below w.heap.size w wr)
  case atStart => exact ⟨0, Nat.zero_le _, by simp [Hid], by simp [sumR], rfl, Below.refl _ _⟩
  case round =>
    obtain ⟨k, hk, hg, rfl, rfl, hB⟩ := hrel
    by_cases hlt : k < xs.length
    · obtain ⟨b1, o1, z1, rfl, hb1, hz1, hra⟩ := (HX.out.below hB).rat hlt
      have hlt' : (k : Int) < (xs.length : Int) := by omega
      have hzo := HO.out z1 (List.mem_of_getElem? hz1)
      have HT := hide (specTicks_b z1 b1 (o1 + k * 4) wr hzo hra)
      have ht := sumR_take hz1
      have h1 := sumR_bd (xs := xs.take (k + 1)) (fun y hy => HO.out y (List.mem_of_mem_take hy))
      have hlk : (xs.take (k + 1)).length ≤ 8 := by rw [List.length_take]; omega
      have e1 : IntKind.i64.wrap (sumR (xs.take k) + ticksR z1) = sumR (xs.take (k + 1)) := by rw [← ht]; exact wrap_in (by omega) (by omega)
      obtain ⟨s1, hs1⟩ : ∃ s1, s1 = sumR (xs.take (k + 1)) := ⟨_, rfl⟩
      rw [← hs1] at e1
      have HS1 := hide hs1
      generalize sumR (xs.take k) = s0 at *
      clear ht h1 hlk hz1 hzo hs1 hra
      go_wp2_with (go_at_call 127; refine (HT.out).mono ?_; rintro e w2 ⟨rfl, s2⟩)
      go_roundg (xs.length - (k + 1))
      case measure => have := hg.out; omega
      case rel => exact ⟨k + 1, by omega, rfl, by rw [HS1.out], by go_num, hB.trans (s2.mono hB.size)⟩
    · obtain rfl : k = xs.length := by omega
      rw [List.take_length]
      go_wp2_with fail
      refine bodyPost_ret (v := .tuple #[.int .i64 (sumR xs), .int .i64 0]) (by simp [results, Try.results49, go_sem]) rfl ⟨by rw [HK.out], hB⟩
theorem specSpeedOf_any (x : T4) (w : World) (h : okR x = true) :
    Calls Try.prog 59 #[.agg #[.int .i64 x.a, .int .i64 x.b, .int .i64 x.c, .int .i64 x.d]] w fun e w' => e = .returned (.tuple #[.agg #[.int .i64 (speedOf x).1.1, .int .i64 (speedOf x).1.2], .int .i64 (speedOf x).2]) ∧ Below w.heap.size w w' := by
  obtain ⟨⟨a1, a2⟩, ⟨b1, b2⟩, ⟨c1, c2⟩, d1, d2⟩ := okR_bd h
  obtain ⟨n1, n2⟩ := denR_pos h
  have X0 := hide (show BoxN ((w.alloc (.cells #[.int .i64 x.a, .int .i64 x.b, .int .i64 x.c, .int .i64 x.d] 83)).alloc (.cells #[.int .i64 0, .int .i64 0] 77)) w.heap.size #[.int .i64 x.a, .int .i64 x.b, .int .i64 x.c, .int .i64 x.d] 83 from (BoxN.new w _ _).alloc _)
  have Y0 := hide (show BoxN ((w.alloc (.cells #[.int .i64 x.a, .int .i64 x.b, .int .i64 x.c, .int .i64 x.d] 83)).alloc (.cells #[.int .i64 0, .int .i64 0] 77)) (w.heap.size + 1) #[.int .i64 0, .int .i64 0] 77 by have h := BoxN.new (w.alloc (.cells #[.int .i64 x.a, .int .i64 x.b, .int .i64 x.c, .int .i64 x.d] 83)) #[.int .i64 0, .int .i64 0] 77; simpa using h)
  have b0 : Below w.heap.size w ((w.alloc (.cells #[.int .i64 x.a, .int .i64 x.b, .int .i64 x.c, .int .i64 x.d] 83)).alloc (.cells #[.int .i64 0, .int .i64 0] 77)) := (by repeat (first | exact Below.refl _ _ | assumption | (refine Below.alloc ?_ (by simp <;> omega) _) | refine Below.drew ?_ | refine bdn ?_ _))
  have B0 := hide b0
  have z0 := Y0.out.lt
  have HR := fun W (hX : BoxN W w.heap.size #[.int .i64 x.a, .int .i64 x.b, .int .i64 x.c, .int .i64 x.d] 83) => (⟨hX.cell 0, by rw [Nat.zero_add]; exact hX.cell 1, by rw [Nat.zero_add]; exact hX.cell 2, by rw [Nat.zero_add]; exact hX.cell 3⟩ : RAt W w.heap.size 0 x)
  have HV := hide fun W hX => specOk_any x w.heap.size 0 W (HR W hX)
  have HN := hide fun W hX => specNum_any x w.heap.size 0 W h (HR W hX)
  have HD := hide fun W hX => specDen_b x w.heap.size 0 W h (HR W hX)
  rw [h] at HV
  have HK := hide (show speedOf x = (lowF (100 * x.c) (denR x), 0) by unfold speedOf; rw [if_neg (by simp [h])])
  generalize denR x = dn at *
  have HL := hide fun W => specMake_any (100 * x.c) dn W (by omega) (by omega) (by omega) (by omega)
  obtain ⟨f1, f2⟩ : ∃ f, f = lowF (100 * x.c) dn := ⟨_, rfl⟩
  rw [← f2] at HL HK
  clear f2 HR
  clear h b0
  go_enter Try.func59, Try.ntmps59
  go_upto_region 1 with fail
  generalize ((w.alloc (.cells #[.int .i64 x.a, .int .i64 x.b, .int .i64 x.c, .int .i64 x.d] 83)).alloc (.cells #[.int .i64 0, .int .i64 0] 77)) = w1 at *
  go_wp2_with (first
    | (go_at_call 135; refine (HV.out _ X0.out).mono ?_; rintro e w2 ⟨rfl, rfl⟩)
    | (go_at_call 129; refine (HN.out _ X0.out).mono ?_; rintro e w3 ⟨rfl, rfl⟩)
    | (go_at_call 130; refine (HD.out _ X0.out).mono ?_; rintro e w4 ⟨rfl, s4⟩)
    | (go_at_call 128; refine (HL.out _).mono ?_; rintro e w5 ⟨rfl, s5⟩; have Y5 := hide ((Y0.out.below s4 (by omega)).below s5 (by have := s4.size; omega)); have B5 := hide ((B0.out.trans (s4.mono B0.out.size)).trans (s5.mono (by have := s4.size; have := B0.out.size; omega))); have T0 := hide (Y5.out.set 0 (.int .i64 f1.1)); have T1 := hide (T0.out.set 1 (.int .i64 f1.2)); have m0 : w5.cell? ⟨w.heap.size + 1, 0, none⟩ = some (.int .i64 0) := Y5.out.cell 0; have n0 := Y5.out.fro 0; have m1 : (w5.setCell ⟨w.heap.size + 1, 0, none⟩ (.int .i64 f1.1)).cell? ⟨w.heap.size + 1, 1, none⟩ = some (.int .i64 0) := T0.out.cell 1; have n1' := T0.out.fro 1))
  have q0 : ((w5.setCell ⟨w.heap.size + 1, 0, none⟩ (.int .i64 f1.1)).setCell ⟨w.heap.size + 1, 1, none⟩ (.int .i64 f1.2)).cell? ⟨w.heap.size + 1, 0, none⟩ = some (.int .i64 f1.1) := T1.out.cell 0
  have q1 : ((w5.setCell ⟨w.heap.size + 1, 0, none⟩ (.int .i64 f1.1)).setCell ⟨w.heap.size + 1, 1, none⟩ (.int .i64 f1.2)).cell? ⟨w.heap.size + 1, 1, none⟩ = some (.int .i64 f1.2) := T1.out.cell 1
  refine bodyPost_ret (v := .tuple #[.agg #[.int .i64 f1.1, .int .i64 f1.2], .int .i64 0]) (by simp [results, Try.results59, go_sem, q0, q1]) rfl ⟨by rw [HK.out], ?_⟩
  exact (B5.out.setCell (p := ⟨w.heap.size + 1, 0, none⟩) (by dsimp only; omega) _).setCell (p := ⟨w.heap.size + 1, 1, none⟩) (by dsimp only; omega) _
theorem specSlowest_any (xs : List T4) (A : Option Addr) (c : Nat) (w : World) (hl : xs.length ≤ 1048576) (h : Rd4 w w.heap.size A xs) :
    Calls Try.prog 54 #[.slice A xs.length c] w fun e w' => e = .returned (.tuple #[.int .i64 (slowest xs).1, .int .i64 (slowest xs).2]) ∧ Below w.heap.size w w' := by
  have HV := hide (specList_any xs A c w hl h)
  cases ho : okRs xs
  · have HK := hide (show slowest xs = (0, 1) by unfold slowest; rw [if_pos ho])
    rw [ho] at HV
    clear ho h
    go_enter Try.func54, Try.ntmps54
    go_wp2_with (go_at_call 126; refine HV.out.mono ?_; rintro e w1 ⟨rfl, rfl⟩)
    refine bodyPost_ret (v := .tuple #[.int .i64 0, .int .i64 1]) (by simp [results, Try.results54, go_sem]) rfl ⟨by rw [HK.out], Below.refl _ _⟩
  obtain ⟨h8, hx⟩ := okRs_iff.1 ho
  rw [ho] at HV
  by_cases h0 : xs.length = 0
  · obtain rfl : xs = [] := List.eq_nil_of_length_eq_zero h0
    have HK := hide (show slowest [] = (0, 3) by unfold slowest; rw [if_neg (by simp [ho])])
    clear ho h hx
    go_enter Try.func54, Try.ntmps54
    go_wp2_with (go_at_call 126; refine HV.out.mono ?_; rintro e w1 ⟨rfl, rfl⟩)
    refine bodyPost_ret (v := .tuple #[.int .i64 0, .int .i64 3]) (by simp [results, Try.results54, go_sem]) rfl ⟨by rw [HK.out], Below.refl _ _⟩
  obtain ⟨x0, hx0⟩ : ∃ x0, xs[0]? = some x0 := ⟨_, List.getElem?_eq_getElem (by omega)⟩
  have HK := hide (show slowest xs = (((slowGo xs 0 x0 0 : Nat) : Int), 0) by
    cases xs with
    | nil => cases hx0
    | cons y ys => simp at hx0; subst hx0; unfold slowest; rw [if_neg (by simp [ho])])
  have H0 := hide (show slowGo xs 0 x0 0 = slowGo (xs.drop 1) 1 x0 0 by
    have h := slowGo_step (y := x0) (kb := 0) hx0
    rw [if_neg (by omega), List.drop_zero] at h; exact h)
  have HX := hide h
  have HO := hide hx
  have HX0 := hide hx0
  have hn0 : ¬ ((xs.length : Int) = 0) := by omega
  have hn0b : ((xs.length : Int) == 0) = false := by simpa using hn0
  clear ho h hx hx0
  go_enter Try.func54, Try.ntmps54
  go_wp2_with (go_at_call 126; refine HV.out.mono ?_; rintro e w1 ⟨rfl, rfl⟩)
  go_loopg [4, 5] (xs.length - 1) (fun g bv i wr => ∃ (k kb : Nat) (yb : T4), k ≤ xs.length ∧ Hid (g = xs.length - k) ∧ bv = .int .i64 kb ∧ i = .int .i64 k ∧ kb < xs.length ∧ Hid (xs[kb]? = some yb) ∧ Hid (slowGo xs 0 x0 0 = slowGo (xs.drop k) k yb kb) ∧ Hid (Below w.heap.size w wr))
  case atStart => exact ⟨1, 0, x0, by omega, rfl, rfl, rfl, by omega, HX0, H0, hide (Below.refl _ _)⟩
  case round =>
    obtain ⟨k, kb, yb, hk, hg, rfl, rfl, hkb, HYB, HS, HB⟩ := hrel
    by_cases hlt : k < xs.length
    · obtain ⟨b1, o1, z1, rfl, hb1, hz1, hra⟩ := (HX.out.below HB.out).rat hlt
      obtain ⟨b2, o2, z2, he, hb2, hz2, hrb⟩ := (HX.out.below HB.out).rat hkb
      cases he
      obtain rfl : z2 = yb := by have := HYB.out; rw [hz2] at this; cases this; rfl
      have hlt' : (k : Int) < (xs.length : Int) := by omega
      have hkb' : (kb : Int) < (xs.length : Int) := by omega
      have hkb0 : (0 : Int) ≤ (kb : Int) := by omega
      have hzo := HO.out z1 (List.mem_of_getElem? hz1)
      have hyo := HO.out z2 (List.mem_of_getElem? hz2)
      have hst := HS.out.trans (slowGo_step hz1)
      obtain ⟨⟨_, _⟩, ⟨_, _⟩, ⟨c1, c2⟩, _, _⟩ := okR_bd hzo
      obtain ⟨⟨_, _⟩, ⟨_, _⟩, ⟨d1, d2⟩, _, _⟩ := okR_bd hyo
      obtain ⟨n1, n2⟩ := denR_pos hzo
      obtain ⟨m1, m2⟩ := denR_pos hyo
      have HNz := hide fun n => specNum_any z1 b1 (o1 + k * 4) (wr.drewN n) hzo (hra.drew n)
      have HDz := hide fun n => specDen_q z1 b1 (o1 + k * 4) (wr.drewN n) hzo (hra.drew n)
      have HNy := hide fun n => specNum_any z2 b1 (o1 + kb * 4) (wr.drewN n) hyo (hrb.drew n)
      have HDy := hide fun n => specDen_q z2 b1 (o1 + kb * 4) (wr.drewN n) hyo (hrb.drew n)
      obtain ⟨t1, t2⟩ := mul_bd (a := 100 * z1.c) (b := denR z2) (m := 10000) (n := 1000) (by omega) (by omega) (by omega) m2
      obtain ⟨t3, t4⟩ := mul_bd (a := 100 * z2.c) (b := denR z1) (m := 10000) (n := 1000) (by omega) (by omega) (by omega) n2
      have e1 : IntKind.i64.wrap (100 * z1.c * denR z2) = 100 * z1.c * denR z2 := wrap_in (by omega) (by omega)
      have e2 : IntKind.i64.wrap (100 * z2.c * denR z1) = 100 * z2.c * denR z1 := wrap_in (by omega) (by omega)
      have HZ1 := hide hz1
      have HST := hide hst
      clear hz1 hz2 hst hzo hyo hra hrb
      by_cases hcm : z1.c * denR z2 < z2.c * denR z1
      · have hcm' : 100 * z1.c * denR z2 < 100 * z2.c * denR z1 := by rw [Int.mul_assoc, Int.mul_assoc]; omega
        go_upto_region 9 with fail
        go_quiet (first | (go_at_call 129; first | (with_reducible exact ql (HNz.out _)) | (with_reducible exact ql (HNy.out _))) | (go_at_call 130; first | (with_reducible exact qd (HDz.out _)) | (with_reducible exact qd (HDy.out _))))
        go_wp2_with fail
        go_roundg (xs.length - (k + 1))
        case measure => have := hg.out; omega
        case rel => exact ⟨k + 1, k, z1, by omega, rfl, rfl, by go_num, hlt, HZ1, hide (by rw [HST.out, if_pos hcm]), hide (bdn HB.out _)⟩
      · have hcm' : ¬ (100 * z1.c * denR z2 < 100 * z2.c * denR z1) := by rw [Int.mul_assoc, Int.mul_assoc]; omega
        go_upto_region 9 with fail
        go_quiet (first | (go_at_call 129; first | (with_reducible exact ql (HNz.out _)) | (with_reducible exact ql (HNy.out _))) | (go_at_call 130; first | (with_reducible exact qd (HDz.out _)) | (with_reducible exact qd (HDy.out _))))
        go_wp2_with fail
        go_roundg (xs.length - (k + 1))
        case measure => have := hg.out; omega
        case rel => exact ⟨k + 1, kb, z2, by omega, rfl, rfl, by go_num, hkb, HYB, hide (by rw [HST.out, if_neg (by omega)]), hide (bdn HB.out _)⟩
    · obtain rfl : k = xs.length := by omega
      have HE := hide (HS.out.trans (by rw [List.drop_eq_nil_of_le (Nat.le_refl _), slowGo]))
      go_wp2_with fail
      refine bodyPost_ret (v := .tuple #[.int .i64 kb, .int .i64 0]) (by simp [results, Try.results54, go_sem]) rfl ⟨by rw [HK.out, HE.out], HB.out⟩
set_option maxRecDepth 100000 in
set_option maxHeartbeats 4000000 in
theorem specCatchUp_any (a b : T4) (later : Int) (w : World) :
    Calls Try.prog 57 #[.agg #[.int .i64 a.a, .int .i64 a.b, .int .i64 a.c, .int .i64 a.d], .agg #[.int .i64 b.a, .int .i64 b.b, .int .i64 b.c, .int .i64 b.d], .int .i64 later] w fun e w' => e = .returned (.tuple #[.int .i64 (catchUp a b later).1, .int .i64 (catchUp a b later).2]) ∧ Below w.heap.size w w' := by
  have X0 := hide (show BoxN ((w.alloc (.cells #[.int .i64 a.a, .int .i64 a.b, .int .i64 a.c, .int .i64 a.d] 83)).alloc (.cells #[.int .i64 b.a, .int .i64 b.b, .int .i64 b.c, .int .i64 b.d] 83)) w.heap.size #[.int .i64 a.a, .int .i64 a.b, .int .i64 a.c, .int .i64 a.d] 83 from (BoxN.new w _ _).alloc _)
  have Y0 := hide (show BoxN ((w.alloc (.cells #[.int .i64 a.a, .int .i64 a.b, .int .i64 a.c, .int .i64 a.d] 83)).alloc (.cells #[.int .i64 b.a, .int .i64 b.b, .int .i64 b.c, .int .i64 b.d] 83)) (w.heap.size + 1) #[.int .i64 b.a, .int .i64 b.b, .int .i64 b.c, .int .i64 b.d] 83 by have h := BoxN.new (w.alloc (.cells #[.int .i64 a.a, .int .i64 a.b, .int .i64 a.c, .int .i64 a.d] 83)) #[.int .i64 b.a, .int .i64 b.b, .int .i64 b.c, .int .i64 b.d] 83; simpa using h)
  have b0 : Below w.heap.size w ((w.alloc (.cells #[.int .i64 a.a, .int .i64 a.b, .int .i64 a.c, .int .i64 a.d] 83)).alloc (.cells #[.int .i64 b.a, .int .i64 b.b, .int .i64 b.c, .int .i64 b.d] 83)) := (by repeat (first | exact Below.refl _ _ | assumption | (refine Below.alloc ?_ (by simp <;> omega) _) | refine Below.drew ?_ | refine bdn ?_ _))
  have B0 := hide b0
  have z0 := Y0.out.lt
  have HRa := fun W (hX : BoxN W w.heap.size #[.int .i64 a.a, .int .i64 a.b, .int .i64 a.c, .int .i64 a.d] 83) => (⟨hX.cell 0, by rw [Nat.zero_add]; exact hX.cell 1, by rw [Nat.zero_add]; exact hX.cell 2, by rw [Nat.zero_add]; exact hX.cell 3⟩ : RAt W w.heap.size 0 a)
  have HRb := fun W (hX : BoxN W (w.heap.size + 1) #[.int .i64 b.a, .int .i64 b.b, .int .i64 b.c, .int .i64 b.d] 83) => (⟨hX.cell 0, by rw [Nat.zero_add]; exact hX.cell 1, by rw [Nat.zero_add]; exact hX.cell 2, by rw [Nat.zero_add]; exact hX.cell 3⟩ : RAt W (w.heap.size + 1) 0 b)
  have HVa := hide fun W hX => specOk_any a w.heap.size 0 W (HRa W hX)
  have HVb := hide fun W hX => specOk_any b (w.heap.size + 1) 0 W (HRb W hX)
  clear b0
  cases hoa : okR a
  · have HK := hide (show catchUp a b later = (0, 1) by unfold catchUp; rw [if_pos (.inl hoa)])
    rw [hoa] at HVa
    clear hoa HRa HRb
    go_enter Try.func57, Try.ntmps57
    go_upto_region 1 with fail
    generalize ((w.alloc (.cells #[.int .i64 a.a, .int .i64 a.b, .int .i64 a.c, .int .i64 a.d] 83)).alloc (.cells #[.int .i64 b.a, .int .i64 b.b, .int .i64 b.c, .int .i64 b.d] 83)) = w1 at *
    go_wp2_with (first | (go_at_call 135; with_reducible refine (HVa.out _ X0.out).mono ?_; rintro e w2 ⟨rfl, rfl⟩) | (go_at_call 135; with_reducible refine (HVb.out _ Y0.out).mono ?_; rintro e w3 ⟨rfl, rfl⟩))
    refine bodyPost_ret (v := .tuple #[.int .i64 0, .int .i64 1]) (by simp [results, Try.results57, go_sem]) rfl ⟨by rw [HK.out], B0.out⟩
  cases hob : okR b
  · have HK := hide (show catchUp a b later = (0, 1) by unfold catchUp; rw [if_pos (.inr hob)])
    rw [hoa] at HVa
    rw [hob] at HVb
    clear hoa hob HRa HRb
    go_enter Try.func57, Try.ntmps57
    go_upto_region 1 with fail
    generalize ((w.alloc (.cells #[.int .i64 a.a, .int .i64 a.b, .int .i64 a.c, .int .i64 a.d] 83)).alloc (.cells #[.int .i64 b.a, .int .i64 b.b, .int .i64 b.c, .int .i64 b.d] 83)) = w1 at *
    go_wp2_with (first | (go_at_call 135; with_reducible refine (HVa.out _ X0.out).mono ?_; rintro e w2 ⟨rfl, rfl⟩) | (go_at_call 135; with_reducible refine (HVb.out _ Y0.out).mono ?_; rintro e w3 ⟨rfl, rfl⟩))
    refine bodyPost_ret (v := .tuple #[.int .i64 0, .int .i64 1]) (by simp [results, Try.results57, go_sem]) rfl ⟨by rw [HK.out], B0.out⟩
  rw [hoa] at HVa
  rw [hob] at HVb
  by_cases hr : 0 ≤ later ∧ later ≤ 10000
  case neg =>
    have hr' : later < 0 ∨ 10000 < later := by omega
    have HK := hide (show catchUp a b later = (0, 2) by unfold catchUp; rw [if_neg (by simp [hoa, hob]), if_pos (inB_f hr')])
    clear hoa hob hr HRa HRb
    go_enter Try.func57, Try.ntmps57
    go_upto_region 1 with fail
    generalize ((w.alloc (.cells #[.int .i64 a.a, .int .i64 a.b, .int .i64 a.c, .int .i64 a.d] 83)).alloc (.cells #[.int .i64 b.a, .int .i64 b.b, .int .i64 b.c, .int .i64 b.d] 83)) = w1 at *
    go_wp2_with (first | (go_at_call 116; first | (refine (l00In_t _ _ _ _ (by omega)).mono ?_; rintro e w' ⟨rfl, rfl⟩) | (refine (l00In_f _ _ _ _ (by omega)).mono ?_; rintro e w' ⟨rfl, rfl⟩)) | (go_at_call 135; with_reducible refine (HVa.out _ X0.out).mono ?_; rintro e w2 ⟨rfl, rfl⟩) | (go_at_call 135; with_reducible refine (HVb.out _ Y0.out).mono ?_; rintro e w3 ⟨rfl, rfl⟩))
    refine bodyPost_ret (v := .tuple #[.int .i64 0, .int .i64 2]) (by simp [results, Try.results57, go_sem]) rfl ⟨by rw [HK.out], B0.out⟩
  obtain ⟨hr1, hr2⟩ := hr
  have HRB := hide (inB_t ⟨hr1, hr2⟩)
  by_cases hab : a.a = b.a
  case neg =>
    have HK := hide (show catchUp a b later = (0, 8) by unfold catchUp; rw [if_neg (by simp [hoa, hob]), if_neg (by simp [HRB.out]), if_pos hab])
    have habb : (a.a != b.a) = true := by simpa using hab
    clear hoa hob HRa HRb
    go_enter Try.func57, Try.ntmps57
    go_upto_region 1 with fail
    generalize ((w.alloc (.cells #[.int .i64 a.a, .int .i64 a.b, .int .i64 a.c, .int .i64 a.d] 83)).alloc (.cells #[.int .i64 b.a, .int .i64 b.b, .int .i64 b.c, .int .i64 b.d] 83)) = w1 at *
    have i0 := X0.out.cell 0
    have j0 := Y0.out.cell 0
    go_wp2_with (first | (go_at_call 116; first | (refine (l00In_t _ _ _ _ (by omega)).mono ?_; rintro e w' ⟨rfl, rfl⟩) | (refine (l00In_f _ _ _ _ (by omega)).mono ?_; rintro e w' ⟨rfl, rfl⟩)) | (go_at_call 135; with_reducible refine (HVa.out _ X0.out).mono ?_; rintro e w2 ⟨rfl, rfl⟩) | (go_at_call 135; with_reducible refine (HVb.out _ Y0.out).mono ?_; rintro e w3 ⟨rfl, rfl⟩))
    refine bodyPost_ret (v := .tuple #[.int .i64 0, .int .i64 8]) (by simp [results, Try.results57, go_sem]) rfl ⟨by rw [HK.out], B0.out⟩
  have HK := hide (show catchUp a b later = catchGo a b later (ticksR a - later).toNat later by unfold catchUp; rw [if_neg (by simp [hoa, hob]), if_neg (by simp [HRB.out]), if_neg (by simpa using hab)])
  have habb : (a.a != b.a) = false := by simpa using hab
  clear hab
  have HT := hide fun W hX => specTicks_b a w.heap.size 0 W hoa (HRa W hX)
  have HNa := hide fun W hX => specNum_any a w.heap.size 0 W hoa (HRa W hX)
  have HNb := hide fun W hX => specNum_any b (w.heap.size + 1) 0 W hob (HRb W hX)
  have HDa := hide fun W hX => specDen_b a w.heap.size 0 W hoa (HRa W hX)
  have HDb := hide fun W hX => specDen_b b (w.heap.size + 1) 0 W hob (HRb W hX)
  have ht1 := ticksR_pos hoa
  have ht2 := ticksR_le hoa
  obtain ⟨⟨_, _⟩, ⟨_, _⟩, ⟨c1, c2⟩, _, _⟩ := okR_bd hoa
  obtain ⟨⟨_, _⟩, ⟨_, _⟩, ⟨d1, d2⟩, _, _⟩ := okR_bd hob
  obtain ⟨n1, n2⟩ := denR_pos hoa
  obtain ⟨m1, m2⟩ := denR_pos hob
  have HC := hide (show ∀ t, caught a b later t = decide (a.c * t * denR b ≤ b.c * (t - later) * denR a) from fun _ => rfl)
  obtain ⟨ta, hta⟩ : ∃ ta, ta = ticksR a := ⟨_, rfl⟩
  rw [← hta] at HT HK ht1 ht2
  clear hoa hob hta HRa HRb
  go_enter Try.func57, Try.ntmps57
  go_upto_region 1 with fail
  generalize ((w.alloc (.cells #[.int .i64 a.a, .int .i64 a.b, .int .i64 a.c, .int .i64 a.d] 83)).alloc (.cells #[.int .i64 b.a, .int .i64 b.b, .int .i64 b.c, .int .i64 b.d] 83)) = w1 at *
  have i0 := X0.out.cell 0
  have j0 := Y0.out.cell 0
  go_upto_region 8 with (first | (go_at_call 116; first | (refine (l00In_t _ _ _ _ (by omega)).mono ?_; rintro e w' ⟨rfl, rfl⟩) | (refine (l00In_f _ _ _ _ (by omega)).mono ?_; rintro e w' ⟨rfl, rfl⟩)) | (go_at_call 135; with_reducible refine (HVa.out _ X0.out).mono ?_; rintro e w2 ⟨rfl, rfl⟩) | (go_at_call 135; with_reducible refine (HVb.out _ Y0.out).mono ?_; rintro e w3 ⟨rfl, rfl⟩) | (go_at_call 127; refine (HT.out _ X0.out).mono ?_; rintro e w4 ⟨rfl, s4⟩))
  have X4 := hide (X0.out.below s4 (by omega))
  have Y4 := hide (Y0.out.below s4 z0)
  have B4 := hide (B0.out.trans (s4.mono B0.out.size))
  clear i0 j0 s4 X0 Y0 B0 HVa HVb HT
  go_wp2_with fail
  go_loopg [9] (ta - later).toNat (fun g tv wr => ∃ t : Int, tv = .int .i64 t ∧ later ≤ t ∧ (t ≤ ta ∨ t = later) ∧ Hid (g = (ta - t).toNat) ∧ Hid (catchGo a b later (ta - later).toNat later = catchGo a b later (ta - t).toNat t) ∧ Hid (BoxN wr w.heap.size #[.int .i64 a.a, .int .i64 a.b, .int .i64 a.c, .int .i64 a.d] 83) ∧ Hid (BoxN wr (w.heap.size + 1) #[.int .i64 b.a, .int .i64 b.b, .int .i64 b.c, .int .i64 b.d] 83) ∧ Hid (Below w.heap.size w wr))
  case atStart => exact ⟨later, rfl, Int.le_refl _, .inr rfl, rfl, rfl, X4, Y4, B4⟩
  case round =>
    obtain ⟨t, rfl, ht3, ht4, hg, HS, XR, YR, HB⟩ := hrel
    have zr := YR.out.lt
    by_cases hlt : t < ta
    · have hst : catchGo a b later (ta - t).toNat t = if caught a b later t then (t, 0) else catchGo a b later (ta - (t + 1)).toNat (t + 1) := by
        rw [show (ta - t).toNat = (ta - (t + 1)).toNat + 1 by omega, catchGo]
      have HST := hide (HS.out.trans hst)
      have E1 : t * (100 * a.c) * denR b = 100 * (a.c * t * denR b) := by ac_rfl
      have E2 : (t - later) * (100 * b.c) * denR a = 100 * (b.c * (t - later) * denR a) := by ac_rfl
      obtain ⟨p1, p2⟩ := mul_bd (a := t - later) (b := 100 * b.c) (m := 2010000) (n := 10000) (by omega) (by omega) (by omega) (by omega)
      obtain ⟨p3, p4⟩ := mul_bd (a := (t - later) * (100 * b.c)) (b := denR a) (m := 20100000000) (n := 1000) (by omega) (by omega) (by omega) n2
      obtain ⟨p5, p6⟩ := mul_bd (a := t) (b := 100 * a.c) (m := 2020000) (n := 10000) (by omega) (by omega) (by omega) (by omega)
      obtain ⟨p7, p8⟩ := mul_bd (a := t * (100 * a.c)) (b := denR b) (m := 20200000000) (n := 1000) (by omega) (by omega) (by omega) m2
      have e1 : IntKind.i64.wrap ((t - later) * (100 * b.c)) = (t - later) * (100 * b.c) := wrap_in (by omega) (by omega)
      have e2 : IntKind.i64.wrap ((t - later) * (100 * b.c) * denR a) = (t - later) * (100 * b.c) * denR a := wrap_in (by omega) (by omega)
      have e3 : IntKind.i64.wrap (t * (100 * a.c)) = t * (100 * a.c) := wrap_in (by omega) (by omega)
      have e4 : IntKind.i64.wrap (t * (100 * a.c) * denR b) = t * (100 * a.c) * denR b := wrap_in (by omega) (by omega)
      have e5 : IntKind.i64.wrap (t - later) = t - later := wrap_in (by omega) (by omega)
      have HCM := hide (show caught a b later t = decide (t * (100 * a.c) * denR b ≤ (t - later) * (100 * b.c) * denR a) by
        rw [HC.out, E1, E2]
        by_cases hq : a.c * t * denR b ≤ b.c * (t - later) * denR a
        · rw [decide_eq_true hq]; exact (decide_eq_true (by omega)).symm
        · rw [decide_eq_false hq]; exact (decide_eq_false (by omega)).symm)
      clear hst p1 p2 p3 p4 p5 p6 p7 p8 E1 E2
      go_upto_region 13 with (first
        | (go_at_call 129; with_reducible refine (HNa.out _ XR.out).mono ?_; rintro e w2 ⟨rfl, rfl⟩)
        | (go_at_call 130; with_reducible refine (HDb.out _ YR.out).mono ?_; rintro e w5 ⟨rfl, s5⟩; have X5 := hide (XR.out.below s5 (by omega)); have Y5 := hide (YR.out.below s5 zr); have B5 := hide (HB.out.trans (s5.mono HB.out.size)); have z5 := s5.size; clear s5)
        | (go_at_call 129; with_reducible refine (HNb.out _ Y5.out).mono ?_; rintro e w6 ⟨rfl, rfl⟩)
        | (go_at_call 130; with_reducible refine (HDa.out _ X5.out).mono ?_; rintro e w7 ⟨rfl, s7⟩; have X7 := hide (X5.out.below s7 (by omega)); have Y7 := hide (Y5.out.below s7 (by omega)); have B7 := hide (B5.out.trans (s7.mono B5.out.size)); clear s7))
      by_cases hcm : t * (100 * a.c) * denR b ≤ (t - later) * (100 * b.c) * denR a
      · have HCM2 := hide (HCM.out.trans (decide_eq_true hcm))
        go_wp2_with fail
        refine bodyPost_ret (v := .tuple #[.int .i64 t, .int .i64 0]) (by simp [results, Try.results57, go_sem]) rfl ⟨by rw [HK.out, HST.out, if_pos HCM2.out], B7.out⟩
      · have HCM2 := hide (HCM.out.trans (decide_eq_false hcm))
        go_wp2_with fail
        go_roundg (ta - (t + 1)).toNat
        case measure => have := hg.out; omega
        case rel => exact ⟨t + 1, rfl, by omega, .inl (by omega), rfl, hide (by rw [HST.out, HCM2.out]; rfl), X7, Y7, B7⟩
    · have HE := hide (HS.out.trans (by rw [show (ta - t).toNat = 0 by omega, catchGo]))
      go_wp2_with fail
      refine bodyPost_ret (v := .tuple #[.int .i64 0, .int .i64 3]) (by simp [results, Try.results57, go_sem]) rfl ⟨by rw [HK.out, HE.out], HB.out⟩
end Go.Proofs.Ytlkccijlbeibjaa
namespace Go.Proofs.Ytlkccijlbeibjaa
open Go.RowKit
set_option maxRecDepth 100000 in
set_option maxHeartbeats 4000000 in
theorem specPlaceAfter_any (xs : List T4) (t0 : Int) (A : Option Addr) (c : Nat) (w : World) (hl : xs.length ≤ 1048576) (h : Rd4 w w.heap.size A xs) :
    Calls Try.prog 47 #[.slice A xs.length c, .int .i64 t0] w fun e w' => e = .returned (.tuple #[.int .i64 (placeAfter xs t0).1, .agg #[.int .i64 (placeAfter xs t0).2.1.1, .int .i64 (placeAfter xs t0).2.1.2], .int .i64 (placeAfter xs t0).2.2]) ∧ Below w.heap.size w w' := by
  have X0 := hide (BoxN.new w #[.int .i64 0, .int .i64 0] 77)
  have b0 : Below w.heap.size w (w.alloc (.cells #[.int .i64 0, .int .i64 0] 77)) := (by repeat (first | exact Below.refl _ _ | assumption | (refine Below.alloc ?_ (by simp <;> omega) _) | refine Below.drew ?_ | refine bdn ?_ _))
  have B0 := hide b0
  have z0 := X0.out.lt
  have HV := hide fun W (hW : Below w.heap.size w W) => specList_any xs A c W hl ((h.below hW).more hW.size)
  clear b0
  cases hok : okRs xs
  · have HK := hide (show placeAfter xs t0 = (0, (0, 0), 1) by unfold placeAfter tickCode; rw [hok]; rfl)
    rw [hok] at HV
    clear h hok
    go_enter Try.func47, Try.ntmps47
    go_upto_region 1 with fail
    generalize w.alloc (.cells #[.int .i64 0, .int .i64 0] 77) = w1 at *
    go_upto_region 2 with (go_at_call 126; refine (HV.out _ B0.out).mono ?_; rintro e w2 ⟨rfl, rfl⟩)
    have m0 : w1.cell? ⟨w.heap.size, 0, none⟩ = some (.int .i64 0) := X0.out.cell 0
    have n0 := X0.out.fro 0
    have T0 := hide (X0.out.set 0 (.int .i64 0))
    have T1 := hide (T0.out.set 1 (.int .i64 0))
    have m1 : (w1.setCell ⟨w.heap.size, 0, none⟩ (.int .i64 0)).cell? ⟨w.heap.size, 1, none⟩ = some (.int .i64 0) := T0.out.cell 1
    have n1 := T0.out.fro 1
    go_wp2_with fail
    have q0 : ((w1.setCell ⟨w.heap.size, 0, none⟩ (.int .i64 0)).setCell ⟨w.heap.size, 1, none⟩ (.int .i64 0)).cell? ⟨w.heap.size, 0, none⟩ = some (.int .i64 0) := T1.out.cell 0
    have q1 : ((w1.setCell ⟨w.heap.size, 0, none⟩ (.int .i64 0)).setCell ⟨w.heap.size, 1, none⟩ (.int .i64 0)).cell? ⟨w.heap.size, 1, none⟩ = some (.int .i64 0) := T1.out.cell 1
    refine bodyPost_ret (v := .tuple #[.int .i64 0, .agg #[.int .i64 0, .int .i64 0], .int .i64 1]) (by simp [results, Try.results47, go_sem, q0, q1]) rfl ⟨by rw [HK.out], (B0.out.setCell (p := ⟨w.heap.size, 0, none⟩) (Nat.le_refl _) _).setCell (p := ⟨w.heap.size, 1, none⟩) (Nat.le_refl _) _⟩
  rw [hok] at HV
  by_cases hin : 0 ≤ t0 ∧ t0 ≤ 1000000
  case neg =>
    have hin' : t0 < 0 ∨ 1000000 < t0 := by omega
    have HK := hide (show placeAfter xs t0 = (0, (0, 0), 2) by unfold placeAfter tickCode; rw [hok, inB_f hin']; rfl)
    clear h hok hin
    go_enter Try.func47, Try.ntmps47
    go_upto_region 1 with fail
    generalize w.alloc (.cells #[.int .i64 0, .int .i64 0] 77) = w1 at *
    go_upto_region 4 with (first | (go_at_call 116; first | (refine (l00In_t _ _ _ _ (by omega)).mono ?_; rintro e w' ⟨rfl, rfl⟩) | (refine (l00In_f _ _ _ _ (by omega)).mono ?_; rintro e w' ⟨rfl, rfl⟩)) | (go_at_call 126; refine (HV.out _ B0.out).mono ?_; rintro e w2 ⟨rfl, rfl⟩))
    have m0 : w1.cell? ⟨w.heap.size, 0, none⟩ = some (.int .i64 0) := X0.out.cell 0
    have n0 := X0.out.fro 0
    have T0 := hide (X0.out.set 0 (.int .i64 0))
    have T1 := hide (T0.out.set 1 (.int .i64 0))
    have m1 : (w1.setCell ⟨w.heap.size, 0, none⟩ (.int .i64 0)).cell? ⟨w.heap.size, 1, none⟩ = some (.int .i64 0) := T0.out.cell 1
    have n1 := T0.out.fro 1
    go_wp2_with fail
    have q0 : ((w1.setCell ⟨w.heap.size, 0, none⟩ (.int .i64 0)).setCell ⟨w.heap.size, 1, none⟩ (.int .i64 0)).cell? ⟨w.heap.size, 0, none⟩ = some (.int .i64 0) := T1.out.cell 0
    have q1 : ((w1.setCell ⟨w.heap.size, 0, none⟩ (.int .i64 0)).setCell ⟨w.heap.size, 1, none⟩ (.int .i64 0)).cell? ⟨w.heap.size, 1, none⟩ = some (.int .i64 0) := T1.out.cell 1
    refine bodyPost_ret (v := .tuple #[.int .i64 0, .agg #[.int .i64 0, .int .i64 0], .int .i64 2]) (by simp [results, Try.results47, go_sem, q0, q1]) rfl ⟨by rw [HK.out], (B0.out.setCell (p := ⟨w.heap.size, 0, none⟩) (Nat.le_refl _) _).setCell (p := ⟨w.heap.size, 1, none⟩) (Nat.le_refl _) _⟩
  obtain ⟨ht1, ht2⟩ := hin
  obtain ⟨h8, hx⟩ := okRs_iff.1 hok
  have HK := hide (show placeAfter xs t0 = placeGo xs t0 0 by unfold placeAfter tickCode; rw [hok, inB_t ⟨ht1, ht2⟩]; rfl)
  have HX := hide h
  have HO := hide hx
  clear h hok hx
  go_enter Try.func47, Try.ntmps47
  go_upto_region 1 with fail
  generalize w.alloc (.cells #[.int .i64 0, .int .i64 0] 77) = w1 at *
  go_wp2_with (first | (go_at_call 116; first | (refine (l00In_t _ _ _ _ (by omega)).mono ?_; rintro e w' ⟨rfl, rfl⟩) | (refine (l00In_f _ _ _ _ (by omega)).mono ?_; rintro e w' ⟨rfl, rfl⟩)) | (go_at_call 126; refine (HV.out _ B0.out).mono ?_; rintro e w2 ⟨rfl, rfl⟩))
  go_loopg [1, 7] xs.length (fun g tv i wr => ∃ (k : Nat) (t : Int), k ≤ xs.length ∧ Hid (g = xs.length - k) ∧ tv = .int .i64 t ∧ i = .int .i64 k ∧ 0 ≤ t ∧ t ≤ 1000000 ∧ Hid (placeGo xs t0 0 = placeGo (xs.drop k) t k) ∧ Hid (BoxN wr w.heap.size #[.int .i64 0, .int .i64 0] 77) ∧ Hid (Below w.heap.size w wr))
  case atStart => exact ⟨0, t0, Nat.zero_le _, by simp [Hid], rfl, rfl, ht1, ht2, by simp [Hid], X0, B0⟩
  case round =>
    obtain ⟨k, t, hk, hg, rfl, rfl, hta, htb, HS, XR, HB⟩ := hrel
    have zr := XR.out.lt
    by_cases hlt : k < xs.length
    · obtain ⟨b1, o1, z1, rfl, hb1, hz1, hra⟩ := (HX.out.below HB.out).rat hlt
      have hlt' : (k : Int) < (xs.length : Int) := by omega
      have hk0 : (0 : Int) ≤ (k : Int) := by omega
      have hzo := HO.out z1 (List.mem_of_getElem? hz1)
      have HST := hide (HS.out.trans (placeGo_step hz1))
      have htp := ticksR_pos hzo
      have htl := ticksR_le hzo
      have hbw := HB.out.size
      have HTK := hide (specTicks_b z1 b1 (o1 + k * 4) wr hzo hra)
      have HN := hide fun W (hW : Below w.heap.size wr W) => specNum_any z1 b1 (o1 + k * 4) W hzo (hra.below hW (by omega))
      have HD := hide fun W (hW : Below w.heap.size wr W) => specDen_b z1 b1 (o1 + k * 4) W hzo (hra.below hW (by omega))
      obtain ⟨⟨_, _⟩, ⟨_, _⟩, ⟨c1, c2⟩, _, _⟩ := okR_bd hzo
      obtain ⟨n1, n2⟩ := denR_pos hzo
      clear hz1 hzo hra
      obtain ⟨tz, htz⟩ : ∃ tz, tz = ticksR z1 := ⟨_, rfl⟩
      rw [← htz] at htp htl HTK HST
      clear htz
      by_cases hcm : t < tz
      · have HST1 := hide (show placeGo xs t0 0 = ((k : Int), lowF (t * (100 * z1.c)) (denR z1), 0) by rw [HST.out, if_pos hcm, Int.mul_comm t])
        obtain ⟨p1, p2⟩ := mul_bd (a := t) (b := 100 * z1.c) (m := 1000000) (n := 10000) hta htb (by omega) (by omega)
        have HL := hide fun W => specMake_any (t * (100 * z1.c)) (denR z1) W p1 (by omega) (by omega) (by omega)
        have e2 : IntKind.i64.wrap (t * (100 * z1.c)) = t * (100 * z1.c) := wrap_in (by omega) (by omega)
        obtain ⟨f, hf⟩ : ∃ f, f = lowF (t * (100 * z1.c)) (denR z1) := ⟨_, rfl⟩
        rw [← hf] at HL HST1
        clear hf p1 p2
        go_upto_region 10 with (go_at_call 127; refine (HTK.out).mono ?_; rintro e w2 ⟨rfl, s2⟩)
        have XD := hide ((XR.out.below s2 zr).below (Below.refl w2.heap.size w2).drew (Nat.lt_of_lt_of_le zr s2.size))
        have BD : Hid (Below w.heap.size w w2.drew) := (HB.out.trans (s2.mono hbw)).drew
        have CD : Hid (Below w.heap.size wr w2.drew) := (s2.mono hbw).drew
        have zd : wr.heap.size ≤ w2.drew.heap.size := s2.size
        clear s2
        refine wp_region_held_drew (S := fun W => True) (by kernel_rfl) (trivial) (fun hHeld => ?_)
        generalize w2.drew = wd at *
        refine wpAnyH_take (i := 0) (v := ?_) rfl (by kernel_rfl) (by kernel_rfl) (by kernel_rfl) (fun _ _ _ h => h) (Or.inl ⟨by rfl, ?_⟩) (by assumption) ?_
        rotate_left 1
        · (intro w hSw; (try dsimp only at hSw); go_simp; try with_reducible rfl)
        try simp only [Act.put, List.getElem_toArray, List.getElem_cons_succ, List.getElem_cons_zero, List.setIfInBounds_toArray, List.set_cons_zero, List.set_cons_succ]
        refine wpAnyH_take (i := 1) (v := ?_) rfl (by kernel_rfl) (by kernel_rfl) (by kernel_rfl) (fun _ _ _ h => h) (Or.inl ⟨by rfl, ?_⟩) (by assumption) ?_
        rotate_left 1
        · (intro w hSw; (try dsimp only at hSw); go_simp; try with_reducible rfl)
        try simp only [Act.put, List.getElem_toArray, List.getElem_cons_succ, List.getElem_cons_zero, List.setIfInBounds_toArray, List.set_cons_zero, List.set_cons_succ]
        refine wpAnyH_take (i := 2) (v := ?_) rfl (by kernel_rfl) (by kernel_rfl) (by kernel_rfl) (fun _ _ _ h => h) (Or.inl ⟨by rfl, ?_⟩) (by assumption) ?_
        rotate_left 1
        · (intro w hSw; (try dsimp only at hSw); go_simp; try with_reducible rfl)
        try simp only [Act.put, List.getElem_toArray, List.getElem_cons_succ, List.getElem_cons_zero, List.setIfInBounds_toArray, List.set_cons_zero, List.set_cons_succ]
        refine wpAnyH_take (i := 3) (v := ?_) rfl (by kernel_rfl) (by kernel_rfl) (by kernel_rfl) (fun _ _ _ h => h) (Or.inl ⟨by rfl, ?_⟩) (by assumption) ?_
        rotate_left 1
        · (intro w hSw; (try dsimp only at hSw); go_simp; try with_reducible rfl)
        try simp only [Act.put, List.getElem_toArray, List.getElem_cons_succ, List.getElem_cons_zero, List.setIfInBounds_toArray, List.set_cons_zero, List.set_cons_succ]
        refine wpAnyH_take (i := 4) (v := ?_) rfl (by kernel_rfl) (by kernel_rfl) (by kernel_rfl) (fun _ _ _ h => h) (Or.inl ⟨by rfl, ?_⟩) (by assumption) ?_
        rotate_left 1
        · (intro w hSw; (try dsimp only at hSw); go_simp; try with_reducible rfl)
        try simp only [Act.put, List.getElem_toArray, List.getElem_cons_succ, List.getElem_cons_zero, List.setIfInBounds_toArray, List.set_cons_zero, List.set_cons_succ]
        refine wpAnyH_take (i := 7) (v := ?_) rfl (by kernel_rfl) (by kernel_rfl) (by kernel_rfl) (fun _ _ _ h => h) (Or.inl ⟨by rfl, ?_⟩) (by assumption) ?_
        rotate_left 1
        · (intro w hSw; (try dsimp only at hSw); go_simp; try with_reducible rfl)
        try simp only [Act.put, List.getElem_toArray, List.getElem_cons_succ, List.getElem_cons_zero, List.setIfInBounds_toArray, List.set_cons_zero, List.set_cons_succ]
        refine wpAnyH_take (i := 8) (v := ?_) rfl (by kernel_rfl) (by kernel_rfl) (by kernel_rfl) (fun _ _ _ h => h) (Or.inl ⟨by rfl, ?_⟩) (by assumption) ?_
        rotate_left 1
        · (intro w hSw; (try dsimp only at hSw); go_simp; try with_reducible rfl)
        try simp only [Act.put, List.getElem_toArray, List.getElem_cons_succ, List.getElem_cons_zero, List.setIfInBounds_toArray, List.set_cons_zero, List.set_cons_succ]
        refine wpAnyH_take (i := 9) (v := ?_) rfl (by kernel_rfl) (by kernel_rfl) (by kernel_rfl) (fun _ _ _ h => h) (Or.inl ⟨by rfl, ?_⟩) (by assumption) ?_
        rotate_left 1
        · (intro w hSw; (try dsimp only at hSw); go_simp; try with_reducible rfl)
        try simp only [Act.put, List.getElem_toArray, List.getElem_cons_succ, List.getElem_cons_zero, List.setIfInBounds_toArray, List.set_cons_zero, List.set_cons_succ]
        refine wpAnyH_ready (rs := [5]) (by kernel_rfl) (by simp) ?_
        refine AllReadyH.cons rfl (fun K hK => ?_) AllReadyH.nil
        try simp only [Act.put, List.getElem_toArray, List.getElem_cons_succ, List.getElem_cons_zero, List.setIfInBounds_toArray, List.set_cons_zero, List.set_cons_succ]
        go_simp
        go_at_call 129
        refine (HN.out _ CD.out).mono ?_
        rintro e w3 ⟨rfl, rfl⟩
        dsimp only
        refine hK.out _ _ (trivial) (fun hHeld => ?_)
        clear hK K
        try simp only [Act.put, List.getElem_toArray, List.getElem_cons_succ, List.getElem_cons_zero, List.setIfInBounds_toArray, List.set_cons_zero, List.set_cons_succ]
        refine wpAnyH_take (i := 6) (v := ?_) rfl (by kernel_rfl) (by kernel_rfl) (by kernel_rfl) (fun _ _ _ h => h) (Or.inl ⟨by rfl, ?_⟩) (by assumption) ?_
        rotate_left 1
        · (intro w hSw; (try dsimp only at hSw); go_simp; try with_reducible rfl)
        try simp only [Act.put, List.getElem_toArray, List.getElem_cons_succ, List.getElem_cons_zero, List.setIfInBounds_toArray, List.set_cons_zero, List.set_cons_succ]
        refine wpAnyH_ready (rs := [10]) (by kernel_rfl) (by simp) ?_
        refine AllReadyH.cons rfl (fun K hK => ?_) AllReadyH.nil
        try simp only [Act.put, List.getElem_toArray, List.getElem_cons_succ, List.getElem_cons_zero, List.setIfInBounds_toArray, List.set_cons_zero, List.set_cons_succ]
        go_simp
        go_at_call 130
        refine (HD.out _ CD.out).mono ?_
        rintro e w3 ⟨rfl, s3⟩
        have X3 := hide (XD.out.below s3 (by omega))
        have B3 := hide (BD.out.trans (s3.mono BD.out.size))
        have z3 := s3.size
        dsimp only
        refine hK.out _ _ (trivial) (fun hHeld => ?_)
        clear hK K
        try simp only [Act.put, List.getElem_toArray, List.getElem_cons_succ, List.getElem_cons_zero, List.setIfInBounds_toArray, List.set_cons_zero, List.set_cons_succ]
        refine wpAnyH_ready (rs := [11]) (by kernel_rfl) (by simp) ?_
        refine AllReadyH.cons rfl (fun K hK => ?_) AllReadyH.nil
        try simp only [Act.put, List.getElem_toArray, List.getElem_cons_succ, List.getElem_cons_zero, List.setIfInBounds_toArray, List.set_cons_zero, List.set_cons_succ]
        go_simp
        go_at_call 128
        refine (HL.out _).mono ?_
        rintro e w4 ⟨rfl, s4⟩
        have X4 := hide (X3.out.below s4 (by omega))
        have B4 := hide (B3.out.trans (s4.mono B3.out.size))
        have T0 := hide (X4.out.set 0 (.int .i64 f.1))
        have T1 := hide (T0.out.set 1 (.int .i64 f.2))
        have m0 : w4.cell? ⟨w.heap.size, 0, none⟩ = some (.int .i64 0) := X4.out.cell 0
        have n0 := X4.out.fro 0
        have m1 : (w4.setCell ⟨w.heap.size, 0, none⟩ (.int .i64 f.1)).cell? ⟨w.heap.size, 1, none⟩ = some (.int .i64 0) := T0.out.cell 1
        have n1' := T0.out.fro 1
        dsimp only
        refine hK.out _ _ (trivial) (fun hHeld => ?_)
        clear hK K
        try simp only [Act.put, List.getElem_toArray, List.getElem_cons_succ, List.getElem_cons_zero, List.setIfInBounds_toArray, List.set_cons_zero, List.set_cons_succ]
        refine wpAnyH_take (i := 12) (v := ?_) rfl (by kernel_rfl) (by kernel_rfl) (by kernel_rfl) (fun _ _ _ h => h) (Or.inl ⟨by rfl, ?_⟩) (by assumption) ?_
        rotate_left 1
        · (intro w hSw; (try dsimp only at hSw); go_simp; try with_reducible rfl)
        try simp only [Act.put, List.getElem_toArray, List.getElem_cons_succ, List.getElem_cons_zero, List.setIfInBounds_toArray, List.set_cons_zero, List.set_cons_succ]
        refine wpAnyH_ready (rs := [13]) (by kernel_rfl) (by simp) ?_
        refine AllReadyH.cons rfl (fun K hK => ?_) AllReadyH.nil
        try simp only [Act.put, List.getElem_toArray, List.getElem_cons_succ, List.getElem_cons_zero, List.setIfInBounds_toArray, List.set_cons_zero, List.set_cons_succ]
        go_simp
        refine hK.out _ _ (trivial) (fun hHeld => ?_)
        clear hK K
        try simp only [Act.put, List.getElem_toArray, List.getElem_cons_succ, List.getElem_cons_zero, List.setIfInBounds_toArray, List.set_cons_zero, List.set_cons_succ]
        refine wpAnyH_take (i := 14) (v := ?_) rfl (by kernel_rfl) (by kernel_rfl) (by kernel_rfl) (fun _ _ _ h => h) (Or.inl ⟨by rfl, ?_⟩) (by assumption) ?_
        rotate_left 1
        · (intro w hSw; (try dsimp only at hSw); go_simp; try with_reducible rfl)
        try simp only [Act.put, List.getElem_toArray, List.getElem_cons_succ, List.getElem_cons_zero, List.setIfInBounds_toArray, List.set_cons_zero, List.set_cons_succ]
        refine wpAnyH_done (by kernel_rfl) ?_ _
        go_wp2_with fail
        have q0 : ((w4.setCell ⟨w.heap.size, 0, none⟩ (.int .i64 f.1)).setCell ⟨w.heap.size, 1, none⟩ (.int .i64 f.2)).cell? ⟨w.heap.size, 0, none⟩ = some (.int .i64 f.1) := T1.out.cell 0
        have q1 : ((w4.setCell ⟨w.heap.size, 0, none⟩ (.int .i64 f.1)).setCell ⟨w.heap.size, 1, none⟩ (.int .i64 f.2)).cell? ⟨w.heap.size, 1, none⟩ = some (.int .i64 f.2) := T1.out.cell 1
        refine bodyPost_ret (v := .tuple #[.int .i64 k, .agg #[.int .i64 f.1, .int .i64 f.2], .int .i64 0]) (by simp [results, Try.results47, go_sem, q0, q1]) rfl ⟨by rw [HK.out, HST1.out], ?_⟩
        exact (B4.out.setCell (p := ⟨w.heap.size, 0, none⟩) (Nat.le_refl _) _).setCell (p := ⟨w.heap.size, 1, none⟩) (Nat.le_refl _) _
      · have HST2 := hide (show placeGo xs t0 0 = placeGo (xs.drop (k + 1)) (t - tz) (k + 1) by rw [HST.out, if_neg hcm])
        go_wp2_with (go_at_call 127; refine (HTK.out).mono ?_; rintro e w2 ⟨rfl, s2⟩)
        go_roundg (xs.length - (k + 1))
        case measure => have := hg.out; omega
        case rel => exact ⟨k + 1, t - tz, by omega, rfl, rfl, by go_num, by omega, by omega, HST2, hide (XR.out.below s2 zr), hide (HB.out.trans (s2.mono hbw))⟩
    · obtain rfl : k = xs.length := by omega
      have HE := hide (HS.out.trans (by rw [List.drop_eq_nil_of_le (Nat.le_refl _), placeGo]))
      have m0 : wr.cell? ⟨w.heap.size, 0, none⟩ = some (.int .i64 0) := XR.out.cell 0
      have n0 := XR.out.fro 0
      have T0 := hide (XR.out.set 0 (.int .i64 0))
      have T1 := hide (T0.out.set 1 (.int .i64 0))
      have m1 : (wr.setCell ⟨w.heap.size, 0, none⟩ (.int .i64 0)).cell? ⟨w.heap.size, 1, none⟩ = some (.int .i64 0) := T0.out.cell 1
      have n1 := T0.out.fro 1
      go_wp2_with fail
      have q0 : ((wr.setCell ⟨w.heap.size, 0, none⟩ (.int .i64 0)).setCell ⟨w.heap.size, 1, none⟩ (.int .i64 0)).cell? ⟨w.heap.size, 0, none⟩ = some (.int .i64 0) := T1.out.cell 0
      have q1 : ((wr.setCell ⟨w.heap.size, 0, none⟩ (.int .i64 0)).setCell ⟨w.heap.size, 1, none⟩ (.int .i64 0)).cell? ⟨w.heap.size, 1, none⟩ = some (.int .i64 0) := T1.out.cell 1
      refine bodyPost_ret (v := .tuple #[.int .i64 0, .agg #[.int .i64 0, .int .i64 0], .int .i64 3]) (by simp [results, Try.results47, go_sem, q0, q1]) rfl ⟨by rw [HK.out, HE.out], (HB.out.setCell (p := ⟨w.heap.size, 0, none⟩) (Nat.le_refl _) _).setCell (p := ⟨w.heap.size, 1, none⟩) (Nat.le_refl _) _⟩
end Go.Proofs.Ytlkccijlbeibjaa
