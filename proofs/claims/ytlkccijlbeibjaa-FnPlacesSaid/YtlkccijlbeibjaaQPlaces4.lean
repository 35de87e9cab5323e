/-
  Rides in the program: valid ones, ticks, speeds.
-/
import Derived.Test.YtlkccijlbeibjaaQPlaces1
import Derived.Test.YtlkccijlbeibjaaQPlaces2
import Derived.Test.YtlkccijlbeibjaaQPlaces3
import Derived.Deep.RegionHeld3
import Derived.Deep.DeepCutAuto
namespace Go.Proofs.Ytlkccijlbeibjaa
open Go.RowKit
theorem mul_bd {a b m n : Int} (h1 : 0 ≤ a) (h2 : a ≤ m) (h3 : 0 ≤ b) (h4 : b ≤ n) : 0 ≤ a * b ∧ a * b ≤ m * n := ⟨Int.mul_nonneg h1 h3, Int.mul_le_mul h2 h4 h3 (by omega)⟩
theorem wrap_in {a : Int} (h1 : -9223372036854775808 ≤ a) (h2 : a ≤ 9223372036854775807) : IntKind.i64.wrap a = a := by rw [IntKind.wrap_i64]; omega
theorem okR_bd {x : T4} (h : okR x = true) : (1 ≤ x.a ∧ x.a ≤ 2000) ∧ (0 ≤ x.b ∧ x.b ≤ 500) ∧ (1 ≤ x.c ∧ x.c ≤ 100) ∧ (0 ≤ x.d ∧ x.d ≤ 40) := okR_iff.1 h
set_option maxRecDepth 100000 in
set_option maxHeartbeats 4000000 in
theorem implValidRide_any (x : T4) (w : World) :
    Calls Try.prog 134 #[.agg #[.int .i64 x.a, .int .i64 x.b, .int .i64 x.c, .int .i64 x.d]] w fun e w' => e = .returned (.bool (okR x)) ∧ Below w.heap.size w w' := by
  by_cases h1 : 1 ≤ x.a ∧ x.a ≤ 2000
  case neg =>
    have h1' : x.a < 1 ∨ 2000 < x.a := by omega
    have HK := hide (show okR x = false by simp [okR, inB_f h1'])
    clear h1
    go_enter Try.func134, Try.ntmps134
    go_wp2_with (go_at_call 115; first | (refine (within_t _ _ _ _ (by omega)).mono ?_; rintro e w' ⟨rfl, rfl⟩) | (refine (within_f _ _ _ _ (by omega)).mono ?_; rintro e w' ⟨rfl, rfl⟩))
    go_ret
    exact ⟨ret_b HK.out.symm, (by repeat (first | exact Below.refl _ _ | assumption | (refine Below.alloc ?_ (by simp <;> omega) _) | refine Below.drew ?_ | refine bdn ?_ _))⟩
  by_cases h2 : 0 ≤ x.b ∧ x.b ≤ 500
  case neg =>
    have h2' : x.b < 0 ∨ 500 < x.b := by omega
    have HK := hide (show okR x = false by simp [okR, inB_f h2'])
    clear h2
    obtain ⟨h1, h1'⟩ := h1
    go_enter Try.func134, Try.ntmps134
    go_wp2_with (go_at_call 115; first | (refine (within_t _ _ _ _ (by omega)).mono ?_; rintro e w' ⟨rfl, rfl⟩) | (refine (within_f _ _ _ _ (by omega)).mono ?_; rintro e w' ⟨rfl, rfl⟩))
    go_ret
    exact ⟨ret_b HK.out.symm, (by repeat (first | exact Below.refl _ _ | assumption | (refine Below.alloc ?_ (by simp <;> omega) _) | refine Below.drew ?_ | refine bdn ?_ _))⟩
  by_cases h3 : 1 ≤ x.c ∧ x.c ≤ 100
  case neg =>
    have h3' : x.c < 1 ∨ 100 < x.c := by omega
    have HK := hide (show okR x = false by simp [okR, inB_f h3'])
    clear h3
    obtain ⟨h1, h1'⟩ := h1; obtain ⟨h2, h2'⟩ := h2
    go_enter Try.func134, Try.ntmps134
    go_wp2_with (go_at_call 115; first | (refine (within_t _ _ _ _ (by omega)).mono ?_; rintro e w' ⟨rfl, rfl⟩) | (refine (within_f _ _ _ _ (by omega)).mono ?_; rintro e w' ⟨rfl, rfl⟩))
    go_ret
    exact ⟨ret_b HK.out.symm, (by repeat (first | exact Below.refl _ _ | assumption | (refine Below.alloc ?_ (by simp <;> omega) _) | refine Below.drew ?_ | refine bdn ?_ _))⟩
  by_cases h4 : 0 ≤ x.d ∧ x.d ≤ 40
  case neg =>
    have h4' : x.d < 0 ∨ 40 < x.d := by omega
    have HK := hide (show okR x = false by simp [okR, inB_f h4'])
    clear h4
    obtain ⟨h1, h1'⟩ := h1; obtain ⟨h2, h2'⟩ := h2; obtain ⟨h3, h3'⟩ := h3
    go_enter Try.func134, Try.ntmps134
    go_wp2_with (go_at_call 115; first | (refine (within_t _ _ _ _ (by omega)).mono ?_; rintro e w' ⟨rfl, rfl⟩) | (refine (within_f _ _ _ _ (by omega)).mono ?_; rintro e w' ⟨rfl, rfl⟩))
    go_ret
    exact ⟨ret_b HK.out.symm, (by repeat (first | exact Below.refl _ _ | assumption | (refine Below.alloc ?_ (by simp <;> omega) _) | refine Below.drew ?_ | refine bdn ?_ _))⟩
  have HK := hide (show okR x = true from okR_iff.2 ⟨h1, h2, h3, h4⟩)
  obtain ⟨h1, h1'⟩ := h1; obtain ⟨h2, h2'⟩ := h2; obtain ⟨h3, h3'⟩ := h3; obtain ⟨h4, h4'⟩ := h4
  go_enter Try.func134, Try.ntmps134
  go_wp2_with (go_at_call 115; first | (refine (within_t _ _ _ _ (by omega)).mono ?_; rintro e w' ⟨rfl, rfl⟩) | (refine (within_f _ _ _ _ (by omega)).mono ?_; rintro e w' ⟨rfl, rfl⟩))
  go_ret
  exact ⟨ret_b HK.out.symm, (by repeat (first | exact Below.refl _ _ | assumption | (refine Below.alloc ?_ (by simp <;> omega) _) | refine Below.drew ?_ | refine bdn ?_ _))⟩
theorem implValidRides_fn (z : T4) (w : World) :
    Calls Try.prog 159 #[.agg #[.int .i64 z.a, .int .i64 z.b, .int .i64 z.c, .int .i64 z.d]] w fun e w' => e = .returned (.bool (!okR z)) ∧ Below w.heap.size w w' := by
  have b0 : Below w.heap.size w (w.alloc (.cells #[.int .i64 z.a, .int .i64 z.b, .int .i64 z.c, .int .i64 z.d] 83)) := (by repeat (first | exact Below.refl _ _ | assumption | (refine Below.alloc ?_ (by simp <;> omega) _) | refine Below.drew ?_ | refine bdn ?_ _))
  go_enter Try.func159, Try.ntmps159
  go_wp2_with (go_at_call 134; refine (implValidRide_any z _).mono ?_; rintro e w1 ⟨rfl, hb1⟩)
  go_ret
  exact ⟨rfl, b0.trans (hb1.mono b0.size)⟩
theorem implValidRides_any (xs : List T4) (A : Option Addr) (c : Nat) (w : World) (hs : xs.length ≤ 1048576) (h : Rd4 w w.heap.size A xs) :
    Calls Try.prog 122 #[.slice A xs.length c] w fun e w' => e = .returned (.bool (okRs xs)) ∧ Below w.heap.size w w' := by
  have HC := hide (containsFuncRide_any (fun z => !okR z) 159 #[] xs A c w (by omega) (callFunc_gen (P := Try.prog) (F := 159) Try.func159 (by kernel_rfl) (by kernel_rfl)) h (fun z W _ => implValidRides_fn z W))
  have HA : (xs.any fun z => !okR z) = !xs.all okR := by rw [List.all_eq_not_any_not]; simp
  rw [HA] at HC
  clear HA h
  by_cases hl : xs.length ≤ 8
  · have HK := hide (show okRs xs = xs.all okR by unfold okRs; rw [decide_eq_true hl]; rfl)
    cases ho : xs.all okR
    · rw [ho] at HC HK
      clear ho
      go_enter Try.func122, Try.ntmps122
      go_wp2_with (go_at_call 158; refine HC.out.mono ?_; rintro e w1 ⟨rfl, hb1⟩)
      go_ret
      exact ⟨ret_b HK.out.symm, hb1⟩
    · rw [ho] at HC HK
      clear ho
      go_enter Try.func122, Try.ntmps122
      go_wp2_with (go_at_call 158; refine HC.out.mono ?_; rintro e w1 ⟨rfl, hb1⟩)
      go_ret
      exact ⟨ret_b HK.out.symm, hb1⟩
  · have HK := hide (show okRs xs = false by unfold okRs; rw [decide_eq_false hl]; rfl)
    go_enter Try.func122, Try.ntmps122
    go_wp2_with fail
    go_ret
    exact ⟨ret_b HK.out.symm, Below.refl _ _⟩
theorem drag_any (x : T4) (w : World) (h : okR x = true) :
    Calls Try.prog 125 #[.agg #[.int .i64 x.a, .int .i64 x.b, .int .i64 x.c, .int .i64 x.d]] w fun e w' => e = .returned (.int .i64 (denR x)) ∧ Below w.heap.size w w' := by
  obtain ⟨⟨a1, a2⟩, ⟨b1, b2⟩, ⟨c1, c2⟩, d1, d2⟩ := okR_bd h
  clear h
  go_enter Try.func125, Try.ntmps125
  go_wp2_with fail
  go_ret
  exact ⟨ret_i (by unfold denR; first | rfl | (simp only [IntKind.wrap_i64]; omega)), (by repeat (first | exact Below.refl _ _ | assumption | (refine Below.alloc ?_ (by simp <;> omega) _) | refine Below.drew ?_ | refine bdn ?_ _))⟩
theorem roundedUp_any (n d : Int) (w : World) (h1 : 0 ≤ n) (h2 : n ≤ 1000000000000) (h3 : 1 ≤ d) (h4 : d ≤ 1000000000000) :
    Calls Try.prog 160 #[.int .i64 n, .int .i64 d] w fun e w' => e = .returned (.int .i64 ((n + d - 1) / d)) ∧ w = w' := by
  have h5 : (n + d - 1).tdiv d = (n + d - 1) / d := Int.tdiv_eq_ediv_of_nonneg (by omega)
  have h6 : (n + d - 1) / d ≤ n + d - 1 := Int.ediv_le_self _ (by omega)
  have h7 : 0 ≤ (n + d - 1) / d := Int.ediv_nonneg (by omega) (by omega)
  have h8 : ¬ (d = 0) := by omega
  have e1 : IntKind.i64.wrap (n + d) = n + d := wrap_in (by omega) (by omega)
  have e2 : IntKind.i64.wrap (n + d - 1) = n + d - 1 := wrap_in (by omega) (by omega)
  have e3 : IntKind.i64.wrap ((n + d - 1).tdiv d) = (n + d - 1) / d := by rw [h5]; exact wrap_in (by omega) (by omega)
  clear h5 h6 h7
  go_enter Try.func160, Try.ntmps160
  go_wp2_with fail
  go_ret
  exact ⟨rfl, rfl⟩
theorem ticks_any (x : T4) (w : World) (h : okR x = true) :
    Calls Try.prog 123 #[.agg #[.int .i64 x.a, .int .i64 x.b, .int .i64 x.c, .int .i64 x.d]] w fun e w' => e = .returned (.int .i64 (ticksR x)) ∧ Below w.heap.size w w' := by
  obtain ⟨⟨a1, a2⟩, ⟨b1, b2⟩, ⟨c1, c2⟩, d1, d2⟩ := okR_bd h
  obtain ⟨n1, n2⟩ := denR_pos h
  have HD := hide fun W => drag_any x W h
  have HT := hide (show ticksR x = (x.a * denR x + 100 * x.c - 1) / (100 * x.c) from rfl)
  generalize denR x = dn at *
  obtain ⟨m1, m2⟩ := mul_bd (a := x.a) (b := dn) (m := 2000) (n := 1000) (by omega) a2 (by omega) n2
  have e1 : IntKind.i64.wrap (x.a * dn) = x.a * dn := wrap_in (by omega) (by omega)
  have e2 : IntKind.i64.wrap (100 * x.c) = 100 * x.c := wrap_in (by omega) (by omega)
  have HR := hide fun W => roundedUp_any (x.a * dn) (100 * x.c) W m1 (by omega) (by omega) (by omega)
  have X0 := hide (BoxN.new w #[.int .i64 x.a, .int .i64 x.b, .int .i64 x.c, .int .i64 x.d] 83)
  have b0 : Below w.heap.size w (w.alloc (.cells #[.int .i64 x.a, .int .i64 x.b, .int .i64 x.c, .int .i64 x.d] 83)) := (by repeat (first | exact Below.refl _ _ | assumption | (refine Below.alloc ?_ (by simp <;> omega) _) | refine Below.drew ?_ | refine bdn ?_ _))
  have B0 := hide b0
  have z0 := X0.out.lt
  clear h b0
  go_enter Try.func123, Try.ntmps123
  go_upto_region 1 with fail
  generalize w.alloc (.cells #[.int .i64 x.a, .int .i64 x.b, .int .i64 x.c, .int .i64 x.d] 83) = w1 at *
  have XD := hide (X0.out.below (Below.refl _ _).drew z0)
  have BD : Hid (Below w.heap.size w w1.drew) := B0.out.drew
  have zd : w.heap.size < w1.drew.heap.size := z0
  refine wp_region_held_drew (S := fun W => W.cell? ⟨w.heap.size, 0, none⟩ = some (.int .i64 x.a) ∧ W.cell? ⟨w.heap.size, 1, none⟩ = some (.int .i64 x.b) ∧ W.cell? ⟨w.heap.size, 2, none⟩ = some (.int .i64 x.c) ∧ W.cell? ⟨w.heap.size, 3, none⟩ = some (.int .i64 x.d)) (by kernel_rfl) (⟨XD.out.cell 0, XD.out.cell 1, XD.out.cell 2, XD.out.cell 3⟩) (fun hHeld => ?_)
  generalize w1.drew = wd at *
  refine wpAnyH_take (i := 0) (v := ?_) rfl (by kernel_rfl) (by kernel_rfl) (by kernel_rfl) (fun _ _ _ h => h) (Or.inl ⟨by rfl, ?_⟩) (by assumption) ?_
  rotate_left 1
  · (intro w hSw; (try dsimp only at hSw); go_simp; try with_reducible rfl)
  try simp only [Act.put, List.getElem_toArray, List.getElem_cons_succ, List.getElem_cons_zero, List.setIfInBounds_toArray, List.set_cons_zero, List.set_cons_succ]
  refine wpAnyH_take (i := 1) (v := ?_) rfl (by kernel_rfl) (by kernel_rfl) (by kernel_rfl) (fun _ _ _ h => h) (Or.inl ⟨by rfl, ?_⟩) (by assumption) ?_
  rotate_left 1
  · (intro w hSw; (try dsimp only at hSw); go_simp; try with_reducible rfl)
  try simp only [Act.put, List.getElem_toArray, List.getElem_cons_succ, List.getElem_cons_zero, List.setIfInBounds_toArray, List.set_cons_zero, List.set_cons_succ]
  refine wpAnyH_take (i := 2) (v := ?_) rfl (by kernel_rfl) (by kernel_rfl) (by kernel_rfl) (fun _ _ _ h => h) (Or.inl ⟨by rfl, ?_⟩) (by assumption) ?_
  rotate_left 1
  · (intro w hSw; (try dsimp only at hSw); go_simp; try with_reducible rfl)
  try simp only [Act.put, List.getElem_toArray, List.getElem_cons_succ, List.getElem_cons_zero, List.setIfInBounds_toArray, List.set_cons_zero, List.set_cons_succ]
  refine wpAnyH_take (i := 5) (v := ?_) rfl (by kernel_rfl) (by kernel_rfl) (by kernel_rfl) (fun _ _ _ h => h) (Or.inl ⟨by rfl, ?_⟩) (by assumption) ?_
  rotate_left 1
  · (intro w hSw; (try dsimp only at hSw); go_simp; try with_reducible rfl)
  try simp only [Act.put, List.getElem_toArray, List.getElem_cons_succ, List.getElem_cons_zero, List.setIfInBounds_toArray, List.set_cons_zero, List.set_cons_succ]
  refine wpAnyH_take (i := 6) (v := ?_) rfl (by kernel_rfl) (by kernel_rfl) (by kernel_rfl) (fun _ _ _ h => h) (Or.inl ⟨by rfl, ?_⟩) (by assumption) ?_
  rotate_left 1
  · (intro w hSw; (try dsimp only at hSw); go_simp; try with_reducible rfl)
  try simp only [Act.put, List.getElem_toArray, List.getElem_cons_succ, List.getElem_cons_zero, List.setIfInBounds_toArray, List.set_cons_zero, List.set_cons_succ]
  refine wpAnyH_take (i := 7) (v := ?_) rfl (by kernel_rfl) (by kernel_rfl) (by kernel_rfl) (fun _ _ _ h => h) (Or.inl ⟨by rfl, ?_⟩) (by assumption) ?_
  rotate_left 1
  · (intro w hSw; (try dsimp only at hSw); go_simp; try with_reducible rfl)
  try simp only [Act.put, List.getElem_toArray, List.getElem_cons_succ, List.getElem_cons_zero, List.setIfInBounds_toArray, List.set_cons_zero, List.set_cons_succ]
  refine wpAnyH_ready (rs := [3]) (by kernel_rfl) (by simp) ?_
  refine AllReadyH.cons rfl (fun K hK => ?_) AllReadyH.nil
  try simp only [Act.put, List.getElem_toArray, List.getElem_cons_succ, List.getElem_cons_zero, List.setIfInBounds_toArray, List.set_cons_zero, List.set_cons_succ]
  go_simp
  go_at_call 125
  refine (HD.out wd).mono ?_
  rintro e w2 ⟨rfl, s2⟩
  have X2 := hide (XD.out.below s2 zd)
  have B2 := hide (BD.out.trans (s2.mono BD.out.size))
  dsimp only
  refine hK.out _ _ (⟨X2.out.cell 0, X2.out.cell 1, X2.out.cell 2, X2.out.cell 3⟩) (fun hHeld => ?_)
  clear hK K
  try simp only [Act.put, List.getElem_toArray, List.getElem_cons_succ, List.getElem_cons_zero, List.setIfInBounds_toArray, List.set_cons_zero, List.set_cons_succ]
  refine wpAnyH_take (i := 4) (v := ?_) rfl (by kernel_rfl) (by kernel_rfl) (by kernel_rfl) (fun _ _ _ h => h) (Or.inl ⟨by rfl, ?_⟩) (by assumption) ?_
  rotate_left 1
  · (intro w hSw; (try dsimp only at hSw); go_simp; try with_reducible rfl)
  try simp only [Act.put, List.getElem_toArray, List.getElem_cons_succ, List.getElem_cons_zero, List.setIfInBounds_toArray, List.set_cons_zero, List.set_cons_succ]
  refine wpAnyH_ready (rs := [8]) (by kernel_rfl) (by simp) ?_
  refine AllReadyH.cons rfl (fun K hK => ?_) AllReadyH.nil
  try simp only [Act.put, List.getElem_toArray, List.getElem_cons_succ, List.getElem_cons_zero, List.setIfInBounds_toArray, List.set_cons_zero, List.set_cons_succ]
  go_simp
  go_at_call 160
  refine (HR.out w2).mono ?_
  rintro e w3 ⟨rfl, rfl⟩
  dsimp only
  refine hK.out _ _ (⟨X2.out.cell 0, X2.out.cell 1, X2.out.cell 2, X2.out.cell 3⟩) (fun hHeld => ?_)
  clear hK K
  try simp only [Act.put, List.getElem_toArray, List.getElem_cons_succ, List.getElem_cons_zero, List.setIfInBounds_toArray, List.set_cons_zero, List.set_cons_succ]
  refine wpAnyH_take (i := 9) (v := ?_) rfl (by kernel_rfl) (by kernel_rfl) (by kernel_rfl) (fun _ _ _ h => h) (Or.inl ⟨by rfl, ?_⟩) (by assumption) ?_
  rotate_left 1
  · (intro w hSw; (try dsimp only at hSw); go_simp; try with_reducible rfl)
  try simp only [Act.put, List.getElem_toArray, List.getElem_cons_succ, List.getElem_cons_zero, List.setIfInBounds_toArray, List.set_cons_zero, List.set_cons_succ]
  refine wpAnyH_done (by kernel_rfl) ?_ _
  go_wp2_with fail
  go_ret
  exact ⟨ret_i HT.out.symm, B2.out⟩
theorem implGcd_any (a b : Int) (w : World) (ha : 0 ≤ a) (ha2 : a ≤ 1000000000000000) (hb : 0 ≤ b) (hb2 : b ≤ 1000000000000000) :
    Calls Try.prog 161 #[.int .i64 a, .int .i64 b] w fun e w' => e = .returned (.int .i64 (Int.gcd a b : Nat)) ∧ Below w.heap.size w w' := by
  go_enter Try.func161, Try.ntmps161
  go_wp2_with fail
  go_loopg [0, 1] b.toNat (fun g x y wr => ∃ m n : Nat, x = .int .i64 m ∧ y = .int .i64 n ∧ Hid (g = n) ∧ (m : Int) ≤ 1000000000000000 ∧ (n : Int) ≤ 1000000000000000 ∧ Hid (Nat.gcd m n = Int.gcd a b) ∧ Below w.heap.size w wr)
  case atStart => exact ⟨a.toNat, b.toNat, by rw [Int.toNat_of_nonneg ha], by rw [Int.toNat_of_nonneg hb], rfl, by omega, by omega, by show Nat.gcd a.toNat b.toNat = Nat.gcd a.natAbs b.natAbs; rw [show a.natAbs = a.toNat by omega, show b.natAbs = b.toNat by omega], Below.refl _ _⟩
  case round =>
    obtain ⟨m, n, rfl, rfl, hg, hm, hn, HG, hB⟩ := hrel
    by_cases hz : n = 0
    · subst hz
      have e : Nat.gcd m 0 = m := Nat.gcd_zero_right m
      have HE := hide (HG.out.symm.trans e)
      clear e HG
      go_wp2_with fail
      go_ret
      exact ⟨ret_i (by rw [HE.out]), hB⟩
    · have hz' : ¬ ((n : Int) = 0) := by omega
      have hmod : m % n < n := Nat.mod_lt _ (by omega)
      have e1 : ((m : Int)).tmod (n : Int) = ((m % n : Nat) : Int) := by rw [Int.tmod_eq_emod_of_nonneg (by omega)]; rfl
      have e2 : IntKind.i64.wrap (((m : Int)).tmod (n : Int)) = ((m % n : Nat) : Int) := by rw [e1]; exact wrap_in (by omega) (by omega)
      have HN := hide (show Nat.gcd n (m % n) = Int.gcd a b by rw [← HG.out, Nat.gcd_comm m n, Nat.gcd_rec n m]; exact Nat.gcd_comm _ _)
      clear e1 HG
      go_upto_region 2 with fail
      have BD : Hid (Below w.heap.size w wr.drew) := hB.drew
      refine wp_region_held_drew (S := fun W => True) (by kernel_rfl) (trivial) (fun hHeld => ?_)
      generalize wr.drew = wd at *
      refine wpAnyH_take (i := 0) (v := ?_) rfl (by kernel_rfl) (by kernel_rfl) (by kernel_rfl) (fun _ _ _ h => h) (Or.inl ⟨by rfl, ?_⟩) (by assumption) ?_
      rotate_left 1
      · (intro w hSw; (try dsimp only at hSw); go_simp; try with_reducible rfl)
      try simp only [Act.put, List.getElem_toArray, List.getElem_cons_succ, List.getElem_cons_zero, List.setIfInBounds_toArray, List.set_cons_zero, List.set_cons_succ]
      refine wpAnyH_take (i := 1) (v := ?_) rfl (by kernel_rfl) (by kernel_rfl) (by kernel_rfl) (fun _ _ _ h => h) (Or.inl ⟨by rfl, ?_⟩) (by assumption) ?_
      rotate_left 1
      · (intro w hSw; (try dsimp only at hSw); go_simp; try with_reducible rfl)
      try simp only [Act.put, List.getElem_toArray, List.getElem_cons_succ, List.getElem_cons_zero, List.setIfInBounds_toArray, List.set_cons_zero, List.set_cons_succ]
      refine wpAnyH_take (i := 2) (v := ?_) rfl (by kernel_rfl) (by kernel_rfl) (by kernel_rfl) (fun _ _ _ h => h) (Or.inl ⟨by rfl, ?_⟩) (by assumption) ?_
      rotate_left 1
      · (intro w hSw; (try dsimp only at hSw); go_simp; try with_reducible rfl)
      try simp only [Act.put, List.getElem_toArray, List.getElem_cons_succ, List.getElem_cons_zero, List.setIfInBounds_toArray, List.set_cons_zero, List.set_cons_succ]
      refine wpAnyH_take (i := 3) (v := ?_) rfl (by kernel_rfl) (by kernel_rfl) (by kernel_rfl) (fun _ _ _ h => h) (Or.inl ⟨by rfl, ?_⟩) (by assumption) ?_
      rotate_left 1
      · (intro w hSw; (try dsimp only at hSw); go_simp; try with_reducible rfl)
      try simp only [Act.put, List.getElem_toArray, List.getElem_cons_succ, List.getElem_cons_zero, List.setIfInBounds_toArray, List.set_cons_zero, List.set_cons_succ]
      refine wpAnyH_take (i := 4) (v := ?_) rfl (by kernel_rfl) (by kernel_rfl) (by kernel_rfl) (fun _ _ _ h => h) (Or.inl ⟨by rfl, ?_⟩) (by assumption) ?_
      rotate_left 1
      · (intro w hSw; (try dsimp only at hSw); go_simp; try with_reducible rfl)
      try simp only [Act.put, List.getElem_toArray, List.getElem_cons_succ, List.getElem_cons_zero, List.setIfInBounds_toArray, List.set_cons_zero, List.set_cons_succ]
      refine wpAnyH_take (i := 5) (v := ?_) rfl (by kernel_rfl) (by kernel_rfl) (by kernel_rfl) (fun _ _ _ h => h) (Or.inl ⟨by rfl, ?_⟩) (by assumption) ?_
      rotate_left 1
      · (intro w hSw; (try dsimp only at hSw); go_simp; try with_reducible rfl)
      try simp only [Act.put, List.getElem_toArray, List.getElem_cons_succ, List.getElem_cons_zero, List.setIfInBounds_toArray, List.set_cons_zero, List.set_cons_succ]
      refine wpAnyH_done (by kernel_rfl) ?_ _
      go_wp2_with fail
      go_roundg (m % n)
      case measure => have := hg.out; omega
      case rel => exact ⟨n, m % n, rfl, rfl, rfl, hn, by omega, HN, BD.out⟩
theorem lowest_any (n d : Int) (w : World) (hn : 0 ≤ n) (hn2 : n ≤ 1000000000000000) (hd : 1 ≤ d) (hd2 : d ≤ 1000000000000000) :
    Calls Try.prog 124 #[.int .i64 n, .int .i64 d] w fun e w' => e = .returned (.agg #[.int .i64 (lowF n d).1, .int .i64 (lowF n d).2]) ∧ Below w.heap.size w w' := by
  have hg0 : Int.gcd n d ≠ 0 := by intro e; rw [Int.gcd_eq_zero_iff] at e; omega
  have HG := hide fun W => implGcd_any n d W hn hn2 (by omega) hd2
  have H1 := hide (show (lowF n d).1 = n / (Int.gcd n d : Int) from rfl)
  have H2 := hide (show (lowF n d).2 = d / (Int.gcd n d : Int) from rfl)
  generalize Int.gcd n d = g at *
  have t1 : n.tdiv (g : Int) = n / (g : Int) := Int.tdiv_eq_ediv_of_nonneg hn
  have t2 : d.tdiv (g : Int) = d / (g : Int) := Int.tdiv_eq_ediv_of_nonneg (by omega)
  have l1 : n / (g : Int) ≤ n := Int.ediv_le_self _ hn
  have l2 : d / (g : Int) ≤ d := Int.ediv_le_self _ (by omega)
  have l3 : 0 ≤ n / (g : Int) := Int.ediv_nonneg hn (by omega)
  have l4 : 0 ≤ d / (g : Int) := Int.ediv_nonneg (by omega) (by omega)
  have e1 : IntKind.i64.wrap (n.tdiv (g : Int)) = n / (g : Int) := by rw [t1]; exact wrap_in (by omega) (by omega)
  have e2 : IntKind.i64.wrap (d.tdiv (g : Int)) = d / (g : Int) := by rw [t2]; exact wrap_in (by omega) (by omega)
  have hg0' : ¬ ((g : Int) = 0) := by omega
  have X0 := hide (BoxN.new w #[.int .i64 0, .int .i64 0] 77)
  have b0 : Below w.heap.size w (w.alloc (.cells #[.int .i64 0, .int .i64 0] 77)) := (by repeat (first | exact Below.refl _ _ | assumption | (refine Below.alloc ?_ (by simp <;> omega) _) | refine Below.drew ?_ | refine bdn ?_ _))
  have B0 := hide b0
  have z0 := X0.out.lt
  clear b0 t1 t2 l1 l2 l3 l4
  go_enter Try.func124, Try.ntmps124
  go_upto_region 3 with fail
  generalize w.alloc (.cells #[.int .i64 0, .int .i64 0] 77) = w1 at *
  go_upto_region 4 with (go_at_call 161; refine (HG.out _).mono ?_; rintro e w2 ⟨rfl, s2⟩)
  have XD := hide ((X0.out.below s2 z0).below (Below.refl _ _).drew (Nat.lt_of_lt_of_le z0 s2.size))
  have BD : Hid (Below w.heap.size w w2.drew) := (B0.out.trans (s2.mono B0.out.size)).drew
  have T0 := hide (XD.out.set 0 (.int .i64 (n / (g : Int))))
  have T1 := hide (T0.out.set 1 (.int .i64 (d / (g : Int))))
  have m0 : w2.drew.cell? ⟨w.heap.size, 0, none⟩ = some (.int .i64 0) := XD.out.cell 0
  have n0 := XD.out.fro 0
  have m1 : (w2.drew.setCell ⟨w.heap.size, 0, none⟩ (.int .i64 (n / (g : Int)))).cell? ⟨w.heap.size, 1, none⟩ = some (.int .i64 0) := T0.out.cell 1
  have n1 := T0.out.fro 1
  have q0 : ((w2.drew.setCell ⟨w.heap.size, 0, none⟩ (.int .i64 (n / (g : Int)))).setCell ⟨w.heap.size, 1, none⟩ (.int .i64 (d / (g : Int)))).cell? ⟨w.heap.size, 0, none⟩ = some (.int .i64 (n / (g : Int))) := T1.out.cell 0
  have q1 : ((w2.drew.setCell ⟨w.heap.size, 0, none⟩ (.int .i64 (n / (g : Int)))).setCell ⟨w.heap.size, 1, none⟩ (.int .i64 (d / (g : Int)))).cell? ⟨w.heap.size, 1, none⟩ = some (.int .i64 (d / (g : Int))) := T1.out.cell 1
  refine wp_region_held_drew (S := fun W => True) (by kernel_rfl) (trivial) (fun hHeld => ?_)
  generalize w2.drew = wd at *
  refine wpAnyH_take (i := 0) (v := ?_) rfl (by kernel_rfl) (by kernel_rfl) (by kernel_rfl) (fun _ _ _ h => h) (Or.inl ⟨by rfl, ?_⟩) (by assumption) ?_
  rotate_left 1
  · (intro w hSw; (try dsimp only at hSw); go_simp; try with_reducible rfl)
  try simp only [Act.put, List.getElem_toArray, List.getElem_cons_succ, List.getElem_cons_zero, List.setIfInBounds_toArray, List.set_cons_zero, List.set_cons_succ]
  refine wpAnyH_take (i := 1) (v := ?_) rfl (by kernel_rfl) (by kernel_rfl) (by kernel_rfl) (fun _ _ _ h => h) (Or.inl ⟨by rfl, ?_⟩) (by assumption) ?_
  rotate_left 1
  · (intro w hSw; (try dsimp only at hSw); go_simp; try with_reducible rfl)
  try simp only [Act.put, List.getElem_toArray, List.getElem_cons_succ, List.getElem_cons_zero, List.setIfInBounds_toArray, List.set_cons_zero, List.set_cons_succ]
  refine wpAnyH_take (i := 2) (v := ?_) rfl (by kernel_rfl) (by kernel_rfl) (by kernel_rfl) (fun _ _ _ h => h) (Or.inl ⟨by rfl, ?_⟩) (by assumption) ?_
  rotate_left 1
  · (intro w hSw; (try dsimp only at hSw); go_simp; try with_reducible rfl)
  try simp only [Act.put, List.getElem_toArray, List.getElem_cons_succ, List.getElem_cons_zero, List.setIfInBounds_toArray, List.set_cons_zero, List.set_cons_succ]
  refine wpAnyH_take (i := 3) (v := ?_) rfl (by kernel_rfl) (by kernel_rfl) (by kernel_rfl) (fun _ _ _ h => h) (Or.inl ⟨by rfl, ?_⟩) (by assumption) ?_
  rotate_left 1
  · (intro w hSw; (try dsimp only at hSw); go_simp; try with_reducible rfl)
  try simp only [Act.put, List.getElem_toArray, List.getElem_cons_succ, List.getElem_cons_zero, List.setIfInBounds_toArray, List.set_cons_zero, List.set_cons_succ]
  refine wpAnyH_take (i := 4) (v := ?_) rfl (by kernel_rfl) (by kernel_rfl) (by kernel_rfl) (fun _ _ _ h => h) (Or.inl ⟨by rfl, ?_⟩) (by assumption) ?_
  rotate_left 1
  · (intro w hSw; (try dsimp only at hSw); go_simp; try with_reducible rfl)
  try simp only [Act.put, List.getElem_toArray, List.getElem_cons_succ, List.getElem_cons_zero, List.setIfInBounds_toArray, List.set_cons_zero, List.set_cons_succ]
  refine wpAnyH_take (i := 5) (v := ?_) rfl (by kernel_rfl) (by kernel_rfl) (by kernel_rfl) (fun _ _ _ h => h) (Or.inl ⟨by rfl, ?_⟩) (by assumption) ?_
  rotate_left 1
  · (intro w hSw; (try dsimp only at hSw); go_simp; try with_reducible rfl)
  try simp only [Act.put, List.getElem_toArray, List.getElem_cons_succ, List.getElem_cons_zero, List.setIfInBounds_toArray, List.set_cons_zero, List.set_cons_succ]
  refine wpAnyH_take (i := 6) (v := ?_) rfl (by kernel_rfl) (by kernel_rfl) (by kernel_rfl) (fun _ _ _ h => h) (Or.inl ⟨by rfl, ?_⟩) (by assumption) ?_
  rotate_left 1
  · (intro w hSw; (try dsimp only at hSw); go_simp; try with_reducible rfl)
  try simp only [Act.put, List.getElem_toArray, List.getElem_cons_succ, List.getElem_cons_zero, List.setIfInBounds_toArray, List.set_cons_zero, List.set_cons_succ]
  refine wpAnyH_ready (rs := [7]) (by kernel_rfl) (by simp) ?_
  refine AllReadyH.cons rfl (fun K hK => ?_) AllReadyH.nil
  try simp only [Act.put, List.getElem_toArray, List.getElem_cons_succ, List.getElem_cons_zero, List.setIfInBounds_toArray, List.set_cons_zero, List.set_cons_succ]
  go_simp
  refine hK.out _ _ (trivial) (fun hHeld => ?_)
  clear hK K
  try simp only [Act.put, List.getElem_toArray, List.getElem_cons_succ, List.getElem_cons_zero, List.setIfInBounds_toArray, List.set_cons_zero, List.set_cons_succ]
  refine wpAnyH_done (by kernel_rfl) ?_ _
  go_wp2_with fail
  refine bodyPost_ret (v := .agg #[.int .i64 (n / (g : Int)), .int .i64 (d / (g : Int))]) (by simp [results, Try.results124, go_sem, q0, q1]) rfl ⟨by rw [H1.out, H2.out], ?_⟩
  exact (BD.out.setCell (p := ⟨w.heap.size, 0, none⟩) (Nat.le_refl _) _).setCell (p := ⟨w.heap.size, 1, none⟩) (Nat.le_refl _) _
theorem implTicksCode_any (b : Bool) (t : Int) (w : World) :
    Calls Try.prog 121 #[.bool b, .int .i64 t] w fun e w' => e = .returned (.int .i64 (tickCode b t)) ∧ w = w' := by
  cases b
  · go_enter Try.func121, Try.ntmps121
    go_wp2_with (go_at_call 115; first | (refine (within_t _ _ _ _ (by omega)).mono ?_; rintro e w' ⟨rfl, rfl⟩) | (refine (within_f _ _ _ _ (by omega)).mono ?_; rintro e w' ⟨rfl, rfl⟩))
    go_ret
    exact ⟨rfl, rfl⟩
  · by_cases h : 0 ≤ t ∧ t ≤ 1000000
    · have HK := hide (show tickCode true t = 0 by unfold tickCode; rw [inB_t h]; rfl)
      obtain ⟨h1, h2⟩ := h
      go_enter Try.func121, Try.ntmps121
      go_wp2_with (go_at_call 115; first | (refine (within_t _ _ _ _ (by omega)).mono ?_; rintro e w' ⟨rfl, rfl⟩) | (refine (within_f _ _ _ _ (by omega)).mono ?_; rintro e w' ⟨rfl, rfl⟩))
      go_ret
      exact ⟨ret_i HK.out.symm, rfl⟩
    · have h' : t < 0 ∨ 1000000 < t := by omega
      have HK := hide (show tickCode true t = 2 by unfold tickCode; rw [inB_f h']; rfl)
      clear h
      go_enter Try.func121, Try.ntmps121
      go_wp2_with (go_at_call 115; first | (refine (within_t _ _ _ _ (by omega)).mono ?_; rintro e w' ⟨rfl, rfl⟩) | (refine (within_f _ _ _ _ (by omega)).mono ?_; rintro e w' ⟨rfl, rfl⟩))
      go_ret
      exact ⟨ret_i HK.out.symm, rfl⟩
theorem sumR_bd {xs : List T4} (h : ∀ x ∈ xs, okR x = true) : 0 ≤ sumR xs ∧ sumR xs ≤ xs.length * 2010000 := by
  refine ⟨sumR_nonneg h, ?_⟩
  induction xs with
  | nil => simp [sumR]
  | cons x xs ih =>
    have h1 := ih fun y hy => h y (List.mem_cons_of_mem _ hy)
    have h2 := h x (List.mem_cons_self ..)
    have h3 := okR_bd h2
    have h4 := denR_pos h2
    obtain ⟨_, m2⟩ := mul_bd (a := x.a) (b := denR x) (m := 2000) (n := 1000) (by omega) h3.1.2 (by omega) h4.2
    have h5 : ticksR x ≤ 2010000 := by
      unfold ticksR
      exact Int.le_trans (Int.ediv_le_self _ (by omega)) (by omega)
    rw [sumR_cons, List.length_cons]; omega
theorem ticksR_le {x : T4} (h : okR x = true) : ticksR x ≤ 2010000 := by
  have := (sumR_bd (xs := [x]) (fun y hy => by rw [List.mem_singleton] at hy; subst hy; exact h)).2
  simpa [sumR] using this
theorem sumR_drop {xs : List T4} {k : Nat} {x : T4} (h : xs[k]? = some x) : sumR (xs.drop k) = ticksR x + sumR (xs.drop (k + 1)) := by
  obtain ⟨hk, rfl⟩ := List.getElem?_eq_some_iff.1 h
  rw [List.drop_eq_getElem_cons hk, sumR_cons]
theorem sumR_take {xs : List T4} {k : Nat} {x : T4} (h : xs[k]? = some x) : sumR (xs.take (k + 1)) = sumR (xs.take k) + ticksR x := by
  obtain ⟨hk, rfl⟩ := List.getElem?_eq_some_iff.1 h
  rw [List.take_succ_eq_append_getElem hk]; unfold sumR; rw [List.map_append, List.sum_append]; simp
theorem implTicksOf_any (xs : List T4) (A : Option Addr) (c : Nat) (w : World) (hl : xs.length ≤ 8) (ho : ∀ x ∈ xs, okR x = true) (h : Rd4 w w.heap.size A xs) :
    Calls Try.prog 131 #[.slice A xs.length c] w fun e w' => e = .returned (.int .i64 (sumR xs)) ∧ Below w.heap.size w w' := by
  have HX := hide h
  have HO := hide ho
  clear h ho
  go_enter Try.func131, Try.ntmps131
  go_wp2_with fail
  go_loopg [3, 8] xs.length (fun g s i wr => ∃ k : Nat, k ≤ xs.length ∧ Hid (g = xs.length - k) ∧ s = .int .i64 (sumR (xs.take k)) ∧ i = .int .i64 k ∧ Below w.heap.size w wr)
  case atStart => exact ⟨0, Nat.zero_le _, by simp [Hid], by simp [sumR], rfl, Below.refl _ _⟩
  case round =>
    obtain ⟨k, hk, hg, rfl, rfl, hB⟩ := hrel
    by_cases hlt : k < xs.length
    · obtain ⟨b1, o1, z1, rfl, hb1, hz1, hca, hcb, hcc, hcd⟩ := (HX.out.below hB).at_ hlt
      have hlt' : (k : Int) < (xs.length : Int) := by omega
      have hzo := HO.out z1 (List.mem_of_getElem? hz1)
      have HT := hide fun W => ticks_any z1 W hzo
      have ht := sumR_take hz1
      have h1 := sumR_bd (xs := xs.take (k + 1)) (fun y hy => HO.out y (List.mem_of_mem_take hy))
      have hlk : (xs.take (k + 1)).length ≤ 8 := by rw [List.length_take]; omega
      have e1 : IntKind.i64.wrap (sumR (xs.take k) + ticksR z1) = sumR (xs.take (k + 1)) := by rw [← ht]; exact wrap_in (by omega) (by omega)
      have b0 : Below w.heap.size w (wr.alloc (.cells #[.int .i64 z1.a, .int .i64 z1.b, .int .i64 z1.c, .int .i64 z1.d] 83)) := hB.alloc hB.size _
      have B0 := hide b0
      obtain ⟨s1, hs1⟩ : ∃ s1, s1 = sumR (xs.take (k + 1)) := ⟨_, rfl⟩
      rw [← hs1] at e1
      have HS1 := hide hs1
      generalize sumR (xs.take k) = s0 at *
      clear ht h1 hlk hz1 hzo b0 hs1
      go_wp2_with (go_at_call 123; refine (HT.out _).mono ?_; rintro e w2 ⟨rfl, s2⟩)
      go_roundg (xs.length - (k + 1))
      case measure => have := hg.out; omega
      case rel => exact ⟨k + 1, by omega, rfl, by rw [HS1.out], by go_num, B0.out.trans (s2.mono B0.out.size)⟩
    · obtain rfl : k = xs.length := by omega
      rw [List.take_length]
      go_wp2_with fail
      go_ret
      exact ⟨rfl, hB⟩
theorem implTicksOfWay_any (xs : List T4) (A : Option Addr) (c : Nat) (w : World) (hl : xs.length ≤ 1048576) (h : Rd4 w w.heap.size A xs) :
    Calls Try.prog 48 #[.slice A xs.length c] w fun e w' => e = .returned (.tuple #[.int .i64 (ticksOfWay xs).1, .int .i64 (ticksOfWay xs).2]) ∧ Below w.heap.size w w' := by
  have HV := hide (implValidRides_any xs A c w hl h)
  cases ho : okRs xs
  · have HK := hide (show ticksOfWay xs = (0, 1) by unfold ticksOfWay; rw [if_pos ho])
    rw [ho] at HV
    clear ho h
    go_enter Try.func48, Try.ntmps48
    go_wp2_with (go_at_call 122; refine HV.out.mono ?_; rintro e w1 ⟨rfl, s1⟩)
    refine bodyPost_ret (v := .tuple #[.int .i64 0, .int .i64 1]) (by simp [results, Try.results48, go_sem]) rfl ⟨by rw [HK.out], s1⟩
  · have HK := hide (show ticksOfWay xs = (sumR xs, 0) by unfold ticksOfWay; rw [if_neg (by simp [ho])])
    obtain ⟨h8, hx⟩ := okRs_iff.1 ho
    have HT := hide fun W (hW : Below w.heap.size w W) => implTicksOf_any xs A c W h8 hx ((h.below hW).more hW.size)
    rw [ho] at HV
    clear ho h hx
    go_enter Try.func48, Try.ntmps48
    go_wp2_with (first | (go_at_call 122; refine HV.out.mono ?_; rintro e w1 ⟨rfl, s1⟩) | (go_at_call 131; refine (HT.out _ s1).mono ?_; rintro e w2 ⟨rfl, s2⟩))
    refine bodyPost_ret (v := .tuple #[.int .i64 (sumR xs), .int .i64 0]) (by simp [results, Try.results48, go_sem]) rfl ⟨by rw [HK.out], s1.trans (s2.mono s1.size)⟩
theorem implSpeedOf_any (x : T4) (w : World) (h : okR x = true) :
    Calls Try.prog 58 #[.agg #[.int .i64 x.a, .int .i64 x.b, .int .i64 x.c, .int .i64 x.d]] w fun e w' => e = .returned (.tuple #[.agg #[.int .i64 (speedOf x).1.1, .int .i64 (speedOf x).1.2], .int .i64 (speedOf x).2]) ∧ Below w.heap.size w w' := by
  obtain ⟨⟨a1, a2⟩, ⟨b1, b2⟩, ⟨c1, c2⟩, d1, d2⟩ := okR_bd h
  obtain ⟨n1, n2⟩ := denR_pos h
  have HV := hide fun W => implValidRide_any x W
  rw [h] at HV
  have HD := hide fun W => drag_any x W h
  have HK := hide (show speedOf x = (lowF (100 * x.c) (denR x), 0) by unfold speedOf; rw [if_neg (by simp [h])])
  generalize denR x = dn at *
  have HL := hide fun W => lowest_any (100 * x.c) dn W (by omega) (by omega) (by omega) (by omega)
  obtain ⟨f1, f2⟩ : ∃ f, f = lowF (100 * x.c) dn := ⟨_, rfl⟩
  rw [← f2] at HL HK
  clear f2
  have e2 : IntKind.i64.wrap (100 * x.c) = 100 * x.c := wrap_in (by omega) (by omega)
  have X0 := hide (show BoxN ((w.alloc (.cells #[.int .i64 x.a, .int .i64 x.b, .int .i64 x.c, .int .i64 x.d] 83)).alloc (.cells #[.int .i64 0, .int .i64 0] 77)) w.heap.size #[.int .i64 x.a, .int .i64 x.b, .int .i64 x.c, .int .i64 x.d] 83 from (BoxN.new w _ _).alloc _)
  have Y0 := hide (show BoxN ((w.alloc (.cells #[.int .i64 x.a, .int .i64 x.b, .int .i64 x.c, .int .i64 x.d] 83)).alloc (.cells #[.int .i64 0, .int .i64 0] 77)) (w.heap.size + 1) #[.int .i64 0, .int .i64 0] 77 by have h := BoxN.new (w.alloc (.cells #[.int .i64 x.a, .int .i64 x.b, .int .i64 x.c, .int .i64 x.d] 83)) #[.int .i64 0, .int .i64 0] 77; simpa using h)
  have b0 : Below w.heap.size w ((w.alloc (.cells #[.int .i64 x.a, .int .i64 x.b, .int .i64 x.c, .int .i64 x.d] 83)).alloc (.cells #[.int .i64 0, .int .i64 0] 77)) := (by repeat (first | exact Below.refl _ _ | assumption | (refine Below.alloc ?_ (by simp <;> omega) _) | refine Below.drew ?_ | refine bdn ?_ _))
  have B0 := hide b0
  have z0 := Y0.out.lt
  clear h b0
  go_enter Try.func58, Try.ntmps58
  go_upto_region 1 with fail
  generalize ((w.alloc (.cells #[.int .i64 x.a, .int .i64 x.b, .int .i64 x.c, .int .i64 x.d] 83)).alloc (.cells #[.int .i64 0, .int .i64 0] 77)) = w1 at *
  have k0 := X0.out.cell 0
  have k1 := X0.out.cell 1
  have k2 := X0.out.cell 2
  have k3 := X0.out.cell 3
  go_upto_region 3 with (go_at_call 134; refine (HV.out _).mono ?_; rintro e w2 ⟨rfl, s2⟩)
  have XD := hide ((X0.out.below s2 (by omega)).below (Below.refl w2.heap.size w2).drew (by have := s2.size; omega))
  have YD := hide ((Y0.out.below s2 (by omega)).below (Below.refl w2.heap.size w2).drew (by have := s2.size; omega))
  have BD : Hid (Below w.heap.size w w2.drew) := (B0.out.trans (s2.mono B0.out.size)).drew
  have zd : w.heap.size + 1 < w2.drew.heap.size := Nat.lt_of_lt_of_le z0 s2.size
  clear k0 k1 k2 k3 s2
  refine wp_region_held_drew (S := fun W => W.cell? ⟨w.heap.size, 0, none⟩ = some (.int .i64 x.a) ∧ W.cell? ⟨w.heap.size, 1, none⟩ = some (.int .i64 x.b) ∧ W.cell? ⟨w.heap.size, 2, none⟩ = some (.int .i64 x.c) ∧ W.cell? ⟨w.heap.size, 3, none⟩ = some (.int .i64 x.d)) (by kernel_rfl) (⟨XD.out.cell 0, XD.out.cell 1, XD.out.cell 2, XD.out.cell 3⟩) (fun hHeld => ?_)
  generalize w2.drew = wd at *
  refine wpAnyH_take (i := 0) (v := ?_) rfl (by kernel_rfl) (by kernel_rfl) (by kernel_rfl) (fun _ _ _ h => h) (Or.inl ⟨by rfl, ?_⟩) (by assumption) ?_
  rotate_left 1
  · (intro w hSw; (try dsimp only at hSw); go_simp; try with_reducible rfl)
  try simp only [Act.put, List.getElem_toArray, List.getElem_cons_succ, List.getElem_cons_zero, List.setIfInBounds_toArray, List.set_cons_zero, List.set_cons_succ]
  refine wpAnyH_take (i := 1) (v := ?_) rfl (by kernel_rfl) (by kernel_rfl) (by kernel_rfl) (fun _ _ _ h => h) (Or.inl ⟨by rfl, ?_⟩) (by assumption) ?_
  rotate_left 1
  · (intro w hSw; (try dsimp only at hSw); go_simp; try with_reducible rfl)
  try simp only [Act.put, List.getElem_toArray, List.getElem_cons_succ, List.getElem_cons_zero, List.setIfInBounds_toArray, List.set_cons_zero, List.set_cons_succ]
  refine wpAnyH_take (i := 2) (v := ?_) rfl (by kernel_rfl) (by kernel_rfl) (by kernel_rfl) (fun _ _ _ h => h) (Or.inl ⟨by rfl, ?_⟩) (by assumption) ?_
  rotate_left 1
  · (intro w hSw; (try dsimp only at hSw); go_simp; try with_reducible rfl)
  try simp only [Act.put, List.getElem_toArray, List.getElem_cons_succ, List.getElem_cons_zero, List.setIfInBounds_toArray, List.set_cons_zero, List.set_cons_succ]
  refine wpAnyH_take (i := 3) (v := ?_) rfl (by kernel_rfl) (by kernel_rfl) (by kernel_rfl) (fun _ _ _ h => h) (Or.inl ⟨by rfl, ?_⟩) (by assumption) ?_
  rotate_left 1
  · (intro w hSw; (try dsimp only at hSw); go_simp; try with_reducible rfl)
  try simp only [Act.put, List.getElem_toArray, List.getElem_cons_succ, List.getElem_cons_zero, List.setIfInBounds_toArray, List.set_cons_zero, List.set_cons_succ]
  refine wpAnyH_ready (rs := [4]) (by kernel_rfl) (by simp) ?_
  refine AllReadyH.cons rfl (fun K hK => ?_) AllReadyH.nil
  try simp only [Act.put, List.getElem_toArray, List.getElem_cons_succ, List.getElem_cons_zero, List.setIfInBounds_toArray, List.set_cons_zero, List.set_cons_succ]
  go_simp
  go_at_call 125
  refine (HD.out _).mono ?_
  rintro e w3 ⟨rfl, s3⟩
  have X3 := hide (XD.out.below s3 (by omega))
  have Y3 := hide (YD.out.below s3 (by omega))
  have B3 := hide (BD.out.trans (s3.mono BD.out.size))
  have z3 := s3.size
  dsimp only
  refine hK.out _ _ (⟨X3.out.cell 0, X3.out.cell 1, X3.out.cell 2, X3.out.cell 3⟩) (fun hHeld => ?_)
  clear hK K
  try simp only [Act.put, List.getElem_toArray, List.getElem_cons_succ, List.getElem_cons_zero, List.setIfInBounds_toArray, List.set_cons_zero, List.set_cons_succ]
  refine wpAnyH_ready (rs := [5]) (by kernel_rfl) (by simp) ?_
  refine AllReadyH.cons rfl (fun K hK => ?_) AllReadyH.nil
  try simp only [Act.put, List.getElem_toArray, List.getElem_cons_succ, List.getElem_cons_zero, List.setIfInBounds_toArray, List.set_cons_zero, List.set_cons_succ]
  go_simp
  go_at_call 124
  refine (HL.out _).mono ?_
  rintro e w4 ⟨rfl, s4⟩
  have X4 := hide (X3.out.below s4 (by omega))
  have Y4 := hide (Y3.out.below s4 (by omega))
  have B4 := hide (B3.out.trans (s4.mono B3.out.size))
  have T0 := hide (Y4.out.set 0 (.int .i64 f1.1))
  have T1 := hide (T0.out.set 1 (.int .i64 f1.2))
  have XE := hide ((X4.out.other (b' := w.heap.size + 1) (by omega) 0 (.int .i64 f1.1)).other (b' := w.heap.size + 1) (by omega) 1 (.int .i64 f1.2))
  have m0 : w4.cell? ⟨w.heap.size + 1, 0, none⟩ = some (.int .i64 0) := Y4.out.cell 0
  have n0 := Y4.out.fro 0
  have m1 : (w4.setCell ⟨w.heap.size + 1, 0, none⟩ (.int .i64 f1.1)).cell? ⟨w.heap.size + 1, 1, none⟩ = some (.int .i64 0) := T0.out.cell 1
  have n1' := T0.out.fro 1
  dsimp only
  refine hK.out _ _ (⟨X4.out.cell 0, X4.out.cell 1, X4.out.cell 2, X4.out.cell 3⟩) (fun hHeld => ?_)
  clear hK K
  try simp only [Act.put, List.getElem_toArray, List.getElem_cons_succ, List.getElem_cons_zero, List.setIfInBounds_toArray, List.set_cons_zero, List.set_cons_succ]
  refine wpAnyH_ready (rs := [6]) (by kernel_rfl) (by simp) ?_
  refine AllReadyH.cons rfl (fun K hK => ?_) AllReadyH.nil
  try simp only [Act.put, List.getElem_toArray, List.getElem_cons_succ, List.getElem_cons_zero, List.setIfInBounds_toArray, List.set_cons_zero, List.set_cons_succ]
  go_simp
  refine hK.out _ _ (⟨XE.out.cell 0, XE.out.cell 1, XE.out.cell 2, XE.out.cell 3⟩) (fun hHeld => ?_)
  clear hK K
  try simp only [Act.put, List.getElem_toArray, List.getElem_cons_succ, List.getElem_cons_zero, List.setIfInBounds_toArray, List.set_cons_zero, List.set_cons_succ]
  refine wpAnyH_take (i := 7) (v := ?_) rfl (by kernel_rfl) (by kernel_rfl) (by kernel_rfl) (fun _ _ _ h => h) (Or.inl ⟨by rfl, ?_⟩) (by assumption) ?_
  rotate_left 1
  · (intro w hSw; (try dsimp only at hSw); go_simp; try with_reducible rfl)
  try simp only [Act.put, List.getElem_toArray, List.getElem_cons_succ, List.getElem_cons_zero, List.setIfInBounds_toArray, List.set_cons_zero, List.set_cons_succ]
  refine wpAnyH_done (by kernel_rfl) ?_ _
  go_wp2_with fail
  have q0 : ((w4.setCell ⟨w.heap.size + 1, 0, none⟩ (.int .i64 f1.1)).setCell ⟨w.heap.size + 1, 1, none⟩ (.int .i64 f1.2)).cell? ⟨w.heap.size + 1, 0, none⟩ = some (.int .i64 f1.1) := T1.out.cell 0
  have q1 : ((w4.setCell ⟨w.heap.size + 1, 0, none⟩ (.int .i64 f1.1)).setCell ⟨w.heap.size + 1, 1, none⟩ (.int .i64 f1.2)).cell? ⟨w.heap.size + 1, 1, none⟩ = some (.int .i64 f1.2) := T1.out.cell 1
  refine bodyPost_ret (v := .tuple #[.agg #[.int .i64 f1.1, .int .i64 f1.2], .int .i64 0]) (by simp [results, Try.results58, go_sem, q0, q1]) rfl ⟨by rw [HK.out], ?_⟩
  exact (B4.out.setCell (p := ⟨w.heap.size + 1, 0, none⟩) (by dsimp only; omega) _).setCell (p := ⟨w.heap.size + 1, 1, none⟩) (by dsimp only; omega) _
end Go.Proofs.Ytlkccijlbeibjaa
