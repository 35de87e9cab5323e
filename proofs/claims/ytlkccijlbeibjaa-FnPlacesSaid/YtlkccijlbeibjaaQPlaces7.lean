/-
  Rides in the reference: valid ones, ticks, speeds.
-/
import Derived.Test.YtlkccijlbeibjaaQPlaces4
import Derived.Test.YtlkccijlbeibjaaQPlaces6
import Derived.Deep.CutBlock
namespace Go.Proofs.Ytlkccijlbeibjaa
open Go.RowKit
theorem drewN_drewN (w : World) (n m : Nat) : (w.drewN n).drewN m = w.drewN (n + m) := by unfold World.drewN; simp only [World.mk.injEq]; simp [Nat.add_assoc]
theorem qd {P : Program} {f : FuncId} {args : Array Value} {w : World} {n : Nat} {v : Value}
    (h : Calls P f args (w.drewN n) fun e w' => e = .returned v ∧ ∃ m, w' = (w.drewN n).drewN m) : Calls P f args (w.drewN n) fun e w'' => e = .returned v ∧ ∃ m, w'' = w.drewN m :=
  h.mono fun _ _ ⟨he, m, hm⟩ => ⟨he, n + m, by rw [hm, drewN_drewN]⟩
/-- A ride at a place. -/
structure RAt (w : World) (b o : Nat) (x : T4) : Prop where
  c0 : w.cell? ⟨b, o, none⟩ = some (.int .i64 x.a)
  c1 : w.cell? ⟨b, o + 1, none⟩ = some (.int .i64 x.b)
  c2 : w.cell? ⟨b, o + 2, none⟩ = some (.int .i64 x.c)
  c3 : w.cell? ⟨b, o + 3, none⟩ = some (.int .i64 x.d)
theorem RAt.below {w w' : World} {b o B : Nat} {x : T4} (h : RAt w b o x) (k : Below B w w') (hb : b < B) : RAt w' b o x :=
  ⟨(k.cell (p := ⟨b, o, none⟩) hb).trans h.c0, (k.cell (p := ⟨b, o + 1, none⟩) hb).trans h.c1, (k.cell (p := ⟨b, o + 2, none⟩) hb).trans h.c2, (k.cell (p := ⟨b, o + 3, none⟩) hb).trans h.c3⟩
theorem RAt.drew {w : World} {b o : Nat} {x : T4} (h : RAt w b o x) (n : Nat) : RAt (w.drewN n) b o x := ⟨h.c0, h.c1, h.c2, h.c3⟩
set_option maxRecDepth 100000 in
set_option maxHeartbeats 4000000 in
theorem specOk_any (x : T4) (b o : Nat) (w : World) (h : RAt w b o x) :
    Calls Try.prog 135 #[.pointer (some ⟨b, o, none⟩)] w fun e w' => e = .returned (.bool (okR x)) ∧ w = w' := by
  obtain ⟨k0, k1, k2, k3⟩ := h
  by_cases h1 : 1 ≤ x.a ∧ x.a ≤ 2000
  case neg =>
    have h1' : x.a < 1 ∨ 2000 < x.a := by omega
    have HK := hide (show okR x = false by simp [okR, inB_f h1'])
    clear h1
    go_enter Try.func135, Try.ntmps135
    go_wp2_with (go_at_call 116; first | (refine (l00In_t _ _ _ _ (by omega)).mono ?_; rintro e w' ⟨rfl, rfl⟩) | (refine (l00In_f _ _ _ _ (by omega)).mono ?_; rintro e w' ⟨rfl, rfl⟩))
    go_ret
    exact ⟨ret_b HK.out.symm, rfl⟩
  by_cases h2 : 0 ≤ x.b ∧ x.b ≤ 500
  case neg =>
    have h2' : x.b < 0 ∨ 500 < x.b := by omega
    have HK := hide (show okR x = false by simp [okR, inB_f h2'])
    clear h2
    obtain ⟨h1, h1'⟩ := h1
    go_enter Try.func135, Try.ntmps135
    go_wp2_with (go_at_call 116; first | (refine (l00In_t _ _ _ _ (by omega)).mono ?_; rintro e w' ⟨rfl, rfl⟩) | (refine (l00In_f _ _ _ _ (by omega)).mono ?_; rintro e w' ⟨rfl, rfl⟩))
    go_ret
    exact ⟨ret_b HK.out.symm, rfl⟩
  by_cases h3 : 1 ≤ x.c ∧ x.c ≤ 100
  case neg =>
    have h3' : x.c < 1 ∨ 100 < x.c := by omega
    have HK := hide (show okR x = false by simp [okR, inB_f h3'])
    clear h3
    obtain ⟨h1, h1'⟩ := h1; obtain ⟨h2, h2'⟩ := h2
    go_enter Try.func135, Try.ntmps135
    go_wp2_with (go_at_call 116; first | (refine (l00In_t _ _ _ _ (by omega)).mono ?_; rintro e w' ⟨rfl, rfl⟩) | (refine (l00In_f _ _ _ _ (by omega)).mono ?_; rintro e w' ⟨rfl, rfl⟩))
    go_ret
    exact ⟨ret_b HK.out.symm, rfl⟩
  by_cases h4 : 0 ≤ x.d ∧ x.d ≤ 40
  case neg =>
    have h4' : x.d < 0 ∨ 40 < x.d := by omega
    have HK := hide (show okR x = false by simp [okR, inB_f h4'])
    clear h4
    obtain ⟨h1, h1'⟩ := h1; obtain ⟨h2, h2'⟩ := h2; obtain ⟨h3, h3'⟩ := h3
    go_enter Try.func135, Try.ntmps135
    go_wp2_with (go_at_call 116; first | (refine (l00In_t _ _ _ _ (by omega)).mono ?_; rintro e w' ⟨rfl, rfl⟩) | (refine (l00In_f _ _ _ _ (by omega)).mono ?_; rintro e w' ⟨rfl, rfl⟩))
    go_ret
    exact ⟨ret_b HK.out.symm, rfl⟩
  have HK := hide (show okR x = true from okR_iff.2 ⟨h1, h2, h3, h4⟩)
  obtain ⟨h1, h1'⟩ := h1; obtain ⟨h2, h2'⟩ := h2; obtain ⟨h3, h3'⟩ := h3; obtain ⟨h4, h4'⟩ := h4
  go_enter Try.func135, Try.ntmps135
  go_wp2_with (go_at_call 116; first | (refine (l00In_t _ _ _ _ (by omega)).mono ?_; rintro e w' ⟨rfl, rfl⟩) | (refine (l00In_f _ _ _ _ (by omega)).mono ?_; rintro e w' ⟨rfl, rfl⟩))
  go_ret
  exact ⟨ret_b HK.out.symm, rfl⟩
theorem specNum_any (x : T4) (b o : Nat) (w : World) (ho : okR x = true) (h : RAt w b o x) :
    Calls Try.prog 129 #[.pointer (some ⟨b, o, none⟩)] w fun e w' => e = .returned (.int .i64 (100 * x.c)) ∧ w = w' := by
  obtain ⟨k0, k1, k2, k3⟩ := h
  obtain ⟨⟨a1, a2⟩, ⟨b1, b2⟩, ⟨c1, c2⟩, d1, d2⟩ := okR_bd ho
  clear ho
  go_enter Try.func129, Try.ntmps129
  go_wp2_with fail
  go_ret
  exact ⟨rfl, rfl⟩
theorem specDen_q (x : T4) (b o : Nat) (w : World) (ho : okR x = true) (h : RAt w b o x) :
    Calls Try.prog 130 #[.pointer (some ⟨b, o, none⟩)] w fun e w' => e = .returned (.int .i64 (denR x)) ∧ ∃ m, w' = w.drewN m := by
  obtain ⟨k0, k1, k2, k3⟩ := h
  obtain ⟨⟨a1, a2⟩, ⟨b1, b2⟩, ⟨c1, c2⟩, d1, d2⟩ := okR_bd ho
  have HK := hide (show denR x = 100 + x.b + 10 * x.d from rfl)
  clear ho
  go_enter Try.func130, Try.ntmps130
  go_wp2_with fail
  go_quiet (fail)
  go_wp2_with fail
  go_ret
  exact ⟨ret_i HK.out.symm, _, rfl⟩
theorem specTicks_q (x : T4) (b o : Nat) (w : World) (ho : okR x = true) (h : RAt w b o x) :
    Calls Try.prog 127 #[.pointer (some ⟨b, o, none⟩)] w fun e w' => e = .returned (.int .i64 (ticksR x)) ∧ ∃ m, w' = w.drewN m := by
  have HN := hide fun n => specNum_any x b o (w.drewN n) ho (h.drew n)
  have HD := hide fun n => specDen_q x b o (w.drewN n) ho (h.drew n)
  obtain ⟨k0, k1, k2, k3⟩ := h
  obtain ⟨⟨a1, a2⟩, ⟨b1, b2⟩, ⟨c1, c2⟩, d1, d2⟩ := okR_bd ho
  obtain ⟨n1, n2⟩ := denR_pos ho
  have HK := hide (show ticksR x = (x.a * denR x + 100 * x.c - 1) / (100 * x.c) from rfl)
  generalize denR x = dn at *
  obtain ⟨m1, m2⟩ := mul_bd (a := x.a) (b := dn) (m := 2000) (n := 1000) (by omega) a2 (by omega) n2
  have t1 : (x.a * dn + 100 * x.c - 1).tdiv (100 * x.c) = (x.a * dn + 100 * x.c - 1) / (100 * x.c) := Int.tdiv_eq_ediv_of_nonneg (by omega)
  have l1 := Int.ediv_le_self (a := x.a * dn + 100 * x.c - 1) (100 * x.c) (by omega)
  have l2 : 0 ≤ (x.a * dn + 100 * x.c - 1) / (100 * x.c) := Int.ediv_nonneg (by omega) (by omega)
  have e1 : IntKind.i64.wrap (x.a * dn) = x.a * dn := wrap_in (by omega) (by omega)
  have e2 : IntKind.i64.wrap (x.a * dn + 100 * x.c) = x.a * dn + 100 * x.c := wrap_in (by omega) (by omega)
  have e3 : IntKind.i64.wrap (x.a * dn + 100 * x.c - 1) = x.a * dn + 100 * x.c - 1 := wrap_in (by omega) (by omega)
  have e4 : IntKind.i64.wrap ((x.a * dn + 100 * x.c - 1).tdiv (100 * x.c)) = (x.a * dn + 100 * x.c - 1) / (100 * x.c) := by rw [t1]; exact wrap_in (by omega) (by omega)
  have hz : ¬ (100 * x.c = 0) := by omega
  clear ho t1 l1 l2
  go_enter Try.func127, Try.ntmps127
  go_wp2_with fail
  go_quiet (first | (go_at_call 129; with_reducible exact ql (HN.out _)) | (go_at_call 130; with_reducible exact qd (HD.out _)))
  go_wp2_with fail
  go_ret
  exact ⟨ret_i HK.out.symm, _, rfl⟩
theorem specTicks_b (x : T4) (b o : Nat) (w : World) (ho : okR x = true) (h : RAt w b o x) :
    Calls Try.prog 127 #[.pointer (some ⟨b, o, none⟩)] w fun e w' => e = .returned (.int .i64 (ticksR x)) ∧ Below w.heap.size w w' :=
  (specTicks_q x b o w ho h).mono fun _ _ ⟨he, _, hm⟩ => ⟨he, hm ▸ bdn (Below.refl _ _) _⟩
theorem specDen_b (x : T4) (b o : Nat) (w : World) (ho : okR x = true) (h : RAt w b o x) :
    Calls Try.prog 130 #[.pointer (some ⟨b, o, none⟩)] w fun e w' => e = .returned (.int .i64 (denR x)) ∧ Below w.heap.size w w' :=
  (specDen_q x b o w ho h).mono fun _ _ ⟨he, _, hm⟩ => ⟨he, hm ▸ bdn (Below.refl _ _) _⟩
theorem Rd4.rat {w : World} {B : Nat} {A : Option Addr} {xs : List T4} (h : Rd4 w B A xs) {k : Nat} (hk : k < xs.length) : ∃ b o x, A = some ⟨b, o, none⟩ ∧ b < B ∧ xs[k]? = some x ∧ RAt w b (o + k * 4) x := by
  obtain ⟨b, o, x, hA, hb, hx, h0, h1, h2, h3⟩ := h.at_ hk
  exact ⟨b, o, x, hA, hb, hx, ⟨h0, h1, h2, h3⟩⟩
theorem specList_any (xs : List T4) (A : Option Addr) (c : Nat) (w : World) (hs : xs.length ≤ 1048576) (h : Rd4 w w.heap.size A xs) :
    Calls Try.prog 126 #[.slice A xs.length c] w fun e w' => e = .returned (.bool (okRs xs)) ∧ w = w' := by
  have HX := hide h
  clear h
  go_enter Try.func126, Try.ntmps126
  go_wp2_with fail
  go_loopg [3] xs.length (fun g i wr => ∃ k : Nat, k ≤ xs.length ∧ Hid (g = xs.length - k) ∧ i = .int .i64 k ∧ Hid (xs.all okR = (xs.drop k).all okR) ∧ w = wr)
  case atStart => exact ⟨0, Nat.zero_le _, by simp [Hid], rfl, by simp [Hid], rfl⟩
  case round =>
    obtain ⟨k, hk, hg, rfl, HS, rfl⟩ := hrel
    by_cases hlt : k < xs.length
    · obtain ⟨b1, o1, z1, rfl, hb1, hz1, hra⟩ := HX.out.rat hlt
      have hlt' : (k : Int) < (xs.length : Int) := by omega
      have HRA := hide (specOk_any z1 b1 (o1 + k * 4) w hra)
      have hst := HS.out
      rw [all_drop okR xs k z1 hz1] at hst
      clear hz1 hra
      cases ho : okR z1
      · rw [ho] at HRA hst
        have HST := hide hst
        clear hst ho
        go_wp2_with (go_at_call 135; refine (HRA.out).mono ?_; rintro e w2 ⟨rfl, rfl⟩)
        go_ret
        exact ⟨ret_b (by unfold okRs; rw [HST.out]; simp), rfl⟩
      · rw [ho] at HRA hst
        have HST := hide (hst.trans (Bool.true_and _))
        clear hst ho
        go_wp2_with (go_at_call 135; refine (HRA.out).mono ?_; rintro e w2 ⟨rfl, rfl⟩)
        go_roundg (xs.length - (k + 1))
        case measure => have := hg.out; omega
        case rel => exact ⟨k + 1, by omega, rfl, by go_num, HST, rfl⟩
    · obtain rfl : k = xs.length := by omega
      have hst := HS.out
      rw [List.drop_eq_nil_of_le (Nat.le_refl _), List.all_nil] at hst
      by_cases h8 : xs.length ≤ 8
      · have HK := hide (show okRs xs = true by unfold okRs; rw [hst, decide_eq_true h8]; rfl)
        clear hst
        go_wp2_with fail
        go_ret
        exact ⟨ret_b (by rw [HK.out]; exact decide_eq_true (by omega)), rfl⟩
      · have HK := hide (show okRs xs = false by unfold okRs; rw [hst, decide_eq_false h8]; rfl)
        clear hst
        go_wp2_with fail
        go_ret
        exact ⟨ret_b (by rw [HK.out]; exact decide_eq_false (by omega)), rfl⟩
theorem specGcd_any (a b : Int) (w : World) (ha : 0 ≤ a) (ha2 : a ≤ 1000000000000000) (hb : 0 ≤ b) (hb2 : b ≤ 1000000000000000) :
    Calls Try.prog 162 #[.int .i64 a, .int .i64 b] w fun e w' => e = .returned (.int .i64 (Int.gcd a b : Nat)) ∧ w = w' := by
  go_enter Try.func162, Try.ntmps162
  go_wp2_with fail
  go_loopg [0, 1] b.toNat (fun g x y wr => ∃ m n : Nat, x = .int .i64 m ∧ y = .int .i64 n ∧ Hid (g = n) ∧ (m : Int) ≤ 1000000000000000 ∧ (n : Int) ≤ 1000000000000000 ∧ Hid (Nat.gcd m n = Int.gcd a b) ∧ w = wr)
  case atStart => exact ⟨a.toNat, b.toNat, by rw [Int.toNat_of_nonneg ha], by rw [Int.toNat_of_nonneg hb], rfl, by omega, by omega, by show Nat.gcd a.toNat b.toNat = Nat.gcd a.natAbs b.natAbs; rw [show a.natAbs = a.toNat by omega, show b.natAbs = b.toNat by omega], rfl⟩
  case round =>
    obtain ⟨m, n, rfl, rfl, hg, hm, hn, HG, rfl⟩ := hrel
    by_cases hz : n = 0
    · subst hz
      have e : Nat.gcd m 0 = m := Nat.gcd_zero_right m
      have HE := hide (HG.out.symm.trans e)
      clear e HG
      go_wp2_with fail
      go_ret
      exact ⟨ret_i (by rw [HE.out]), rfl⟩
    · have hz' : ¬ ((n : Int) = 0) := by omega
      have hmod : m % n < n := Nat.mod_lt _ (by omega)
      have e1 : ((m : Int)).tmod (n : Int) = ((m % n : Nat) : Int) := by rw [Int.tmod_eq_emod_of_nonneg (by omega)]; rfl
      have e2 : IntKind.i64.wrap (((m : Int)).tmod (n : Int)) = ((m % n : Nat) : Int) := by rw [e1]; exact wrap_in (by omega) (by omega)
      have HN := hide (show Nat.gcd n (m % n) = Int.gcd a b by rw [← HG.out, Nat.gcd_comm m n, Nat.gcd_rec n m]; exact Nat.gcd_comm _ _)
      clear e1 HG
      go_wp2_with fail
      go_roundg (m % n)
      case measure => have := hg.out; omega
      case rel => exact ⟨n, m % n, rfl, rfl, rfl, hn, by omega, HN, rfl⟩
theorem specSize_any (a : Int) (w : World) (ha : 0 ≤ a) :
    Calls Try.prog 163 #[.int .i64 a] w fun e w' => e = .returned (.int .i64 a) ∧ w = w' := by
  go_enter Try.func163, Try.ntmps163
  go_wp2_with fail
  go_ret
  exact ⟨rfl, rfl⟩
theorem specMake_any (n d : Int) (w : World) (hn : 0 ≤ n) (hn2 : n ≤ 1000000000000000) (hd : 1 ≤ d) (hd2 : d ≤ 1000000000000000) :
    Calls Try.prog 128 #[.int .i64 n, .int .i64 d] w fun e w' => e = .returned (.agg #[.int .i64 (lowF n d).1, .int .i64 (lowF n d).2]) ∧ Below w.heap.size w w' := by
  have hg0 : Int.gcd n d ≠ 0 := by intro e; rw [Int.gcd_eq_zero_iff] at e; omega
  have HG := hide fun W => specGcd_any n d W hn hn2 (by omega) hd2
  have HS := hide fun W => specSize_any n W hn
  have H1 := hide (show (lowF n d).1 = n / (Int.gcd n d : Int) from rfl)
  have H2 := hide (show (lowF n d).2 = d / (Int.gcd n d : Int) from rfl)
  generalize Int.gcd n d = g at *
  have t1 : n.tdiv (g : Int) = n / (g : Int) := Int.tdiv_eq_ediv_of_nonneg hn
  have t2 : d.tdiv (g : Int) = d / (g : Int) := Int.tdiv_eq_ediv_of_nonneg (by omega)
  have l1 : n / (g : Int) ≤ n := Int.ediv_le_self _ hn
  have l2 : d / (g : Int) ≤ d := Int.ediv_le_self _ (by omega)
  have l3 : 0 ≤ n / (g : Int) := Int.ediv_nonneg hn (by omega)
  have l4 : 0 ≤ d / (g : Int) := Int.ediv_nonneg (by omega) (by omega)
  have e1 : IntKind.i64.wrap (n.tdiv (g : Int)) = n / (g : Int) := by rw [t1]; exact wrap_in (by omega) (by omega)
  have e2 : IntKind.i64.wrap (d.tdiv (g : Int)) = d / (g : Int) := by rw [t2]; exact wrap_in (by omega) (by omega)
  have hg0' : ¬ ((g : Int) = 0) := by omega
  have X0 := hide (BoxN.new w #[.int .i64 0, .int .i64 0] 77)
  have b0 : Below w.heap.size w (w.alloc (.cells #[.int .i64 0, .int .i64 0] 77)) := (by repeat (first | exact Below.refl _ _ | assumption | (refine Below.alloc ?_ (by simp <;> omega) _) | refine Below.drew ?_ | refine bdn ?_ _))
  have B0 := hide b0
  have z0 := X0.out.lt
  clear b0 t1 t2 l1 l2 l3 l4
  go_enter Try.func128, Try.ntmps128
  go_upto_region 1 with fail
  generalize w.alloc (.cells #[.int .i64 0, .int .i64 0] 77) = w2 at *
  go_upto_region 2 with (first | (go_at_call 163; refine (HS.out _).mono ?_; rintro e w3 ⟨rfl, rfl⟩) | (go_at_call 162; refine (HG.out _).mono ?_; rintro e w4 ⟨rfl, rfl⟩))
  have XD := hide (X0.out.below (Below.refl w2.heap.size w2).drew z0)
  have BD : Hid (Below w.heap.size w w2.drew) := B0.out.drew
  have T0 := hide (XD.out.set 0 (.int .i64 (n / (g : Int))))
  have T1 := hide (T0.out.set 1 (.int .i64 (d / (g : Int))))
  have m0 : w2.drew.cell? ⟨w.heap.size, 0, none⟩ = some (.int .i64 0) := XD.out.cell 0
  have n0 := XD.out.fro 0
  have m1 : (w2.drew.setCell ⟨w.heap.size, 0, none⟩ (.int .i64 (n / (g : Int)))).cell? ⟨w.heap.size, 1, none⟩ = some (.int .i64 0) := T0.out.cell 1
  have n1 := T0.out.fro 1
  have q0 : ((w2.drew.setCell ⟨w.heap.size, 0, none⟩ (.int .i64 (n / (g : Int)))).setCell ⟨w.heap.size, 1, none⟩ (.int .i64 (d / (g : Int)))).cell? ⟨w.heap.size, 0, none⟩ = some (.int .i64 (n / (g : Int))) := T1.out.cell 0
  have q1 : ((w2.drew.setCell ⟨w.heap.size, 0, none⟩ (.int .i64 (n / (g : Int)))).setCell ⟨w.heap.size, 1, none⟩ (.int .i64 (d / (g : Int)))).cell? ⟨w.heap.size, 1, none⟩ = some (.int .i64 (d / (g : Int))) := T1.out.cell 1
  refine wp_region_held_drew (S := fun W => True) (by kernel_rfl) (trivial) (fun hHeld => ?_)
  generalize w2.drew = wd at *
  refine wpAnyH_take (i := 0) (v := ?_) rfl (by kernel_rfl) (by kernel_rfl) (by kernel_rfl) (fun _ _ _ h => h) (Or.inl ⟨by rfl, ?_⟩) (by assumption) ?_
  rotate_left 1
  · (intro w hSw; (try dsimp only at hSw); go_simp; try with_reducible rfl)
  try simp only [Act.put, List.getElem_toArray, List.getElem_cons_succ, List.getElem_cons_zero, List.setIfInBounds_toArray, List.set_cons_zero, List.set_cons_succ]
  refine wpAnyH_take (i := 1) (v := ?_) rfl (by kernel_rfl) (by kernel_rfl) (by kernel_rfl) (fun _ _ _ h => h) (Or.inl ⟨by rfl, ?_⟩) (by assumption) ?_
  rotate_left 1
  · (intro w hSw; (try dsimp only at hSw); go_simp; try with_reducible rfl)
  try simp only [Act.put, List.getElem_toArray, List.getElem_cons_succ, List.getElem_cons_zero, List.setIfInBounds_toArray, List.set_cons_zero, List.set_cons_succ]
  refine wpAnyH_take (i := 2) (v := ?_) rfl (by kernel_rfl) (by kernel_rfl) (by kernel_rfl) (fun _ _ _ h => h) (Or.inl ⟨by rfl, ?_⟩) (by assumption) ?_
  rotate_left 1
  · (intro w hSw; (try dsimp only at hSw); go_simp; try with_reducible rfl)
  try simp only [Act.put, List.getElem_toArray, List.getElem_cons_succ, List.getElem_cons_zero, List.setIfInBounds_toArray, List.set_cons_zero, List.set_cons_succ]
  refine wpAnyH_take (i := 3) (v := ?_) rfl (by kernel_rfl) (by kernel_rfl) (by kernel_rfl) (fun _ _ _ h => h) (Or.inl ⟨by rfl, ?_⟩) (by assumption) ?_
  rotate_left 1
  · (intro w hSw; (try dsimp only at hSw); go_simp; try with_reducible rfl)
  try simp only [Act.put, List.getElem_toArray, List.getElem_cons_succ, List.getElem_cons_zero, List.setIfInBounds_toArray, List.set_cons_zero, List.set_cons_succ]
  refine wpAnyH_take (i := 4) (v := ?_) rfl (by kernel_rfl) (by kernel_rfl) (by kernel_rfl) (fun _ _ _ h => h) (Or.inl ⟨by rfl, ?_⟩) (by assumption) ?_
  rotate_left 1
  · (intro w hSw; (try dsimp only at hSw); go_simp; try with_reducible rfl)
  try simp only [Act.put, List.getElem_toArray, List.getElem_cons_succ, List.getElem_cons_zero, List.setIfInBounds_toArray, List.set_cons_zero, List.set_cons_succ]
  refine wpAnyH_take (i := 5) (v := ?_) rfl (by kernel_rfl) (by kernel_rfl) (by kernel_rfl) (fun _ _ _ h => h) (Or.inl ⟨by rfl, ?_⟩) (by assumption) ?_
  rotate_left 1
  · (intro w hSw; (try dsimp only at hSw); go_simp; try with_reducible rfl)
  try simp only [Act.put, List.getElem_toArray, List.getElem_cons_succ, List.getElem_cons_zero, List.setIfInBounds_toArray, List.set_cons_zero, List.set_cons_succ]
  refine wpAnyH_take (i := 6) (v := ?_) rfl (by kernel_rfl) (by kernel_rfl) (by kernel_rfl) (fun _ _ _ h => h) (Or.inl ⟨by rfl, ?_⟩) (by assumption) ?_
  rotate_left 1
  · (intro w hSw; (try dsimp only at hSw); go_simp; try with_reducible rfl)
  try simp only [Act.put, List.getElem_toArray, List.getElem_cons_succ, List.getElem_cons_zero, List.setIfInBounds_toArray, List.set_cons_zero, List.set_cons_succ]
  refine wpAnyH_ready (rs := [7]) (by kernel_rfl) (by simp) ?_
  refine AllReadyH.cons rfl (fun K hK => ?_) AllReadyH.nil
  try simp only [Act.put, List.getElem_toArray, List.getElem_cons_succ, List.getElem_cons_zero, List.setIfInBounds_toArray, List.set_cons_zero, List.set_cons_succ]
  go_simp
  refine hK.out _ _ (trivial) (fun hHeld => ?_)
  clear hK K
  try simp only [Act.put, List.getElem_toArray, List.getElem_cons_succ, List.getElem_cons_zero, List.setIfInBounds_toArray, List.set_cons_zero, List.set_cons_succ]
  refine wpAnyH_done (by kernel_rfl) ?_ _
  go_wp2_with fail
  refine bodyPost_ret (v := .agg #[.int .i64 (n / (g : Int)), .int .i64 (d / (g : Int))]) (by simp [results, Try.results128, go_sem, q0, q1]) rfl ⟨by rw [H1.out, H2.out], ?_⟩
  exact (BD.out.setCell (p := ⟨w.heap.size, 0, none⟩) (Nat.le_refl _) _).setCell (p := ⟨w.heap.size, 1, none⟩) (Nat.le_refl _) _
end Go.Proofs.Ytlkccijlbeibjaa
