/-
  The law FnPlaces returns true for every input. No condition.
-/
import Derived.Test.YtlkccijlbeibjaaQPlaces8
import Derived.Test.YtlkccijlbeibjaaQPlaces11
import Derived.Test.YtlkccijlbeibjaaQPlaces12
import Derived.Test.YtlkccijlbeibjaaQPlaces3
import Derived.Test.YtlkccijlbeibjaaRows
import Derived.Test.YtlkccijlbeibjaaQPlaces9
import Derived.ProofKit
import Derived.Deep.DeepCutAuto
import Derived.OpenShut
namespace Go.Proofs.Ytlkccijlbeibjaa
open Go.ChangeShapes Go.WideShapes Go.ChangeAt Go.RowKit
theorem pmix_get {α : Type} {zs ys : List α} {k : Nat} {y : α} (hl : zs.length = ys.length) (h : ys[k]? = some y) : (zs.take k ++ ys.drop k)[k]? = some y := by
  have hk := lt_of_get h
  rw [List.getElem?_append_right (by rw [List.length_take]; omega), List.length_take, Nat.min_eq_left (by omega), Nat.sub_self, List.getElem?_drop, Nat.add_zero]; exact h
theorem pmix_set {α : Type} {zs ys : List α} {k : Nat} {y z : α} (hl : zs.length = ys.length) (h : ys[k]? = some y) (hz : zs[k]? = some z) : (zs.take k ++ ys.drop k).set k z = zs.take (k + 1) ++ ys.drop (k + 1) := by
  obtain ⟨hk, rfl⟩ := List.getElem?_eq_some_iff.1 hz
  rw [List.set_append_right _ _ (by rw [List.length_take]; omega), List.length_take, Nat.min_eq_left (by omega), Nat.sub_self, drop_cons h, List.set_cons_zero, List.take_succ_eq_append_getElem hk, List.append_assoc, List.singleton_append]
theorem zip_get {ys : List T4} {ps : List Int} {k : Nat} {y : T4} {p : Int} (h : ys[k]? = some y) (hp : ps[k]? = some p) : (List.zipWith setC ys ps)[k]? = some (setC y p) := by
  rw [List.getElem?_zipWith, h, hp]
theorem placeGo_den {xs : List T4} (h : ∀ x ∈ xs, okR x = true) : ∀ (t : Int) (i : Nat), 0 ≤ (placeGo xs t i).2.1.2 ∧ (placeGo xs t i).2.1.2 ≤ 1000 := by
  induction xs with
  | nil => intro t i; exact ⟨Int.le_refl _, by show (0 : Int) ≤ 1000; omega⟩
  | cons x xs ih =>
    intro t i
    have hd := denR_pos (h x (List.mem_cons_self ..))
    unfold placeGo
    split
    · have h1 := lowF_den (n := 100 * x.c * t) (d := denR x) (by omega)
      dsimp only; omega
    · exact ih (fun y hy => h y (List.mem_cons_of_mem _ hy)) _ _
theorem placeAfter_law (xs : List T4) (t : Int) :
    ((placeAfter xs t).2.2 = 0 ∧ t < (ticksOfWay xs).1 ∧ ∃ (k : Nat) (x : T4), (placeAfter xs t).1 = k ∧ xs[k]? = some x ∧ (placeAfter xs t).2.1.1 ≤ x.a * (placeAfter xs t).2.1.2 ∧ 1 ≤ x.a ∧ x.a ≤ 2000 ∧ 0 ≤ (placeAfter xs t).2.1.2 ∧ (placeAfter xs t).2.1.2 ≤ 1000) ∨
    ((placeAfter xs t).2.2 = 3 ∧ (ticksOfWay xs).1 ≤ t) ∨ ((placeAfter xs t).2.2 ≠ 0 ∧ (placeAfter xs t).2.2 ≠ 3) := by
  by_cases hc : tickCode (okRs xs) t = 0
  · have hok : okRs xs = true := by
      unfold tickCode at hc; split at hc
      · cases hc
      · rename_i h1; simpa using h1
    have ht : 0 ≤ t := by
      unfold tickCode at hc; rw [if_neg (by simp [hok])] at hc
      split at hc
      · cases hc
      · rename_i h1; exact (inB_iff.1 (by simpa using h1)).1
    obtain ⟨_, hx⟩ := okRs_iff.1 hok
    have e1 : placeAfter xs t = placeGo xs t 0 := by unfold placeAfter; rw [if_pos hc]
    have e2 : (ticksOfWay xs).1 = sumR xs := by unfold ticksOfWay; rw [if_neg (by simp [hok])]
    rw [e1, e2]
    rcases placeGo_law hx t 0 ht with ⟨h1, h2, k, x, h3, h4, h5⟩ | ⟨h1, h2⟩
    · have hxo := hx x (List.mem_of_getElem? h4)
      have hb := okR_bd hxo
      have hden : 0 ≤ (placeGo xs t 0).2.1.2 ∧ (placeGo xs t 0).2.1.2 ≤ 1000 := placeGo_den hx t 0
      rw [Nat.zero_add] at h3
      exact .inl ⟨h1, h2, k, x, h3, h4, h5, hb.1.1, hb.1.2, hden.1, hden.2⟩
    · exact .inr (.inl ⟨h1, h2⟩)
  · have e1 : placeAfter xs t = (0, (0, 0), tickCode (okRs xs) t) := by unfold placeAfter; rw [if_neg hc]
    rw [e1]
    refine .inr (.inr ⟨hc, ?_⟩)
    show tickCode (okRs xs) t ≠ 3
    unfold tickCode; split
    · decide
    · split <;> decide

theorem catchGo_le (a y : T4) (later : Int) (h : (catchUp a y later).2 = 0) : later ≤ (catchUp a y later).1 := by
  unfold catchUp at h ⊢
  split at h
  · cases h
  · rename_i h1; rw [if_neg h1]
    split at h
    · cases h
    · rename_i h2; rw [if_neg h2]
      split at h
      · cases h
      · rename_i h3; rw [if_neg h3]
        exact catchGo_law a y later _ _ h
theorem plaBig_any (A : Option Addr) (n c : Nat) (w : World) (hn : ¬ n ≤ 4096) (hn2 : n ≤ 9223372036854775807) :
    Calls Try.prog 26 #[.slice A n c] w fun e w' => e = .returned (.bool true) ∧ w = w' := by
  have hD : decide ((4096 : Int) < (n : Int)) = true := decide_eq_true (by omega)
  go_enter Try.func26, Try.ntmps26
  go_wp2_with fail
  go_ret
  exact ⟨rfl, rfl⟩
set_option maxRecDepth 100000 in
set_option maxHeartbeats 16000000 in
theorem lPlaces_walk (bs : List Int) (v : Value) (w : World) (hr : ∃ A c, v = .slice A bs.length c ∧ RdB w w.heap.size A bs) (hl : bs.length ≤ 9223372036854775807) (hbd : ∀ z ∈ bs, 0 ≤ z ∧ z ≤ 255) :
    Calls Try.prog 6 #[v] w fun e w' => e = .returned (.bool true) ∧ Below w.heap.size w w' := by
  obtain ⟨A, c, rfl, hr⟩ := hr
  by_cases h4 : bs.length ≤ 4096
  case neg =>
    have HBG := hide fun W => plaBig_any A bs.length c W h4 hl
    go_enter Try.func6, Try.ntmps6
    go_wp2_with (go_at_call 26; refine (HBG.out _).mono ?_; rintro e w1 ⟨rfl, rfl⟩)
    go_ret
    exact ⟨rfl, Below.refl _ _⟩
  have hbs : BsOk bs := ⟨h4, hbd⟩
  have HBG := hide fun W => f6big_any A bs.length c W h4
  have HD1 := hide (drawPlace_any bs A c w hbs hr)
  have HD2 := hide fun W (hW : Below w.heap.size w W) => drawPress_any bs A c W hbs ((hr.below hW).more hW.size)
  have HD3 := hide fun W (hW : Below w.heap.size w W) => drawCatch_any bs A c W hbs ((hr.below hW).more hW.size)
  clear hr
  obtain ⟨i0, hi0, hz0, hs0, hb0⟩ := info_parts (show (Try.prog.info? 83).map (fun i => (i.zero, i.size, i.bytes)) = some (some (.agg #[.int .i64 0, .int .i64 0, .int .i64 0, .int .i64 0]), 4, 32) by kernel_rfl)
  go_enter Try.func6, Try.ntmps6
  go_upto_region 4 with (first | (go_at_call 26; refine (HBG.out _).mono ?_; rintro e w0 ⟨rfl, rfl⟩) | (go_at_call 45; refine HD1.out.mono ?_; rintro e w1 ⟨xs, A1, c1, t, rfl, hl9, hown1, s1⟩))
  have B0_1 := hide s1
  have B1_1 : Hid (Below w1.heap.size w1 w1) := Below.refl _ _
  have FX := hide fun W (hW : Below w1.heap.size w1 W) => Rd4.more (Rd4.below (Rd4.of_own hown1) hW) hW.size
  have hxl : xs.length ≤ 1048576 := by omega
  clear hown1 s1 HBG HD1
  obtain ⟨at0, hat⟩ : ∃ q, q = (placeAfter xs t).1 := ⟨_, rfl⟩
  obtain ⟨pf, hpf⟩ : ∃ q, q = (placeAfter xs t).2.1 := ⟨_, rfl⟩
  obtain ⟨bad, hbad⟩ : ∃ q, q = (placeAfter xs t).2.2 := ⟨_, rfl⟩
  obtain ⟨al, hal⟩ : ∃ q, q = (ticksOfWay xs).1 := ⟨_, rfl⟩
  have HPL := hide (placeAfter_law xs t)
  rw [← hat, ← hpf, ← hbad, ← hal] at HPL
  have HI4 := hide fun W h => implPlaceAfter_any xs t A1 c1 W hxl h
  have HS5 := hide fun W h => specPlaceAfter_any xs t A1 c1 W hxl h
  rw [← hat, ← hpf, ← hbad] at HI4 HS5
  have HI6 := hide fun W h => implTicksOfWay_any xs A1 c1 W hxl h
  have HS7 := hide fun W h => specTicksOfWay_any xs A1 c1 W hxl h
  rw [← hal] at HI6 HS7
  clear hat hpf hbad hal
  go_upto_region 5 with (go_at_call 46; (with_reducible refine (HI4.out _ (FX.out _ B1_1.out)).mono ?_); rintro e w2 ⟨rfl, s2⟩)
  have B0_2 := hide (B0_1.out.trans (s2.mono B0_1.out.size))
  have B1_2 := hide (B1_1.out.trans (s2.mono B1_1.out.size))
  clear B0_1 B1_1 s2
  have s3 : Below w2.heap.size w2 (w2.alloc (.cells #[.int .i64 pf.1, .int .i64 pf.2] 77)) := (Below.refl _ _).alloc (Nat.le_refl _) _
  have X6 := hide (BoxN.new w2 #[.int .i64 pf.1, .int .i64 pf.2] 77)
  have zx6 := X6.out.lt
  obtain ⟨g6, hg6⟩ : ∃ g, g = w2.heap.size := ⟨_, rfl⟩
  have B0_3 := hide (B0_2.out.trans (s3.mono B0_2.out.size))
  have B1_3 := hide (B1_2.out.trans (s3.mono B1_2.out.size))
  clear B0_2 B1_2
  rw [← hg6] at X6 zx6 ⊢
  clear hg6
  generalize (w2.alloc (.cells #[.int .i64 pf.1, .int .i64 pf.2] 77)) = w3 at *
  have B6_3 : Hid (Below w3.heap.size w3 w3) := Below.refl _ _
  go_upto_region 6 with (go_at_call 47; (with_reducible refine (HS5.out _ (FX.out _ B1_3.out)).mono ?_); rintro e w4 ⟨rfl, s4⟩)
  have B0_4 := hide (B0_3.out.trans (s4.mono B0_3.out.size))
  have B1_4 := hide (B1_3.out.trans (s4.mono B1_3.out.size))
  have B6_4 := hide (B6_3.out.trans (s4.mono B6_3.out.size))
  clear B0_3 B1_3 B6_3 s4
  have s5 : Below w4.heap.size w4 (w4.alloc (.cells #[.int .i64 pf.1, .int .i64 pf.2] 77)) := (Below.refl _ _).alloc (Nat.le_refl _) _
  have X9 := hide (BoxN.new w4 #[.int .i64 pf.1, .int .i64 pf.2] 77)
  have zx9 := X9.out.lt
  obtain ⟨g9, hg9⟩ : ∃ g, g = w4.heap.size := ⟨_, rfl⟩
  have B0_5 := hide (B0_4.out.trans (s5.mono B0_4.out.size))
  have B1_5 := hide (B1_4.out.trans (s5.mono B1_4.out.size))
  have B6_5 := hide (B6_4.out.trans (s5.mono B6_4.out.size))
  clear B0_4 B1_4 B6_4
  rw [← hg9] at X9 zx9 ⊢
  clear hg9
  generalize (w4.alloc (.cells #[.int .i64 pf.1, .int .i64 pf.2] 77)) = w5 at *
  have B9_5 : Hid (Below w5.heap.size w5 w5) := Below.refl _ _
  go_upto_region 7 with (go_at_call 48; (with_reducible refine (HI6.out _ (FX.out _ B1_5.out)).mono ?_); rintro e w6 ⟨rfl, s6⟩)
  have B0_6 := hide (B0_5.out.trans (s6.mono B0_5.out.size))
  have B1_6 := hide (B1_5.out.trans (s6.mono B1_5.out.size))
  have B6_6 := hide (B6_5.out.trans (s6.mono B6_5.out.size))
  have B9_6 := hide (B9_5.out.trans (s6.mono B9_5.out.size))
  clear B0_5 B1_5 B6_5 B9_5 s6
  go_upto_region 8 with (go_at_call 49; (with_reducible refine (HS7.out _ (FX.out _ B1_6.out)).mono ?_); rintro e w7 ⟨rfl, s7⟩)
  have B0_7 := hide (B0_6.out.trans (s7.mono B0_6.out.size))
  have B1_7 := hide (B1_6.out.trans (s7.mono B1_6.out.size))
  have B6_7 := hide (B6_6.out.trans (s7.mono B6_6.out.size))
  have B9_7 := hide (B9_6.out.trans (s7.mono B9_6.out.size))
  clear B0_6 B1_6 B6_6 B9_6 s7
  go_upto_region 9 with (go_at_call 50; (with_reducible refine (HD2.out _ B0_7.out).mono ?_); rintro e w8 ⟨ys, A2, c2, goal, rfl, hyl9, hown2, s8⟩)
  have FY := hide fun W (hW : Below w8.heap.size w8 W) => Rd4.more (Rd4.below (Rd4.of_own hown2) hW) hW.size
  have hyl : ys.length ≤ 1048576 := by omega
  have B0_8 := hide (B0_7.out.trans (s8.mono B0_7.out.size))
  have B1_8 := hide (B1_7.out.trans (s8.mono B1_7.out.size))
  have B6_8 := hide (B6_7.out.trans (s8.mono B6_7.out.size))
  have B9_8 := hide (B9_7.out.trans (s8.mono B9_7.out.size))
  clear B0_7 B1_7 B6_7 B9_7 s8 hown2
  have By_8 : Hid (Below w8.heap.size w8 w8) := Below.refl _ _
  have HPR := hide (fun h => bestPress_law (xs := ys) (goal := goal) h)
  obtain ⟨ps, hps⟩ : ∃ q, q = (bestPress ys goal).1 := ⟨_, rfl⟩
  obtain ⟨three, hth⟩ : ∃ q, q = (bestPress ys goal).2 := ⟨_, rfl⟩
  have HI9 := hide fun W h => implBestPressures_any ys goal A2 c2 W hyl h
  have HS10 := hide fun W h => specBestPressures_any ys goal A2 c2 W hyl h
  rw [← hps, ← hth] at HI9 HS10 HPR
  clear hps hth
  go_upto_region 10 with (go_at_call 51; (with_reducible refine (HI9.out _ (FY.out _ By_8.out)).mono ?_); rintro e w9 ⟨r1, rfl, o1, s9⟩)
  have B0_9 := hide (B0_8.out.trans (s9.mono B0_8.out.size))
  have B1_9 := hide (B1_8.out.trans (s9.mono B1_8.out.size))
  have B6_9 := hide (B6_8.out.trans (s9.mono B6_8.out.size))
  have B9_9 := hide (B9_8.out.trans (s9.mono B9_8.out.size))
  have By_9 := hide (By_8.out.trans (s9.mono By_8.out.size))
  clear B0_8 B1_8 B6_8 B9_8 By_8 s9
  have O1 := hide o1
  clear o1
  go_upto_region 11 with (go_at_call 52; (with_reducible refine (HS10.out _ (FY.out _ By_9.out)).mono ?_); rintro e w10 ⟨r2, rfl, o2, s10⟩)
  have O1b := hide (O1.out.below s10 (Nat.le_refl _))
  obtain ⟨P1, q1, rfl, hp1⟩ := O1b.out.r
  obtain ⟨P2, q2, rfl, hp2⟩ := o2.r
  have FP1 := hide fun W (hW : Below w10.heap.size w10 W) => (show RdI W W.heap.size P1 ps from (hp1.below hW).more hW.size)
  have FP2 := hide fun W (hW : Below w10.heap.size w10 W) => (show RdI W W.heap.size P2 ps from (hp2.below hW).more hW.size)
  have hpl := o2.small
  have B0_10 := hide (B0_9.out.trans (s10.mono B0_9.out.size))
  have B1_10 := hide (B1_9.out.trans (s10.mono B1_9.out.size))
  have B6_10 := hide (B6_9.out.trans (s10.mono B6_9.out.size))
  have B9_10 := hide (B9_9.out.trans (s10.mono B9_9.out.size))
  have By_10 := hide (By_9.out.trans (s10.mono By_9.out.size))
  clear B0_9 B1_9 B6_9 B9_9 By_9 s10 o2 hp1 hp2 O1 O1b
  have Bp_10 : Hid (Below w10.heap.size w10 w10) := Below.refl _ _
  have HSL := hide (fun h => slowest_law (xs := xs) h)
  obtain ⟨slow, hsl⟩ : ∃ q, q = (slowest xs).1 := ⟨_, rfl⟩
  obtain ⟨five, hfv⟩ : ∃ q, q = (slowest xs).2 := ⟨_, rfl⟩
  have HI11 := hide fun W h => implSlowest_any xs A1 c1 W hxl h
  have HS12 := hide fun W h => specSlowest_any xs A1 c1 W hxl h
  rw [← hsl, ← hfv] at HI11 HS12 HSL
  clear hsl hfv HI4 HS5 HI6 HS7 HI9 HS10 HD2
  go_upto_region 12 with (go_at_call 53; (with_reducible refine (HI11.out _ (FX.out _ B1_10.out)).mono ?_); rintro e w11 ⟨rfl, s11⟩)
  have B0_11 := hide (B0_10.out.trans (s11.mono B0_10.out.size))
  have B1_11 := hide (B1_10.out.trans (s11.mono B1_10.out.size))
  have B6_11 := hide (B6_10.out.trans (s11.mono B6_10.out.size))
  have B9_11 := hide (B9_10.out.trans (s11.mono B9_10.out.size))
  have By_11 := hide (By_10.out.trans (s11.mono By_10.out.size))
  have Bp_11 := hide (Bp_10.out.trans (s11.mono Bp_10.out.size))
  clear B0_10 B1_10 B6_10 B9_10 By_10 Bp_10 s11
  go_upto_region 13 with (go_at_call 54; (with_reducible refine (HS12.out _ (FX.out _ B1_11.out)).mono ?_); rintro e w12 ⟨rfl, s12⟩)
  have B0_12 := hide (B0_11.out.trans (s12.mono B0_11.out.size))
  have B1_12 := hide (B1_11.out.trans (s12.mono B1_11.out.size))
  have B6_12 := hide (B6_11.out.trans (s12.mono B6_11.out.size))
  have B9_12 := hide (B9_11.out.trans (s12.mono B9_11.out.size))
  have By_12 := hide (By_11.out.trans (s12.mono By_11.out.size))
  have Bp_12 := hide (Bp_11.out.trans (s12.mono Bp_11.out.size))
  clear B0_11 B1_11 B6_11 B9_11 By_11 Bp_11 s12
  go_upto_region 14 with (go_at_call 55; (with_reducible refine (HD3.out _ B0_12.out).mono ?_); rintro e w13 ⟨a, y, later, rfl, s13⟩)
  have B0_13 := hide (B0_12.out.trans (s13.mono B0_12.out.size))
  have B1_13 := hide (B1_12.out.trans (s13.mono B1_12.out.size))
  have B6_13 := hide (B6_12.out.trans (s13.mono B6_12.out.size))
  have B9_13 := hide (B9_12.out.trans (s13.mono B9_12.out.size))
  have By_13 := hide (By_12.out.trans (s13.mono By_12.out.size))
  have Bp_13 := hide (Bp_12.out.trans (s13.mono Bp_12.out.size))
  clear B0_12 B1_12 B6_12 B9_12 By_12 Bp_12 s13 HI11 HS12 HD3
  have s14 : Below w13.heap.size w13 ((w13.alloc (.cells #[.int .i64 a.a, .int .i64 a.b, .int .i64 a.c, .int .i64 a.d] 83)).alloc (.cells #[.int .i64 y.a, .int .i64 y.b, .int .i64 y.c, .int .i64 y.d] 83)) := ((Below.refl _ _).alloc (Nat.le_refl _) _).alloc (by simp) _
  have XA := hide (show BoxN ((w13.alloc (.cells #[.int .i64 a.a, .int .i64 a.b, .int .i64 a.c, .int .i64 a.d] 83)).alloc (.cells #[.int .i64 y.a, .int .i64 y.b, .int .i64 y.c, .int .i64 y.d] 83)) w13.heap.size #[.int .i64 a.a, .int .i64 a.b, .int .i64 a.c, .int .i64 a.d] 83 from (BoxN.new w13 _ _).alloc _)
  have XB := hide (show BoxN ((w13.alloc (.cells #[.int .i64 a.a, .int .i64 a.b, .int .i64 a.c, .int .i64 a.d] 83)).alloc (.cells #[.int .i64 y.a, .int .i64 y.b, .int .i64 y.c, .int .i64 y.d] 83)) (w13.heap.size + 1) #[.int .i64 y.a, .int .i64 y.b, .int .i64 y.c, .int .i64 y.d] 83 by have h := BoxN.new (w13.alloc (.cells #[.int .i64 a.a, .int .i64 a.b, .int .i64 a.c, .int .i64 a.d] 83)) #[.int .i64 y.a, .int .i64 y.b, .int .i64 y.c, .int .i64 y.d] 83; simpa using h)
  have zxb := XB.out.lt
  have B0_14 := hide (B0_13.out.trans (s14.mono B0_13.out.size))
  have B1_14 := hide (B1_13.out.trans (s14.mono B1_13.out.size))
  have B6_14 := hide (B6_13.out.trans (s14.mono B6_13.out.size))
  have B9_14 := hide (B9_13.out.trans (s14.mono B9_13.out.size))
  have By_14 := hide (By_13.out.trans (s14.mono By_13.out.size))
  have Bp_14 := hide (Bp_13.out.trans (s14.mono Bp_13.out.size))
  clear B0_13 B1_13 B6_13 B9_13 By_13 Bp_13
  obtain ⟨ga, hga⟩ : ∃ g, g = w13.heap.size := ⟨_, rfl⟩
  rw [← hga] at XA XB zxb ⊢
  clear hga s14
  generalize ((w13.alloc (.cells #[.int .i64 a.a, .int .i64 a.b, .int .i64 a.c, .int .i64 a.d] 83)).alloc (.cells #[.int .i64 y.a, .int .i64 y.b, .int .i64 y.c, .int .i64 y.d] 83)) = w14 at *
  have ka0 := XA.out.cell 0
  have ka1 := XA.out.cell 1
  have ka2 := XA.out.cell 2
  have ka3 := XA.out.cell 3
  have kb0 := XB.out.cell 0
  have kb1 := XB.out.cell 1
  have kb2 := XB.out.cell 2
  have kb3 := XB.out.cell 3
  have HCL := hide (fun h => catchGo_le a y later h)
  obtain ⟨tick, htk⟩ : ∃ q, q = (catchUp a y later).1 := ⟨_, rfl⟩
  obtain ⟨seven, hsv⟩ : ∃ q, q = (catchUp a y later).2 := ⟨_, rfl⟩
  have HI14 := hide fun W => implCatchUp_any a y later W
  have HS15 := hide fun W => specCatchUp_any a y later W
  rw [← htk, ← hsv] at HI14 HS15 HCL
  clear htk hsv
  go_upto_region 15 with (go_at_call 56; (with_reducible refine (HI14.out _).mono ?_); rintro e w15 ⟨rfl, s15⟩)
  have XA2 := hide (XA.out.below s15 (by omega))
  have XB2 := hide (XB.out.below s15 zxb)
  clear ka0 ka1 ka2 ka3 kb0 kb1 kb2 kb3 XA XB
  have B0_15 := hide (B0_14.out.trans (s15.mono B0_14.out.size))
  have B1_15 := hide (B1_14.out.trans (s15.mono B1_14.out.size))
  have B6_15 := hide (B6_14.out.trans (s15.mono B6_14.out.size))
  have B9_15 := hide (B9_14.out.trans (s15.mono B9_14.out.size))
  have By_15 := hide (By_14.out.trans (s15.mono By_14.out.size))
  have Bp_15 := hide (Bp_14.out.trans (s15.mono Bp_14.out.size))
  clear B0_14 B1_14 B6_14 B9_14 By_14 Bp_14 s15
  have ka0 := XA2.out.cell 0
  have ka1 := XA2.out.cell 1
  have ka2 := XA2.out.cell 2
  have ka3 := XA2.out.cell 3
  have kb0 := XB2.out.cell 0
  have kb1 := XB2.out.cell 1
  have kb2 := XB2.out.cell 2
  have kb3 := XB2.out.cell 3
  go_upto_region 16 with (go_at_call 57; (with_reducible refine (HS15.out _).mono ?_); rintro e w16 ⟨rfl, s16⟩)
  clear ka0 ka1 ka2 ka3 kb0 kb1 kb2 kb3 XA2 XB2
  have B0_16 := hide (B0_15.out.trans (s16.mono B0_15.out.size))
  have B1_16 := hide (B1_15.out.trans (s16.mono B1_15.out.size))
  have B6_16 := hide (B6_15.out.trans (s16.mono B6_15.out.size))
  have B9_16 := hide (B9_15.out.trans (s16.mono B9_15.out.size))
  have By_16 := hide (By_15.out.trans (s16.mono By_15.out.size))
  have Bp_16 := hide (Bp_15.out.trans (s16.mono Bp_15.out.size))
  clear B0_15 B1_15 B6_15 B9_15 By_15 Bp_15 s16 HI14 HS15
  have Y6 := hide (X6.out.below B6_16.out zx6)
  have Y9 := hide (X9.out.below B9_16.out zx9)
  have i60 := Y6.out.cell 0
  have i61 := Y6.out.cell 1
  have i90 := Y9.out.cell 0
  have i91 := Y9.out.cell 1
  have HF6 := hide (f6ints_any ps ps P1 P2 q1 q2 w16 (by omega) (by omega) (FP1.out _ Bp_16.out) (FP2.out _ Bp_16.out))
  rw [decide_eq_true rfl] at HF6
  go_upto_region 18 with (go_at_call 42; (with_reducible refine (HF6.out).mono ?_); rintro e w17 ⟨rfl, s17⟩)
  have B0_17 := hide (B0_16.out.trans (s17.mono B0_16.out.size))
  have B1_17 := hide (B1_16.out.trans (s17.mono B1_16.out.size))
  have B6_17 := hide (B6_16.out.trans (s17.mono B6_16.out.size))
  have B9_17 := hide (B9_16.out.trans (s17.mono B9_16.out.size))
  have By_17 := hide (By_16.out.trans (s17.mono By_16.out.size))
  have Bp_17 := hide (Bp_16.out.trans (s17.mono Bp_16.out.size))
  clear B0_16 B1_16 B6_16 B9_16 By_16 Bp_16 s17 HF6 i60 i61 i90 i91 Y6 Y9
  have Z0 := hide (Below.refl w17.heap.size w17)
  go_cut [201] (fun cv wx => cv = .bool false ∧ Hid (Below w17.heap.size w17 wx))
  case first =>
    as_aux_lemma =>
      rcases HPL.out with ⟨hb, hta, k, x, hk, hx, hle, ha1, ha2, hd1, hd2⟩ | ⟨hb, hta⟩ | ⟨hb1, hb2⟩
      · subst hb
        have hkl := lt_of_get hx
        obtain ⟨b1, o1, z1, rfl, hb1, hz1, hca, _⟩ := (FX.out _ B1_17.out).at_ hkl
        obtain rfl : z1 = x := by rw [hx] at hz1; cases hz1; rfl
        have hk1 : at0 < (xs.length : Int) := by omega
        have hk0 : 0 ≤ at0 := by omega
        have htn : at0.toNat = k := by omega
        have Y9 := hide (X9.out.below B9_17.out zx9)
        have i90 := Y9.out.cell 0
        have i91 := Y9.out.cell 1
        obtain ⟨p1, p2⟩ := mul_bd (a := z1.a) (b := pf.2) (m := 2000) (n := 1000) (by omega) ha2 hd1 hd2
        have e1 : IntKind.i64.wrap (z1.a * pf.2) = z1.a * pf.2 := wrap_in (by omega) (by omega)
        have hle' : ¬ (z1.a * pf.2 < pf.1) := by omega
        subst hk
        clear hx hz1 p1 p2 HPL
        go_quiet (fail)
        go_wp2_with fail
        go_meet
        exact ⟨by first | (simp; done) | (simp; omega), hide (bdn Z0.out _)⟩
      · subst hb
        have hta' : ¬ (t < al) := by omega
        clear HPL
        go_quiet (fail)
        go_wp2_with fail
        go_meet
        exact ⟨by first | (simp; done) | (simp; omega), hide (bdn Z0.out _)⟩
      · have hbb1 : (bad == 0) = false := by simpa using hb1
        have hbb2 : (bad == 3) = false := by simpa using hb2
        clear HPL hb1 hb2
        go_quiet (fail)
        go_wp2_with fail
        go_meet
        exact ⟨by first | (simp; done) | (simp; omega), hide (bdn Z0.out _)⟩
  case rest =>
    as_aux_lemma =>
      obtain ⟨rfl, Z1⟩ := hcut
      obtain ⟨wA, hwA⟩ : ∃ q, q = wc := ⟨wc, rfl⟩
      subst hwA
      have B0_A := hide (B0_17.out.trans (Z1.out.mono B0_17.out.size))
      have B1_A := hide (B1_17.out.trans (Z1.out.mono B1_17.out.size))
      have By_A := hide (By_17.out.trans (Z1.out.mono By_17.out.size))
      have Bp_A := hide (Bp_17.out.trans (Z1.out.mono Bp_17.out.size))
      clear HPL X6 X9 B6_17 B9_17 B0_17 B1_17 By_17 Bp_17 Z0 Z1
      go_upto_if 203 with fail
      go_cut [] (fun wx => Hid (Below wA.heap.size wA wx))
      case first =>
        as_aux_lemma =>
          by_cases hth : three = 0
          case neg =>
            have hB : (three == 0) = false := by simpa using hth
            clear hth
            go_wp2_with fail
            go_meet
            exact hide (Below.refl _ _)
          obtain ⟨hpl2, hok, hsum, _⟩ := HPR.out hth
          subst hth
          obtain ⟨zs, hzs⟩ : ∃ q, q = List.zipWith setC ys ps := ⟨_, rfl⟩
          have HZG := hide (show ∀ k y p, ys[k]? = some y → ps[k]? = some p → zs[k]? = some (setC y p) from fun k y p h1 h2 => by rw [hzs]; exact zip_get h1 h2)
          have hzl : zs.length = ys.length := by rw [hzs, List.length_zipWith, hpl2, Nat.min_self]
          rw [← hzs] at hok hsum
          clear hzs
          have HTW := hide fun W A5 c5 (h : Rd4 W W.heap.size A5 zs) => implTicksOfWay_any zs A5 c5 W (by omega) h
          have htw : ticksOfWay zs = (sumR zs, 0) := by unfold ticksOfWay; rw [if_neg (by simp [hok])]
          rw [htw, hzl] at HTW
          obtain ⟨sz, hsz⟩ : ∃ q, q = sumR zs := ⟨_, rfl⟩
          rw [← hsz] at HTW hsum
          have hgt : ¬ (goal < sz) := by omega
          have HPL2 := hide hpl2
          clear hok htw hsz hsum hpl2
          have ho0 := own_new0 wA wA.heap.size 83 4 (Nat.le_refl _)
          have hb1 : Below wA.heap.size wA (wA.alloc (.cells #[] 83)) := (Below.refl _ _).alloc (Nat.le_refl _) _
          have HR := hide (Rd.below (FY.out _ By_A.out) hb1)
          have hlen4 : (ys.flatMap T4.cells).length = ys.length * 4 := flatMap_len T4.cells 4 (fun _ => rfl) ys
          go_upto_region 22 with (at_builtin; go_must (refine wp_app _ rfl _ _ 73 rfl wA.heap.size 83 i0 (.agg #[.int .i64 0, .int .i64 0, .int .i64 0, .int .i64 0]) 4 32 Try.underlying73 hi0 hz0 hs0 hb0 rfl (by decide) _ _ _ rfl ho0 _ _ ys.length c2 _ rfl hlen4 HR.out (T4.ones _) (by omega) (by decide) (by simp) ?_); intro v' w4 hown' hgrow hat)
          have b4 := app_below hb1 ho0 hgrow (Nat.le_refl _) (by simp)
          have B4 := hide b4
          simp only [Nat.zero_add, List.nil_append] at hown'
          obtain ⟨A4, c4, rfl, _⟩ := own_shape hown'
          have HOW := hide hown'
          clear hown' hgrow hat hb1 ho0 HR b4 hlen4
          go_wp2_with fail
          go_loopg [33] ys.length (fun g i wr => ∃ k : Nat, k ≤ ys.length ∧ Hid (g = ys.length - k) ∧ i = .int .i64 k ∧ Hid (wr.ownsRow wA.heap.size 83 4 (.slice A4 ys.length c4) ys.length ((zs.take k ++ ys.drop k).flatMap T4.cells)) ∧ Hid (Below wA.heap.size wA wr))
          case atStart => exact ⟨0, Nat.zero_le _, by simp [Hid], rfl, by simpa using HOW, B4⟩
          case round =>
            obtain ⟨k, hk, hg, rfl, HW, HB⟩ := hrel
            clear HOW B4
            by_cases hlt : k < ys.length
            · obtain ⟨z1, hz1⟩ : ∃ z1, ys[k]? = some z1 := ⟨_, List.getElem?_eq_getElem hlt⟩
              obtain ⟨b2, o2, p1, rfl, hb2, hp1, hcp⟩ := (FP2.out wr (Bp_A.out.trans (HB.out.mono Bp_A.out.size))).at_ (show k < ps.length by have := HPL2.out; omega)
              rcases own_block HW.out with ⟨_, h0, _⟩ | ⟨gr, rfl, hg1, hg2⟩
              · omega
              have hlt' : (k : Int) < (ys.length : Int) := by omega
              have hlt2 : (k : Int) < (ps.length : Int) := by have := HPL2.out; omega
              have hk0 : (0 : Int) ≤ (k : Int) := by omega
              obtain ⟨_, _, hcc, _⟩ := ride_at HW.out (pmix_get hzl hz1)
              have hst := ride_set HW.out (pmix_get hzl hz1) p1
              rw [pmix_set hzl hz1 (HZG.out k z1 p1 hz1 hp1)] at hst
              have HST := hide hst.1
              have hfr := HW.out.frozenAt (k * 4 + 2)
              have HB2 := hide (HB.out.setCell (p := ⟨gr, k * 4 + 2, none⟩) hg1 (.int .i64 p1))
              clear hst hz1 hp1
              go_wp2_with fail
              go_roundg (ys.length - (k + 1))
              case measure => have := hg.out; omega
              case rel => exact ⟨k + 1, by omega, rfl, by go_num, HST, HB2⟩
            · obtain rfl : k = ys.length := by omega
              have HW2 : Hid (wr.ownsRow wA.heap.size 83 4 (.slice A4 ys.length c4) ys.length (zs.flatMap T4.cells)) := by
                have h := HW.out
                rw [List.drop_length, List.append_nil, ← hzl, List.take_length, hzl] at h; exact h
              clear HW
              go_wp2_with (go_at_call 48; (with_reducible refine (HTW.out _ _ _ (Rd4.of_own HW2.out)).mono ?_); rintro e w7 ⟨rfl, s7⟩)
              go_meet
              exact hide (HB.out.trans (s7.mono HB.out.size))
      case rest =>
        as_aux_lemma =>
          have Z2 := hcut
          obtain ⟨wB, hwB⟩ : ∃ q, q = wc := ⟨wc, rfl⟩
          subst hwB
          have B0_B := hide (B0_A.out.trans (Z2.out.mono B0_A.out.size))
          have B1_B := hide (B1_A.out.trans (Z2.out.mono B1_A.out.size))
          clear HPR FY FP1 FP2 B0_A B1_A By_A Bp_A Z2
          go_upto_if 234 with fail
          go_cut [] (fun wx => Hid (Below wB.heap.size wB wx))
          case first =>
            as_aux_lemma =>
              by_cases hfv : five = 0
              case neg =>
                have hB : (five == 0) = false := by simpa using hfv
                clear hfv
                go_wp2_with fail
                go_meet
                exact hide (Below.refl _ _)
              obtain ⟨ks, zl, hks, hzk, hok, hmin⟩ := HSL.out hfv
              subst hfv
              obtain ⟨_, hxo⟩ := okRs_iff.1 hok
              have hkl := lt_of_get hzk
              have hzo := hxo zl (List.mem_of_getElem? hzk)
              have hk1 : slow < (xs.length : Int) := by omega
              have hk0 : 0 ≤ slow := by omega
              have htn : slow.toNat = ks := by omega
              obtain ⟨_, _, ⟨c1_, c2_⟩, _⟩ := okR_bd hzo
              have hdz := denR_pos hzo
              obtain ⟨f, hf⟩ : ∃ f, f = lowF (100 * zl.c) (denR zl) := ⟨_, rfl⟩
              have HSF := hide fun W => implSpeedOf_any zl W hzo
              have hsp : speedOf zl = (f, 0) := by unfold speedOf; rw [if_neg (by simp [hzo]), hf]
              rw [hsp] at HSF
              have hfd := lowF_den (n := 100 * zl.c) (d := denR zl) (by omega)
              have hfn := lowF_num (n := 100 * zl.c) (d := denR zl) (by omega) (by omega)
              rw [← hf] at hfd hfn
              have HXS := hide (show ∀ x ∈ xs, (∀ W, Calls Try.prog 59 #[.agg #[.int .i64 x.a, .int .i64 x.b, .int .i64 x.c, .int .i64 x.d]] W fun e w' => e = .returned (.tuple #[.agg #[.int .i64 (lowF (100 * x.c) (denR x)).1, .int .i64 (lowF (100 * x.c) (denR x)).2], .int .i64 0]) ∧ Below W.heap.size W w') ∧ f.1 * (lowF (100 * x.c) (denR x)).2 ≤ (lowF (100 * x.c) (denR x)).1 * f.2 ∧ (0 ≤ (lowF (100 * x.c) (denR x)).1 ∧ (lowF (100 * x.c) (denR x)).1 ≤ 10000) ∧ (1 ≤ (lowF (100 * x.c) (denR x)).2 ∧ (lowF (100 * x.c) (denR x)).2 ≤ 1000) from fun x hx => by
                have hxk := hxo x hx
                have hbx := okR_bd hxk
                have hdx := denR_pos hxk
                have h1 := lowF_den (n := 100 * x.c) (d := denR x) (by omega)
                have h2 := lowF_num (n := 100 * x.c) (d := denR x) (by omega) (by omega)
                refine ⟨fun W => ?_, ?_, ⟨h2.1, by omega⟩, ⟨h1.1, by omega⟩⟩
                · have h := specSpeedOf_any x W hxk
                  have e : speedOf x = (lowF (100 * x.c) (denR x), 0) := by unfold speedOf; rw [if_neg (by simp [hxk])]
                  rw [e] at h; exact h
                · rw [hf]
                  exact lowF_cmp (n := 100 * x.c) (d := denR x) (n' := 100 * zl.c) (d' := denR zl) (by omega) (by omega) (by have := hmin x hx; rw [Int.mul_assoc, Int.mul_assoc]; omega))
              have hF2 : 1 ≤ f.2 := hfd.1
              have hF3 : f.2 ≤ 1000 := by omega
              have hF0 : 0 ≤ f.1 := hfn.1
              have hF1 : f.1 ≤ 10000 := by omega
              obtain ⟨b1, o1, z1, hA1, hb1, hz1, hca, hcb, hcc, hcd⟩ := (FX.out _ B1_B.out).at_ hkl
              obtain rfl : z1 = zl := by rw [hzk] at hz1; cases hz1; rfl
              subst hA1
              clear hf hsp hfd hfn hmin hxo hok hzo hz1 hzk HSL hdz
              subst hks
              go_upto_region 31 with (go_at_call 58; (with_reducible refine (HSF.out _).mono ?_); rintro e w5 ⟨rfl, s5⟩)
              have hal5 : Below w5.heap.size w5 (w5.alloc (.cells #[.int .i64 f.1, .int .i64 f.2] 77)) := (Below.refl _ _).alloc (Nat.le_refl _) _
              have X36 := hide (BoxN.new w5 #[.int .i64 f.1, .int .i64 f.2] 77)
              have B5 := hide (s5.trans (hal5.mono s5.size))
              have zx5 := X36.out.lt
              have zw5 := s5.size
              clear hca hcb hcc hcd hal5 s5 HSF
              obtain ⟨gf, hgf⟩ : ∃ g, g = w5.heap.size := ⟨_, rfl⟩
              rw [← hgf] at X36 zx5 ⊢
              clear hgf
              generalize w5.alloc (.cells #[.int .i64 f.1, .int .i64 f.2] 77) = w6 at *
              have k0 := X36.out.cell 0
              have k1 := X36.out.cell 1
              go_wp2_with fail
              clear k0 k1
              go_loopg [38] xs.length (fun g i wr => ∃ k : Nat, k ≤ xs.length ∧ Hid (g = xs.length - k) ∧ i = .int .i64 k ∧ Hid (BoxN wr gf #[.int .i64 f.1, .int .i64 f.2] 77) ∧ Hid (Below wB.heap.size wB wr))
              case atStart => exact ⟨0, Nat.zero_le _, by simp [Hid], rfl, X36, B5⟩
              case round =>
                obtain ⟨k, hk, hg, rfl, XR, HB⟩ := hrel
                clear X36 B5
                have zr := XR.out.lt
                by_cases hlt : k < xs.length
                · obtain ⟨b1, o1, x, hA1, hb1, hx, hca, hcb, hcc, hcd⟩ := (FX.out wr (B1_B.out.trans (HB.out.mono B1_B.out.size))).at_ hlt
                  cases hA1
                  have hlt' : (k : Int) < (xs.length : Int) := by omega
                  have hkk0 : (0 : Int) ≤ (k : Int) := by omega
                  obtain ⟨hcall, hcmp, ⟨q0, q1⟩, q2, q3⟩ := HXS.out x (List.mem_of_getElem? hx)
                  obtain ⟨h, hh⟩ : ∃ h, h = lowF (100 * x.c) (denR x) := ⟨_, rfl⟩
                  rw [← hh] at hcall hcmp q0 q1 q2 q3
                  have HCA := hide hcall
                  clear hcall hh hx
                  obtain ⟨m1, m2⟩ := mul_bd (a := h.1) (b := f.2) (m := 10000) (n := 1000) q0 q1 (by omega) hF3
                  obtain ⟨m3, m4⟩ := mul_bd (a := f.1) (b := h.2) (m := 10000) (n := 1000) hF0 hF1 (by omega) q3
                  have e1 : IntKind.i64.wrap (h.1 * f.2) = h.1 * f.2 := wrap_in (by omega) (by omega)
                  have e2 : IntKind.i64.wrap (f.1 * h.2) = f.1 * h.2 := wrap_in (by omega) (by omega)
                  have hcmp' : ¬ (h.1 * f.2 < f.1 * h.2) := by omega
                  clear m1 m2 m3 m4 hcmp
                  go_upto_region 37 with (go_at_call 59; (with_reducible refine (HCA.out _).mono ?_); rintro e w7 ⟨rfl, s7⟩)
                  have X7 := hide ((XR.out.below s7 zr).alloc (.cells #[.int .i64 h.1, .int .i64 h.2] 77))
                  have Y7 := hide (BoxN.new w7 #[.int .i64 h.1, .int .i64 h.2] 77)
                  have HB7 := hide ((HB.out.trans (s7.mono HB.out.size)).alloc (Nat.le_trans HB.out.size s7.size) (.cells #[.int .i64 h.1, .int .i64 h.2] 77))
                  clear hca hcb hcc hcd s7
                  generalize hgh : w7.heap.size = gh at *
                  generalize w7.alloc (.cells #[.int .i64 h.1, .int .i64 h.2] 77) = w8 at *
                  have k0 := X7.out.cell 0
                  have k1 := X7.out.cell 1
                  have l0 := Y7.out.cell 0
                  have l1 := Y7.out.cell 1
                  go_wp2_with fail
                  go_roundg (xs.length - (k + 1))
                  case measure => have := hg.out; omega
                  case rel => exact ⟨k + 1, by omega, rfl, by go_num, X7, HB7⟩
                · go_wp2_with fail
                  go_meet
                  exact HB
          case rest =>
            as_aux_lemma =>
              have Z3 := hcut
              by_cases hsv : seven = 0
              · have hle := HCL.out hsv
                subst hsv
                go_wp2_with fail
                go_ret
                exact ⟨ret_b (by first | (simp; done) | (simp; omega)), B0_B.out.trans (Z3.out.mono B0_B.out.size)⟩
              · have hB : (seven != 0) = true := by simpa using hsv
                go_wp2_with fail
                go_ret
                exact ⟨ret_b (by simp), B0_B.out.trans (Z3.out.mono B0_B.out.size)⟩

theorem fnPlaces_own : ownKnob Try.prog.godebug = none := by kernel_rfl
theorem fnPlaces_laid : laidOutB Try.prog = true := by kernel_rfl
set_option maxRecDepth 100000 in
theorem fnPlaces_lifted (os : Os) (started : os.Started) (H : Type) (enc : TypeId × Value → H) :
    ReturnsInHanded {} Try.checked os 6 .any (Rows.fnPlacesSpec.pre6 enc Try.prog Try.f6 Rows.fnPlacesRow.domain false) (Rows.fnPlacesSpec.post enc Try.prog Try.f6 false true false false) := by
  refine returnsInHanded_of_change (C := Try.checked) fnPlaces_own started (by kernel_rfl) Try.func6
    (ChangeSpec.witness6 (enc := enc) (C := Try.checked) false ⟨#[], #[.slice none 0 0], []⟩ 8 (by kernel_rfl) (by kernel_rfl) (by kernel_rfl) (by kernel_rfl)) ?_
  intro W base args ds gs before hval0 hW hcnd _
  have hval : ∀ (j : Nat) t v, Try.f6.params[j]? = some t → args[j]? = some v → Value.okWide Try.prog W .any base t v := hval0
  have hW' := hW
  obtain ⟨p, q, hA0, hV, rfl, hfz, hnd⟩ := hW
  have hA : DataW.TrodAll enc Try.prog W 0 (fun _ => true) true Try.f6.params.toList args.toList ds p := hA0
  rw [Try.params6] at hA hval
  obtain ⟨v0, vs0, d0, ds0, p0, q0, hargs, rfl, rfl, h0, r0⟩ := trodAll_cons hA
  obtain ⟨rfl, rfl, rfl⟩ := trodAll_nil r0
  obtain rfl : args = #[v0] := by cases args; simp_all
  obtain ⟨rfl, rfl⟩ := trodVars_none hV
  have k0 := h0
  have lt0 : ∀ x ∈ p0, x.block < W.heap.size := by obtain ⟨m, hm⟩ := k0; exact DataW.trod_lt m _ _ _ hm
  obtain ⟨A0, c0, zs0, rfl, rd0, len0, bd0⟩ := open_B Try.underlying40 Try.underlying5 (by kernel_rfl) (hval 0 40 v0 rfl rfl) h0
  clear hA0 hval0
  refine (lPlaces_walk zs0 (.slice A0 zs0.length c0) W ⟨A0, c0, rfl, rd0⟩ len0 bd0).mono fun e W' ⟨he, bel⟩ => ?_
  subst he
  exact ⟨_, rfl, _, _, _, [], _, [], hW', trodAll_mk1 (shut_bool Try.underlying4 _), (trodAll_cons_mk (Below.trod fnPlaces_laid (by kernel_rfl) (of_decide_eq_true (by kernel_rfl)) k0 bel lt0) trodAll_mk0), rfl, bel.frame _, fun h => by cases h⟩
theorem fnPlaces_holds : Rows.FnPlacesSaid :=
  OpenClaim.holds_of_wide 6 Try.f6 rfl rfl rfl rfl rfl rfl rfl ⟨rfl, rfl, rfl, rfl, rfl⟩ rfl rfl rfl rfl rfl (by kernel_rfl) Try.func6 (by kernel_rfl)
    (of_decide_eq_true (by kernel_rfl)) (by unfold Func.isWrapper; first | (rw [if_pos (by decide +kernel)]; kernel_rfl) | (rw [if_neg (by decide +kernel)]; exact ⟨rfl, rfl⟩))
    (fun os started H enc _ => fnPlaces_lifted os started H enc)
#print axioms fnPlaces_holds
end Go.Proofs.Ytlkccijlbeibjaa
