/-
  The law FnOrders returns true for every input. No condition.
-/
import Derived.Test.YtfhociekhffjhaaSrc5
import Derived.Test.YtfhociekhffjhaaOrdL
import Derived.Test.YtfhociekhffjhaaOrdD
import Derived.Test.YtfhociekhffjhaaRunW
import Derived.Test.YtfhociekhffjhaaRunJ2
import Derived.Test.YtfhociekhffjhaaLawH
import Derived.Test.YtfhociekhffjhaaRows
import Derived.Test.YtfhociekhffjhaaOpenB
import Derived.ProofKit
import Derived.OpenShut
namespace Go.Proofs.Ytfhociekhffjhaa
open Go.ChangeShapes Go.WideShapes Go.ChangeAt Go.RowKit

theorem drawn_ok {ts : List Int} {l : List TN} (h1 : (1 ≤ ts.length ∧ ts.length ≤ 6) ∧ ∀ z ∈ ts, 1 ≤ z ∧ z ≤ 12) (h2 : l.length ≤ 4 ∧ ∀ e ∈ l, WDrawn ts.length e) : vWishes ts l = true := by
  refine vWishes_iff.2 ⟨⟨⟨h1.1.1, by omega⟩, fun z hz => by have := h1.2 z hz; omega⟩, by omega, fun e he => ?_⟩
  obtain ⟨⟨⟨a1, a2⟩, a3⟩, ⟨b1, b2⟩, ⟨c1, c2⟩⟩ := h2.2 e he
  exact ⟨⟨⟨a1, by omega⟩, a3⟩, ⟨b1, by omega⟩, ⟨c1, by omega⟩⟩
theorem drawn_fits {n : Nat} (hn : n ≤ 6) {e : TN} (h : WDrawn n e) : e.Fits := by
  obtain ⟨⟨⟨a1, a2⟩, a3⟩, ⟨b1, b2⟩, ⟨c1, c2⟩⟩ := h
  exact ⟨fun z hz => by have := a3 z hz; omega, ⟨by omega, by omega⟩, ⟨by omega, by omega⟩⟩
theorem order_at {l : List TN} {key : TN → Int} {k : Nat} {x : Int} (h : (sortK (l.map key) l.length)[k]? = some x) : ∃ (a : Nat) (e : TN), x = a ∧ l[a]? = some e ∧ keyOf (l.map key) x = key e := by
  obtain ⟨h1, h2⟩ := sortK_in (l.map key) l.length x (List.mem_of_getElem? h)
  obtain ⟨a, rfl⟩ := Int.eq_ofNat_of_zero_le h1
  have ha := List.getElem?_eq_getElem (show a < l.length by omega)
  exact ⟨a, _, rfl, ha, key_get (by rw [List.getElem?_map, ha]; rfl)⟩
theorem ord_shape {w : World} {lo hi : Nat} {v : Value} {key : TN → Int} {l : List TN} (h : O_Int64S w lo hi v (sortK (l.map key) l.length, (0 : Int)).1) : ∃ A c, v = .slice A l.length c := by
  obtain ⟨⟨A, c, e⟩, _⟩ := h
  dsimp only at e
  rw [sortK_len] at e
  exact ⟨A, c, e⟩
set_option maxRecDepth 100000 in
set_option maxHeartbeats 8000000 in
theorem lOrders_walk (x : List Int) (v : Value) (y : List Int) (u : Value) (w : World) (r : ∃ A c, v = .slice A x.length c ∧ RdB w w.heap.size A x) (nx : x.length ≤ 9223372036854775807) (fx : ∀ z ∈ x, 0 ≤ z ∧ z ≤ 255) (r2 : ∃ A c, u = .slice A y.length c ∧ RdB w w.heap.size A y) (ny : y.length ≤ 9223372036854775807) (fy : ∀ z ∈ y, 0 ≤ z ∧ z ≤ 255) :
    Calls Try.prog 5 #[v, u] w fun e w' => e = .returned (.bool true) ∧ Below w.heap.size w w' := by
  obtain ⟨A, c, rfl, r⟩ := r
  obtain ⟨A2, c2, rfl, r2⟩ := r2
  have HL := hide (a2Long_any x.length y.length A A2 c c2 w nx ny)
  by_cases hlong : 3000 < x.length ∨ 3000 < y.length
  · rw [decide_eq_true hlong] at HL
    clear hlong r r2
    go_enter Try.func5, Try.ntmps5
    go_wp2_with (go_at_call 11; refine (HL.out).mono ?_; rintro e w' ⟨rfl, rfl⟩)
    go_ret
    exact ⟨rfl, Below.refl _ _⟩
  rw [decide_eq_false hlong] at HL
  have HT := hide (a2Times_any x A c w ⟨by omega, fx⟩ r)
  have HW := hide fun n A3 c3 W (hW : Below w.heap.size w W) (hn : 1 ≤ n) (hn6 : n ≤ 1000) => a2Wishes_any y A2 c2 A3 n c3 W ⟨by omega, fy⟩ hn hn6 ((r2.below hW).more hW.size)
  clear hlong r r2 fx fy nx ny
  go_enter Try.func5, Try.ntmps5
  go_wp2_with (first | (go_at_call 11; refine (HL.out).mono ?_; rintro e w' ⟨rfl, rfl⟩) | (go_at_call 12; refine (HT.out).mono ?_; rintro e w1 ⟨A3, c3, ts, rfl, o1, hts, b1⟩))
  have HTS := hide hts
  have hts1 := hts.1.1
  have hts6 := hts.1.2
  clear hts HT HL
  go_wp2_with (go_at_call 21; refine (HW.out _ _ _ _ b1 hts1 (by omega)).mono ?_; rintro e w2 ⟨A4, c4, l, rfl, o2, hl, b2⟩)
  have HVW := hide (drawn_ok HTS.out hl)
  have HFT : Hid (∀ z ∈ ts, -9223372036854775808 ≤ z ∧ z ≤ 9223372036854775807) := fun z hz => by have := HTS.out.2 z hz; omega
  have HFW : Hid (∀ e ∈ l, e.Fits) := fun e he => drawn_fits (by omega) (hl.2 e he)
  have HSM := hide o2.small
  have hl4 := hl.1
  have bw2 : Below w.heap.size w w2 := b1.trans (b2.mono b1.size)
  have o1' := o1.below b2 (Nat.le_refl _)
  have HR1 := hide fun W (hW : Below w2.heap.size w2 W) => (o1'.r.below hW).more hW.size
  have HR2 := hide fun W (hW : Below w2.heap.size w2 W) => (o2.r.below hW).more hW.size
  have HRN := hide o2.r
  have HRD := hide (P_ReadyOrder ts (.slice A3 ts.length c3) l (.slice A4 l.length c4) w2 (by omega) HFT.out o1'.r HSM.out HFW.out o2.r)
  have HDU := hide fun W (hW : Below w2.heap.size w2 W) => P_DueOrder ts (.slice A3 ts.length c3) l (.slice A4 l.length c4) W (by omega) HFT.out (HR1.out W hW) HSM.out HFW.out (HR2.out W hW)
  have HBO := hide fun W (hW : Below w2.heap.size w2 W) => P_BestOrder ts (.slice A3 ts.length c3) l (.slice A4 l.length c4) W (by omega) HFT.out (HR1.out W hW) HSM.out HFW.out (HR2.out W hW)
  have HOR := hide fun key => (show orderOf key ts l = (sortK (l.map key) l.length, 0) by unfold orderOf; exact if_pos HVW.out)
  rw [HOR.out] at HRD
  have HDU2 := hide fun W hW => by have := HDU.out W hW; rw [HOR.out] at this; exact this
  clear hl o1 o2 o1' HW HDU
  go_wp2_with (first | (go_at_call 22; refine (HRD.out).mono ?_; rintro e w3 ⟨vr, rfl, o3, b3⟩; obtain ⟨A5, c5, rfl⟩ := ord_shape o3) | (go_at_call 23; refine (HDU2.out _ b3).mono ?_; rintro e w4 ⟨vd, rfl, o4, b4⟩; obtain ⟨A6, c6, rfl⟩ := ord_shape o4))
  have hz34 := b4.size
  have o3' := o3.below b4 (Nat.le_refl _)
  have HB4 := hide (b3.trans (b4.mono b3.size))
  have HX3 := hide (own_rdI o3')
  have HX4 := hide (own_rdI o4)
  have HO3 := hide o3'
  clear o3 o4 o3' b3 b4
  have HA1 := hide fun (k : Nat) (hk : k < l.length) => hasI_iff.2 (sortK_all (l.map TN.p) l.length k hk)
  have HA2 := hide fun (k : Nat) (hk : k < l.length) => hasI_iff.2 (sortK_all (l.map TN.q) l.length k hk)
  have HC1 := hide fun (k : Nat) => a2Has_any (sortK (l.map TN.p) l.length) k A5 c5 w4 (by rw [sortK_len]; omega) HX3.out
  have HC2 := hide fun (k : Nat) => a2Has_any (sortK (l.map TN.q) l.length) k A6 c6 w4 (by rw [sortK_len]; omega) HX4.out
  rw [sortK_len] at HC1 HC2
  go_loopg [11] l.length (fun g i wr => ∃ k : Nat, k ≤ l.length ∧ Hid (g = l.length - k) ∧ i = .int .i64 k ∧ w4 = wr)
  case atStart => exact ⟨0, by omega, by simp [Hid], rfl, rfl⟩
  case round =>
    obtain ⟨k, hk, hg, rfl, rfl⟩ := hrel
    by_cases hlt : k < l.length
    · have H1 := hide (HC1.out k)
      have H2 := hide (HC2.out k)
      rw [HA1.out k hlt] at H1
      rw [HA2.out k hlt] at H2
      have hkl : (k : Int) < l.length := by omega
      go_wp2_with (go_at_call 24; first | ((with_reducible refine H1.out.mono ?_); rintro e w' ⟨rfl, rfl⟩) | ((with_reducible refine H2.out.mono ?_); rintro e w' ⟨rfl, rfl⟩))
      go_roundg (l.length - (k + 1))
      case measure => have := hg.out; omega
      case rel => exact ⟨k + 1, by omega, rfl, by go_num, rfl⟩
    · clear HC1 HC2 HA1 HA2
      go_wp2_with fail
      go_loopg [12] l.length (fun g i wr => ∃ j : Nat, Hid (g = l.length - j) ∧ i = .int .i64 ((j : Int) + 1) ∧ Hid (Below w4.heap.size w4 wr))
      case atStart => exact ⟨0, by simp [Hid], by simp, hide (Below.refl _ _)⟩
      case round =>
        obtain ⟨j, hg2, rfl, HB⟩ := hrel
        by_cases hlt2 : j + 1 < l.length
        · have bwr := HB4.out.trans (HB.out.mono HB4.out.size)
          obtain ⟨b5, o5, zr, rfl, hb5, hzr, hcr⟩ := (HX3.out.below HB.out).at_ (k := j) (by rw [sortK_len]; omega)
          obtain ⟨b5', o5', zr', hA5, _, hzr', hcr'⟩ := (HX3.out.below HB.out).at_ (k := j + 1) (by rw [sortK_len]; omega)
          cases hA5
          obtain ⟨b6, o6, zd, rfl, hb6, hzd, hcd⟩ := (HX4.out.below HB.out).at_ (k := j) (by rw [sortK_len]; omega)
          obtain ⟨b6', o6', zd', hA6, _, hzd', hcd'⟩ := (HX4.out.below HB.out).at_ (k := j + 1) (by rw [sortK_len]; omega)
          cases hA6
          have hn1 := sortK_next hzr hzr'
          have hn2 := sortK_next hzd hzd'
          obtain ⟨a1, e1, rfl, hea1, hk1⟩ := order_at hzr
          obtain ⟨a2, e2, rfl, hea2, hk2⟩ := order_at hzr'
          obtain ⟨a3, e3, rfl, hea3, hk3⟩ := order_at hzd
          obtain ⟨a4, e4, rfl, hea4, hk4⟩ := order_at hzd'
          unfold ltK at hn1 hn2
          rw [hk1, hk2] at hn1
          rw [hk3, hk4] at hn2
          obtain ⟨Aw, cw, hsw, hRN⟩ := HRN.out
          simp only [Value.slice.injEq] at hsw
          obtain ⟨hsw, _, _⟩ := hsw
          subst hsw
          have hRN2 := hRN.below bwr
          obtain ⟨b7, o7, e1', _, _, rfl, hb7, he1, _, _, hp1, _⟩ := hRN2.at_ (by omega) (lt_of_get hea1)
          obtain ⟨b7a, o7a, e2', _, _, hA7, _, he2, _, _, hp2, _⟩ := hRN2.at_ (by omega) (lt_of_get hea2)
          cases hA7
          obtain ⟨b7a, o7a, e3', _, _, hA7, _, he3, _, _, _, hp3⟩ := hRN2.at_ (by omega) (lt_of_get hea3)
          cases hA7
          obtain ⟨b7a, o7a, e4', _, _, hA7, _, he4, _, _, _, hp4⟩ := hRN2.at_ (by omega) (lt_of_get hea4)
          cases hA7
          obtain rfl := Option.some.inj (he1.symm.trans hea1)
          obtain rfl := Option.some.inj (he2.symm.trans hea2)
          obtain rfl := Option.some.inj (he3.symm.trans hea3)
          obtain rfl := Option.some.inj (he4.symm.trans hea4)
          have c1 : wr.cell? ⟨b7, o7 + a1 * 3 + 1, none⟩ = some (.int .i64 e1'.p) := hp1 (by omega)
          have c2' : wr.cell? ⟨b7, o7 + a2 * 3 + 1, none⟩ = some (.int .i64 e2'.p) := hp2 (by omega)
          have c3' : wr.cell? ⟨b7, o7 + a3 * 3 + 2, none⟩ = some (.int .i64 e3'.q) := hp3 (by omega)
          have c4' : wr.cell? ⟨b7, o7 + a4 * 3 + 2, none⟩ = some (.int .i64 e4'.q) := hp4 (by omega)
          have hl1 : (a1 : Int) < l.length := by have := lt_of_get hea1; omega
          have hl2 : (a2 : Int) < l.length := by have := lt_of_get hea2; omega
          have hl3 : (a3 : Int) < l.length := by have := lt_of_get hea3; omega
          have hl4' : (a4 : Int) < l.length := by have := lt_of_get hea4; omega
          have q1 : (0 : Int) ≤ (a1 : Int) := by omega
          have q2 : (0 : Int) ≤ (a2 : Int) := by omega
          have q3 : (0 : Int) ≤ (a3 : Int) := by omega
          have q4 : (0 : Int) ≤ (a4 : Int) := by omega
          have hj1 : (j : Int) < l.length := by omega
          have hj2 : (j : Int) + 1 < l.length := by omega
          have hj0 : (0 : Int) ≤ (j : Int) := by omega
          have hj3 : (0 : Int) ≤ (j : Int) + 1 := by omega
          have hD1 : decide (e2'.p < e1'.p) = false := decide_eq_false (by omega)
          have hD2 : decide (e4'.q < e3'.q) = false := decide_eq_false (by omega)
          have HN1 := hide hn1
          have HN2 := hide hn2
          clear hn1 hn2 hzr hzr' hzd hzd' hea1 hea2 hea3 hea4 he1 he2 he3 he4 hk1 hk2 hk3 hk4 hp1 hp2 hp3 hp4 hRN hRN2
          have HWR := hide (show IntKind.i64.wrap (j : Int) = (j : Int) by rw [IntKind.wrap_i64] <;> omega)
          by_cases hE1 : e1'.p = e2'.p
          · have hF1 : (e1'.p == e2'.p) = true := by simp [hE1]
            have hG1 : decide (a2 < a1) = false := decide_eq_false (by have := HN1.out; omega)
            have hE1' := hide hE1
            clear hE1
            by_cases hE2 : e3'.q = e4'.q
            · have hF2 : (e3'.q == e4'.q) = true := by simp [hE2]
              have hG2 : decide (a4 < a3) = false := decide_eq_false (by have := HN2.out; omega)
              have hE2' := hide hE2
              clear hE2
              go_wp2_with fail
              have hwr := HWR.out
              go_quiet (fail)
              clear hwr
              go_wp2_with fail
              go_roundg (l.length - (j + 1))
              case measure => have := hg2.out; omega
              case rel => exact ⟨j + 1, rfl, by go_num, hide (bdn HB.out _)⟩
            · have hF2 : (e3'.q == e4'.q) = false := by simp [hE2]
              have hE2' := hide hE2
              clear hE2
              go_wp2_with fail
              have hwr := HWR.out
              go_quiet (fail)
              clear hwr
              go_wp2_with fail
              go_roundg (l.length - (j + 1))
              case measure => have := hg2.out; omega
              case rel => exact ⟨j + 1, rfl, by go_num, hide (bdn HB.out _)⟩
          · have hF1 : (e1'.p == e2'.p) = false := by simp [hE1]
            have hE1' := hide hE1
            clear hE1
            by_cases hE2 : e3'.q = e4'.q
            · have hF2 : (e3'.q == e4'.q) = true := by simp [hE2]
              have hG2 : decide (a4 < a3) = false := decide_eq_false (by have := HN2.out; omega)
              have hE2' := hide hE2
              clear hE2
              go_wp2_with fail
              have hwr := HWR.out
              go_quiet (fail)
              clear hwr
              go_wp2_with fail
              go_roundg (l.length - (j + 1))
              case measure => have := hg2.out; omega
              case rel => exact ⟨j + 1, rfl, by go_num, hide (bdn HB.out _)⟩
            · have hF2 : (e3'.q == e4'.q) = false := by simp [hE2]
              have hE2' := hide hE2
              clear hE2
              go_wp2_with fail
              have hwr := HWR.out
              go_quiet (fail)
              clear hwr
              go_wp2_with fail
              go_roundg (l.length - (j + 1))
              case measure => have := hg2.out; omega
              case rel => exact ⟨j + 1, rfl, by go_num, hide (bdn HB.out _)⟩
        · have bwr := HB4.out.trans (HB.out.mono HB4.out.size)
          have hgo := sortK_good (l.map TN.p) l.length
          have hsl := sortK_len (l.map TN.p) l.length
          have hcd := hgo.code HVW.out hsl
          have HBR := hide (HBO.out _ bwr)
          have HO3r := hide (HO3.out.below HB.out hz34)
          have hle := best_le (late := false) HVW.out hgo hsl
          rw [show valO false ts l (sortK (l.map TN.p) l.length) = dlGo l (plan ts l (sortK (l.map TN.p) l.length)) 0 by unfold valO; exact if_neg (by simp)] at hle
          have HBC := hide (show (bestO false ts l).2.2 = 0 by unfold bestO; rw [if_pos HVW.out])
          have HSQ := hide (show sumOfDelays ts l (sortK (l.map TN.p) l.length) = (dlGo l (plan ts l (sortK (l.map TN.p) l.length)) 0, 0) by unfold sumOfDelays; exact if_pos hcd)
          have HSU := hide fun W (hW : Below wr.heap.size wr W) => P_SumOfDelays ts (.slice A3 ts.length c3) l (.slice A4 l.length c4) (sortK (l.map TN.p) l.length) (.slice A5 l.length c5) W (by omega) HFT.out (HR1.out W (bwr.trans (hW.mono bwr.size))) HSM.out HFW.out (HR2.out W (bwr.trans (hW.mono bwr.size))) (by rw [hsl]; omega) (fun z hz => by have := sortK_in (l.map TN.p) l.length z hz; omega) ⟨A5, c5, by rw [hsl], (own_rdI (HO3r.out.below hW (by have := HB.out.size; omega)))⟩ (cap_of HO3r.out)
          rw [HSQ.out] at HSU
          rw [HBC.out] at HBR
          obtain ⟨_, hle⟩ := hle
          generalize dlGo l (plan ts l (sortK (l.map TN.p) l.length)) 0 = sm at *
          generalize (bestO false ts l).2.1 = bm at *
          have hfin : decide (bm ≤ sm) = true := decide_eq_true hle
          have HB2 := hide (bw2.trans (bwr.mono bw2.size))
          have bz := HB2.out.size
          clear hgo hsl hcd hle HSQ
          go_wp2_with (first | (go_at_call 25; refine (HBR.out).mono ?_; rintro e w5 ⟨vb, rfl, o5, b5⟩) | (go_at_call 26; refine (HSU.out _ b5).mono ?_; rintro e w6 ⟨rfl, b6⟩))
          go_ret
          exact ⟨rfl, HB2.out.trans ((b5.trans (b6.mono b5.size)).mono bz)⟩
theorem fnOrders_own : ownKnob Try.prog.godebug = none := by kernel_rfl
theorem fnOrders_laid : laidOutB Try.prog = true := by kernel_rfl
set_option maxRecDepth 100000 in
theorem fnOrders_lifted (os : Os) (started : os.Started) (H : Type) (enc : TypeId × Value → H) :
    ReturnsInHanded {} Try.checked os 5 .any (Rows.fnOrdersSpec.pre6 enc Try.prog Try.f5 Rows.fnOrdersRow.domain false) (Rows.fnOrdersSpec.post enc Try.prog Try.f5 false true false false) := by
  refine returnsInHanded_of_change (C := Try.checked) fnOrders_own started (by kernel_rfl) Try.func5
    (ChangeSpec.witness6 (enc := enc) (C := Try.checked) false ⟨#[], #[.slice none 0 0, .slice none 0 0], []⟩ 8 (by kernel_rfl) (by kernel_rfl) (by kernel_rfl) (by kernel_rfl)) ?_
  intro W base args ds gs before hval0 hW hcnd _
  have hval : ∀ (j : Nat) t v, Try.f5.params[j]? = some t → args[j]? = some v → Value.okWide Try.prog W .any base t v := hval0
  have hW' := hW
  obtain ⟨p, q, hA0, hV, rfl, hfz, hnd⟩ := hW
  have hA : DataW.TrodAll enc Try.prog W 0 (fun _ => true) true Try.f5.params.toList args.toList ds p := hA0
  rw [Try.params5] at hA hval
  obtain ⟨v0, vs0, d0, ds0, p0, q0, hargs, rfl, rfl, h0, r0⟩ := trodAll_cons hA
  obtain ⟨v1, vs1, d1, ds1, p1, q1, rfl, rfl, rfl, h1, r1⟩ := trodAll_cons r0
  obtain ⟨rfl, rfl, rfl⟩ := trodAll_nil r1
  obtain rfl : args = #[v0, v1] := by cases args; simp_all
  obtain ⟨rfl, rfl⟩ := trodVars_none hV
  have k0 := h0
  have lt0 : ∀ x ∈ p0, x.block < W.heap.size := by obtain ⟨m, hm⟩ := k0; exact DataW.trod_lt m _ _ _ hm
  obtain ⟨A0, c0, zs0, rfl, rd0, len0, bd0⟩ := open_B Try.underlying22 Try.underlying5 (by kernel_rfl) (hval 0 22 v0 rfl rfl) h0
  have k1 := h1
  have lt1 : ∀ x ∈ p1, x.block < W.heap.size := by obtain ⟨m, hm⟩ := k1; exact DataW.trod_lt m _ _ _ hm
  obtain ⟨A1, c1, zs1, rfl, rd1, len1, bd1⟩ := open_B Try.underlying22 Try.underlying5 (by kernel_rfl) (hval 1 22 v1 rfl rfl) h1
  clear hA0 hval0
  refine (lOrders_walk zs0 (.slice A0 zs0.length c0) zs1 (.slice A1 zs1.length c1) W ⟨A0, c0, rfl, rd0⟩ len0 bd0 ⟨A1, c1, rfl, rd1⟩ len1 bd1).mono fun e W' ⟨he, bel⟩ => ?_
  subst he
  exact ⟨_, rfl, _, _, _, [], _, [], hW', trodAll_mk1 (shut_bool Try.underlying4 _), (trodAll_cons_mk (Below.trod fnOrders_laid (by kernel_rfl) (of_decide_eq_true (by kernel_rfl)) k0 bel lt0) (trodAll_cons_mk (Below.trod fnOrders_laid (by kernel_rfl) (of_decide_eq_true (by kernel_rfl)) k1 bel lt1) trodAll_mk0)), rfl, bel.frame _, fun h => by cases h⟩
theorem fnOrders_holds : Rows.FnOrdersSaid :=
  OpenClaim.holds_of_wide 5 Try.f5 rfl rfl rfl rfl rfl rfl rfl ⟨rfl, rfl, rfl, rfl, rfl⟩ rfl rfl rfl rfl rfl (by kernel_rfl) Try.func5 (by kernel_rfl)
    (of_decide_eq_true (by kernel_rfl)) (by unfold Func.isWrapper; first | (rw [if_pos (by decide +kernel)]; kernel_rfl) | (rw [if_neg (by decide +kernel)]; exact ⟨rfl, rfl⟩))
    (fun os started H enc _ => fnOrders_lifted os started H enc)
#print axioms fnOrders_holds
end Go.Proofs.Ytfhociekhffjhaa
