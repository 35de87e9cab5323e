/-
  The law FnRoutes returns true for every input. No condition.
-/
import Derived.Test.YtklfjekpeoigoaaQRoutes12
import Derived.Test.YtklfjekpeoigoaaQRoutes15
import Derived.Test.YtklfjekpeoigoaaQRoutes17
import Derived.Test.YtklfjekpeoigoaaQRoutes9
import Derived.Test.YtklfjekpeoigoaaQRoutes4
import Derived.Test.YtklfjekpeoigoaaRows
import Derived.Test.YtklfjekpeoigoaaQRoutes6
import Derived.ProofKit
import Derived.Deep.DeepCutAuto
import Derived.OpenShut
namespace Go.Proofs.Ytklfjekpeoigoaa
open Go.ChangeShapes Go.WideShapes Go.ChangeAt Go.RowKit

/-- What holds in all worlds from here on. -/
def Fu (w : World) (P : World → Prop) : Prop := ∀ W, Below w.heap.size w W → P W
theorem Fu.step {w w2 : World} {P : World → Prop} (h : Fu w P) (b : Below w.heap.size w w2) : Fu w2 P := fun W hW => h W (b.trans (hW.mono b.size))
theorem Fu.now {w : World} {P : World → Prop} (h : Fu w P) : P w := h w (Below.refl _ _)
theorem fu_below {w0 w : World} (b : Below w0.heap.size w0 w) : Fu w (fun W => Below w0.heap.size w0 W) := fun _ hW => b.trans (hW.mono b.size)
theorem fu_I {w : World} {A : Option Addr} {xs : List Int} (h : RdI w w.heap.size A xs) : Fu w (fun W => RdI W W.heap.size A xs) := fun _ hW => (RdI.below h hW).more hW.size
theorem fu_3 {w : World} {A : Option Addr} {xs : List T3} (h : Rd3 w w.heap.size A xs) : Fu w (fun W => Rd3 W W.heap.size A xs) := fun _ hW => (h.below hW).more hW.size
theorem fu_X {w : World} {b : Nat} {cs : Array Value} {e : TypeId} (h : BoxN w b cs e) : Fu w (fun W => BoxN W b cs e) := fun _ hW => h.below hW h.lt
theorem ends_at {tb : List T3} : ∀ {p : List Int} {v u : Int}, wk tb (-1) p v u → ∀ {z : Int} {t : T3}, p[p.length - 1]? = some z → tb[z.toNat]? = some t → t.b = u := by
  intro p
  induction p with
  | nil => intro v u _ z t hz; simp at hz
  | cons i p ih =>
    rintro v u ⟨h0, h1, t1, ht1, ha, h⟩ z t hz ht
    cases p with
    | nil =>
      have hzi : i = z := by simpa using hz
      subst hzi
      obtain rfl := Option.some.inj (ht.symm.trans ht1)
      exact h
    | cons j q =>
      refine ih h ?_ ht
      simpa using hz
theorem starts_at {tb : List T3} {p : List Int} {v u : Int} (h : wk tb (-1) p v u) {z : Int} {t : T3} (hz : p[0]? = some z) (ht : tb[z.toNat]? = some t) : t.a = v := by
  cases p with
  | nil => simp at hz
  | cons i q =>
    have hzi : i = z := by simpa using hz
    subst hzi
    have h1 := wk_start h
    rw [tubeAt_get ht] at h1
    exact h1.symm
theorem wk_start_in {n : Nat} {tb : List T3} (hok : OkTubes n tb) {p : List Int} {v : Int} {x : Nat} (h : wk tb (-1) p v x) (hx : x < n) : 0 ≤ v ∧ v ≤ (n : Int) - 1 := by
  cases p with
  | nil => have hv : v = (x : Int) := h; omega
  | cons i q =>
    obtain ⟨_, _, t, ht, ha, _⟩ := h
    have := (hok t (List.mem_of_getElem? ht)).1
    omega
set_option maxRecDepth 100000 in
set_option maxHeartbeats 8000000 in
theorem lRoutes_walk (x : List Int) (v : Value) (y : List Int) (u : Value) (w : World) (r : ∃ A c, v = .slice A x.length c ∧ RdB w w.heap.size A x) (nx : x.length ≤ 9223372036854775807) (fx : ∀ z ∈ x, 0 ≤ z ∧ z ≤ 255) (r2 : ∃ A c, u = .slice A y.length c ∧ RdB w w.heap.size A y) (ny : y.length ≤ 9223372036854775807) (fy : ∀ z ∈ y, 0 ≤ z ∧ z ≤ 255) :
    Calls Try.prog 6 #[v, u] w fun e w' => e = .returned (.bool true) ∧ Below w.heap.size w w' := by
  obtain ⟨A, c, rfl, r⟩ := r
  obtain ⟨A9, c9, rfl, r2⟩ := r2
  have HL := hide (a2Long_any x.length y.length A A9 c c9 w nx ny)
  by_cases hlong : 3000 < x.length ∨ 3000 < y.length
  · rw [decide_eq_true hlong] at HL
    clear hlong r r2
    go_enter Try.func6, Try.ntmps6
    go_wp2_with (go_at_call 42; refine (HL.out).mono ?_; rintro e w' ⟨rfl, rfl⟩)
    go_ret
    exact ⟨rfl, Below.refl _ _⟩
  rw [decide_eq_false hlong] at HL
  have HT := hide (a2Net_any x A c w ⟨by omega, fx⟩ r)
  have HBY := hide (show BsOk y from ⟨by omega, fy⟩)
  have HRB := hide r2
  clear r r2 nx fx ny fy hlong
  go_enter Try.func6, Try.ntmps6
  go_upto_region 4 with (first | (go_at_call 42; refine (HL.out).mono ?_; rintro e w' ⟨rfl, rfl⟩) | (go_at_call 43; (with_reducible refine (HT.out).mono ?_); rintro e w1 ⟨n, A2, c2, tb, rfl, hrd, hok, hl14, b1⟩))
  have HOK := hide hok
  obtain ⟨hn2, hn10⟩ := hok.1
  have HTU := hide (okTubes_of hok)
  have X2 := hide (BoxN.new w1 #[.int .i64 n, .slice A2 tb.length c2] 59)
  have HB2 := hide (b1.alloc b1.size (.cells #[.int .i64 n, .slice A2 tb.length c2] 59))
  have b12 : Below w1.heap.size w1 (w1.alloc (.cells #[.int .i64 n, .slice A2 tb.length c2] 59)) := (Below.refl _ _).alloc (Nat.le_refl _) _
  have HR2 := hide ((hrd.below b12).more b12.size)
  clear hrd hok b1 b12 HL HT
  generalize w1.heap.size = gN at *
  generalize w1.alloc (.cells #[.int .i64 n, .slice A2 tb.length c2] 59) = w2 at *
  have FX := hide (fu_X X2.out)
  have FN := hide (fu_3 HR2.out)
  have FB := hide (fu_below HB2.out)
  have x0 := FX.out.now.cell 0
  have x1 := FX.out.now.cell 1
  have HA1 := hide (a2Setting_any n tb y A2 c2 A9 c9 w2 HOK.out FN.out.now HBY.out ((HRB.out.below HB2.out).more HB2.out.size))
  have HA2 := hide fun W (hW : Below w2.heap.size w2 W) => a2Walk_any n tb y A2 c2 A9 c9 W HOK.out (FN.out W hW) HBY.out ((HRB.out.below (FB.out W hW)).more (FB.out W hW).size)
  clear X2 HB2 HR2
  go_upto_region 5 with (go_at_call 44; (with_reducible refine (HA1.out).mono ?_); rintro e w3 ⟨A3, c3, st, rfl, r3, hst, b3⟩)
  clear x0 x1
  have HST := hide hst
  have Fst := hide (fu_I r3)
  have HW3 := hide b3
  replace FX := hide (FX.out.step b3)
  replace FN := hide (FN.out.step b3)
  replace FB := hide (FB.out.step b3)
  have x0 := FX.out.now.cell 0
  have x1 := FX.out.now.cell 1
  clear HA1 r3 hst b3
  go_upto_region 6 with (go_at_call 50; (with_reducible refine (HA2.out _ HW3.out).mono ?_); rintro e w4 ⟨A4, c4, p, rfl, r4, hp4, ⟨xn, hxn, SS, hws⟩, b4⟩)
  obtain ⟨vs, hwk, hS, hnd⟩ := hws
  rw [hS] at hnd
  have Fp := hide (fu_I r4)
  replace FX := hide (FX.out.step b4)
  replace FN := hide (FN.out.step b4)
  replace FB := hide (FB.out.step b4)
  replace Fst := hide (Fst.out.step b4)
  clear x0 x1
  have x0 := FX.out.now.cell 0
  have x1 := FX.out.now.cell 1
  have HWK := hide hwk
  have HND := hide hnd
  have hTok := setW_ok HTU.out hwk HST.out
  have hThas := setW_has HTU.out hwk (List.nodup_append.1 hnd).1 HST.out.1
  have HTOK := hide hTok
  have HT0 := hide (turns_has hThas)
  have HTR := hide (run_has hwk hnd hThas)
  have htb := turnsC_bd tb st p
  have htc0 := htb.1
  have htc1 := htb.2
  have hvs := wk_start_in HTU.out hwk hxn
  have hpn := simple_len HTU.out ⟨hwk, hnd⟩ (u := (xn : Int)) ⟨by omega, by omega⟩
  have HC1 := hide (setWay_any n tb st p vs xn A2 c2 w4 HOK.out FN.out.now A3 c3 HST.out Fst.out.now A4 c4 hwk hnd (by omega) Fp.out.now)
  have HC2 := hide fun W (hW : Below w4.heap.size w4 W) => turnsFor_any n tb st p vs xn A2 c2 W HOK.out (FN.out W hW) A3 c3 HST.out (Fst.out W hW) A4 c4 hwk hnd (by omega) (Fp.out W hW)
  have HC3 := hide fun (A' : Option Addr) (c' : Nat) W (hW : Below w4.heap.size w4 W) (hr : RdI W W.heap.size A' (setW tb p st)) => turnsFor_any n tb (setW tb p st) p vs xn A2 c2 W HOK.out (FN.out W hW) A' c' hTok hr A4 c4 hwk hnd (by omega) (Fp.out W hW)
  rw [HT0.out] at HC3
  have HZ4 := hide (Below.refl w4.heap.size w4)
  clear hwk hnd hS hTok hThas htb r4 b4 HA2 HW3 HRB HBY HT0
  generalize turnsC tb st p = tc at *
  generalize setW tb p st = T at *
  go_upto_region 7 with (go_at_call 53; (with_reducible refine (HC1.out).mono ?_); rintro e w5 ⟨A5, c5, rfl, r5, b5⟩)
  have FT := hide (fu_I r5)
  replace FX := hide (FX.out.step b5)
  replace FN := hide (FN.out.step b5)
  replace FB := hide (FB.out.step b5)
  replace Fst := hide (Fst.out.step b5)
  replace Fp := hide (Fp.out.step b5)
  clear x0 x1
  have x0 := FX.out.now.cell 0
  have x1 := FX.out.now.cell 1
  replace HZ4 := hide (HZ4.out.trans (b5.mono HZ4.out.size))
  clear r5 b5 HC1
  go_upto_region 8 with (go_at_call 49; (with_reducible refine (HC2.out _ HZ4.out).mono ?_); rintro e w6 ⟨rfl, b6⟩)
  replace FX := hide (FX.out.step b6)
  replace FN := hide (FN.out.step b6)
  replace FB := hide (FB.out.step b6)
  replace Fst := hide (Fst.out.step b6)
  replace Fp := hide (Fp.out.step b6)
  replace FT := hide (FT.out.step b6)
  clear x0 x1
  have x0 := FX.out.now.cell 0
  have x1 := FX.out.now.cell 1
  replace HZ4 := hide (HZ4.out.trans (b6.mono HZ4.out.size))
  clear b6 HC2
  have HC3' := hide (HC3.out A5 c5 w6 HZ4.out FT.out.now)
  go_upto_region 9 with (go_at_call 49; (with_reducible refine (HC3'.out).mono ?_); rintro e w7 ⟨rfl, b7⟩)
  replace FX := hide (FX.out.step b7)
  replace FN := hide (FN.out.step b7)
  replace FB := hide (FB.out.step b7)
  replace Fst := hide (Fst.out.step b7)
  replace Fp := hide (Fp.out.step b7)
  replace FT := hide (FT.out.step b7)
  clear x0 x1
  have x0 := FX.out.now.cell 0
  have x1 := FX.out.now.cell 1
  clear b7 HC3 HC3' HZ4
  have HV := hide (specValidSetting_any n tb T A2 c2 w7 HOK.out FN.out.now A5 c5 HTOK.out FT.out.now)
  have hd1 : decide (tc < 0) = false := decide_eq_false (by omega)
  have hd2 : decide ((p.length : Int) < tc) = false := decide_eq_false (by omega)
  go_upto_region 11 with (go_at_call 54; (with_reducible refine (HV.out).mono ?_); rintro e w8 ⟨rfl, b8⟩)
  replace FX := hide (FX.out.step b8)
  replace FN := hide (FN.out.step b8)
  replace FB := hide (FB.out.step b8)
  replace Fst := hide (Fst.out.step b8)
  replace Fp := hide (Fp.out.step b8)
  replace FT := hide (FT.out.step b8)
  clear x0 x1
  have x0 := FX.out.now.cell 0
  have x1 := FX.out.now.cell 1
  clear b8 HV hd1 hd2 htc0 htc1
  have HRT := hide fun W (hW : Below w8.heap.size w8 W) => routeOf_any n tb T p vs xn A2 c2 W HOK.out (FN.out W hW) A5 c5 HTOK.out (FT.out W hW) HTR.out (by omega) hvs (by omega)
  go_upto_if 91 with fail
  go_cut [] (fun wx => Hid (Below w8.heap.size w8 wx))
  case first =>
    by_cases hp0 : 0 < p.length
    · have hpi : (0 : Int) < (p.length : Int) := by omega
      obtain ⟨b3, o3, z, rfl, hb3, hz, hc3⟩ := Fp.out.now.at_ hp0
      obtain ⟨hzz, t, ht⟩ := wk_get HWK.out hz
      have hta := starts_at HWK.out hz ht
      obtain ⟨zn, rfl⟩ := Int.eq_ofNat_of_zero_le hzz
      rw [Int.toNat_natCast] at ht
      have hzt : zn < tb.length := lt_of_get ht
      obtain ⟨b4, o4, t', rfl, hb4, ht', c0, d1, d2⟩ := FN.out.now.at_ hzt
      obtain rfl := Option.some.inj (ht.symm.trans ht')
      rw [hta] at c0
      obtain ⟨b5, o5, z2, hA5, _, hz2, hc5⟩ := Fp.out.now.at_ (k := p.length - 1) (by omega)
      simp only [Option.some.injEq, Addr.mk.injEq, and_true] at hA5
      obtain ⟨rfl, rfl⟩ := hA5
      obtain ⟨hzz2, t2, ht2⟩ := wk_get HWK.out hz2
      have htb2 := ends_at HWK.out hz2 ht2
      obtain ⟨zn2, rfl⟩ := Int.eq_ofNat_of_zero_le hzz2
      rw [Int.toNat_natCast] at ht2
      have hzt2 : zn2 < tb.length := lt_of_get ht2
      obtain ⟨b6, o6, t2', hA6, _, ht2', d3, c1, d4⟩ := FN.out.now.at_ hzt2
      simp only [Option.some.injEq, Addr.mk.injEq, and_true] at hA6
      obtain ⟨rfl, rfl⟩ := hA6
      obtain rfl := Option.some.inj (ht2.symm.trans ht2')
      rw [htb2] at c1
      have hzi : (zn : Int) < (tb.length : Int) := by omega
      have hzi2 : (zn2 : Int) < (tb.length : Int) := by omega
      have hlast : ((p.length : Int) - 1) = ((p.length - 1 : Nat) : Int) := by omega
      have e2 : w8.cell? ⟨b3, o3, none⟩ = some (.int .i64 (zn : Int)) := hc3
      clear hc3 hz ht ht' hta hz2 ht2 ht2' htb2 d1 d2 d3 d4
      go_wp2_with fail
      go_quiet (fail)
      go_upto_region 13 with fail
      have bq := hide (bdn (Below.refl w8.heap.size w8) nq)
      have y0 : (w8.drewN nq).cell? ⟨gN, 0, none⟩ = some (.int .i64 n) := x0
      have y1 : (w8.drewN nq).cell? ⟨gN, 1, none⟩ = some (.slice (some ⟨b4, o4, none⟩) tb.length c2) := x1
      have e5 : (w8.drewN nq).cell? ⟨b3, o3 + (p.length - 1), none⟩ = some (.int .i64 (zn2 : Int)) := hc5
      have e6 : (w8.drewN nq).cell? ⟨b4, o4 + zn2 * 3 + 1, none⟩ = some (.int .i64 (xn : Int)) := c1
      generalize w8.drewN nq = wq at *
      clear x0 x1 e2 c0 hc5 c1
      go_quiet (fail)
      go_upto_region 14 with fail
      have bq2 := hide (bdn bq.out nq)
      have u0 : (wq.drewN nq).cell? ⟨gN, 0, none⟩ = some (.int .i64 n) := y0
      have u1 : (wq.drewN nq).cell? ⟨gN, 1, none⟩ = some (.slice (some ⟨b4, o4, none⟩) tb.length c2) := y1
      generalize wq.drewN nq = wp at *
      clear y0 y1 e5 e6
      go_upto_region 15 with (go_at_call 55; (with_reducible refine (HRT.out _ bq2.out).mono ?_); rintro e w10 ⟨A10, c10, rfl, r10, b10⟩)
      have bq3 := hide (bq2.out.trans (b10.mono bq2.out.size))
      have HSM := hide (a2SameW_any p A10 (some ⟨b3, o3, none⟩) c10 c4 w10 (by omega) r10 (Fp.out _ bq3.out))
      clear r10 b10 u0 u1
      go_wp2_with (go_at_call 56; (with_reducible refine (HSM.out).mono ?_); rintro e w11 ⟨rfl, ⟨m11, rfl⟩⟩)
      go_meet
      exact bdn bq3.out _
    · have hpi : ¬ (0 : Int) < (p.length : Int) := by omega
      go_wp2_with fail
      go_meet
      exact Below.refl _ _
  case rest =>
    have Z8 : Hid (Below w8.heap.size w8 wc) := hcut
    replace FX := hide (FX.out.step Z8.out)
    replace FN := hide (FN.out.step Z8.out)
    replace FB := hide (FB.out.step Z8.out)
    replace Fst := hide (Fst.out.step Z8.out)
    clear x0 x1
    have x0 := FX.out.now.cell 0
    have x1 := FX.out.now.cell 1
    have HCI := hide (circle_any n tb st A2 c2 wc HOK.out FN.out.now A3 c3 HST.out Fst.out.now)
    have HCR := hide (circ_rises (n := n) (tb := tb) (S := st))
    have HCM := hide fun (i : Nat) (hi : i < n) => circ_mem (tb := tb) (S := st) hi
    have hcl := circ_len (n := n) (tb := tb) (S := st)
    clear HRT Fp FT HWK HND HTOK HTR Z8 hcut
    generalize circL n tb st = cl at *
    go_upto_region 18 with (go_at_call 57; (with_reducible refine (HCI.out).mono ?_); rintro e w9 ⟨A6, c6, rfl, r6, b9⟩)
    have FC := hide (fu_I r6)
    replace FX := hide (FX.out.step b9)
    replace FN := hide (FN.out.step b9)
    replace FB := hide (FB.out.step b9)
    replace Fst := hide (Fst.out.step b9)
    clear x0 x1
    have x0 := FX.out.now.cell 0
    have x1 := FX.out.now.cell 1
    have HRI := hide (a2Rises_any cl n A6 c6 w9 (by omega) HCR.out FC.out.now)
    clear r6 b9 HCI
    go_upto_region 20 with (go_at_call 58; (with_reducible refine (HRI.out).mono ?_); rintro e w10 ⟨rfl, b10⟩)
    replace FX := hide (FX.out.step b10)
    replace FN := hide (FN.out.step b10)
    replace FB := hide (FB.out.step b10)
    replace Fst := hide (Fst.out.step b10)
    replace FC := hide (FC.out.step b10)
    clear x0 x1
    have x0 := FX.out.now.cell 0
    have x1 := FX.out.now.cell 1
    clear b10 HRI HCR
    go_wp2_with fail
    go_loopg [20] n (fun g i wr => ∃ j : Nat, j ≤ n ∧ Hid (g = n - j) ∧ i = .int .i64 j ∧ Hid (Below w10.heap.size w10 wr))
    case atStart => exact ⟨0, by omega, by simp [Hid], rfl, Below.refl _ _⟩
    case round =>
      obtain ⟨j, hj, hgj, rfl, HB⟩ := hrel
      clear x0 x1
      have x0 := (FX.out wr HB.out).cell 0
      have x1 := (FX.out wr HB.out).cell 1
      by_cases hjn : j < n
      · have hjn' : (j : Int) < (n : Int) := by omega
        have hE := endOfS_any n tb st (j : Int) A2 c2 wr HOK.out (FN.out wr HB.out) A3 c3 HST.out (Fst.out wr HB.out) (by omega)
        have hA := fun W (hW : Below w10.heap.size w10 W) => a2Has_any cl (j : Int) A6 c6 W (by omega) (FC.out W hW)
        rw [HCM.out j hjn] at hA
        rcases stopN_cases HTU.out HST.out n (j : Int) (by omega) (by omega) with hs | ⟨⟨hs0, hs1⟩, hd, q, hrun, hql⟩
        · rw [if_pos (by omega)] at hE
          rw [decide_eq_true (by omega)] at hA
          have HE := hide hE
          have HA := hide hA
          clear hE hA hs
          as_aux_lemma =>
            go_wp2_with (first
              | (go_at_call 59; (with_reducible refine (HE.out).mono ?_); rintro e w11 ⟨rfl, b11⟩; have Z11 := hide (HB.out.trans (b11.mono HB.out.size)))
              | (go_at_call 60; (with_reducible refine (HA.out _ Z11.out).mono ?_); rintro e w' ⟨rfl, rfl⟩))
            go_roundg (n - (j + 1))
            case measure => have := hgj.out; omega
            case rel => exact ⟨j + 1, by omega, rfl, by go_num, Z11⟩
        · rw [if_neg (by omega)] at hE
          rw [decide_eq_false (by omega)] at hA
          generalize stopN tb st n (j : Int) = s at *
          obtain ⟨sn, rfl⟩ := Int.eq_ofNat_of_zero_le hs0
          have hwk := run_wk HTU.out HST.out (by omega) (by omega) hrun
          have HE := hide hE
          have HA := hide hA
          have hsl : sn < st.length := by have := HST.out.1; omega
          have HRO := hide fun W (hW : Below w10.heap.size w10 W) => routeOf_any n tb st q (j : Int) (sn : Int) A2 c2 W HOK.out (FN.out W hW) A3 c3 HST.out (Fst.out W hW) hrun (by omega) (by omega) (by omega)
          have HIW := hide fun (A' : Option Addr) (c' : Nat) W (hW : Below w10.heap.size w10 W) (hr : RdI W W.heap.size A' q) => isWay_any n tb q (j : Int) (sn : Int) A2 c2 W HOK.out (FN.out W hW) A' c' hwk (by omega) (by omega) (by omega) hr
          have hsi : (sn : Int) < (st.length : Int) := by omega
          clear hE hA hrun hwk
          as_aux_lemma =>
            go_upto_region 24 with (go_at_call 59; (with_reducible refine (HE.out).mono ?_); rintro e w11 ⟨rfl, b11⟩)
            have Z11 := hide (HB.out.trans (b11.mono HB.out.size))
            clear x0 x1 b11 HE
            have x0 := (FX.out w11 Z11.out).cell 0
            have x1 := (FX.out w11 Z11.out).cell 1
            obtain ⟨b7, o7, yv, rfl, _, hyv, hcv⟩ := (Fst.out w11 Z11.out).at_ hsl
            have hyv1 : yv = -1 := by rw [← hd]; simp [dAt, hyv]
            subst hyv1
            clear hyv hd
            go_upto_region 30 with (first
              | (go_at_call 60; (with_reducible refine (HA.out _ Z11.out).mono ?_); rintro e w' ⟨rfl, rfl⟩)
              | (go_at_call 55; (with_reducible refine (HRO.out _ Z11.out).mono ?_); rintro e w12 ⟨A12, c12, rfl, r12, b12⟩))
            have Z12 := hide (Z11.out.trans (b12.mono Z11.out.size))
            clear x0 x1 hcv
            have x0 := (FX.out w12 Z12.out).cell 0
            have x1 := (FX.out w12 Z12.out).cell 1
            have HIX := hide (HIW.out A12 c12 w12 Z12.out r12)
            clear r12 b12 HRO HIW HA
            go_wp2_with (go_at_call 48; (with_reducible refine (HIX.out).mono ?_); rintro e w13 ⟨rfl, b13⟩)
            have Z13 := hide (Z12.out.trans (b13.mono Z12.out.size))
            go_roundg (n - (j + 1))
            case measure => have := hgj.out; omega
            case rel => exact ⟨j + 1, by omega, rfl, by go_num, Z13⟩
      · obtain rfl : j = n := by omega
        go_wp2_with fail
        go_ret
        exact ⟨rfl, FB.out wr HB.out⟩
theorem fnRoutes_own : ownKnob Try.prog.godebug = none := by kernel_rfl
theorem fnRoutes_laid : laidOutB Try.prog = true := by kernel_rfl
set_option maxRecDepth 100000 in
theorem fnRoutes_lifted (os : Os) (started : os.Started) (H : Type) (enc : TypeId × Value → H) :
    ReturnsInHanded {} Try.checked os 6 .any (Rows.fnRoutesSpec.pre6 enc Try.prog Try.f6 Rows.fnRoutesRow.domain false) (Rows.fnRoutesSpec.post enc Try.prog Try.f6 false true false false) := by
  refine returnsInHanded_of_change (C := Try.checked) fnRoutes_own started (by kernel_rfl) Try.func6
    (ChangeSpec.witness6 (enc := enc) (C := Try.checked) false ⟨#[], #[.slice none 0 0, .slice none 0 0], []⟩ 8 (by kernel_rfl) (by kernel_rfl) (by kernel_rfl) (by kernel_rfl)) ?_
  intro W base args ds gs before hval0 hW hcnd _
  have hval : ∀ (j : Nat) t v, Try.f6.params[j]? = some t → args[j]? = some v → Value.okWide Try.prog W .any base t v := hval0
  have hW' := hW
  obtain ⟨p, q, hA0, hV, rfl, hfz, hnd⟩ := hW
  have hA : DataW.TrodAll enc Try.prog W 0 (fun _ => true) true Try.f6.params.toList args.toList ds p := hA0
  rw [Try.params6] at hA hval
  obtain ⟨v0, vs0, d0, ds0, p0, q0, hargs, rfl, rfl, h0, r0⟩ := trodAll_cons hA
  obtain ⟨v1, vs1, d1, ds1, p1, q1, rfl, rfl, rfl, h1, r1⟩ := trodAll_cons r0
  obtain ⟨rfl, rfl, rfl⟩ := trodAll_nil r1
  obtain rfl : args = #[v0, v1] := by cases args; simp_all
  obtain ⟨rfl, rfl⟩ := trodVars_none hV
  have k0 := h0
  have lt0 : ∀ x ∈ p0, x.block < W.heap.size := by obtain ⟨m, hm⟩ := k0; exact DataW.trod_lt m _ _ _ hm
  obtain ⟨A0, c0, zs0, rfl, rd0, len0, bd0⟩ := open_B Try.underlying36 Try.underlying5 (by kernel_rfl) (hval 0 36 v0 rfl rfl) h0
  have k1 := h1
  have lt1 : ∀ x ∈ p1, x.block < W.heap.size := by obtain ⟨m, hm⟩ := k1; exact DataW.trod_lt m _ _ _ hm
  obtain ⟨A1, c1, zs1, rfl, rd1, len1, bd1⟩ := open_B Try.underlying36 Try.underlying5 (by kernel_rfl) (hval 1 36 v1 rfl rfl) h1
  clear hA0 hval0
  refine (lRoutes_walk zs0 (.slice A0 zs0.length c0) zs1 (.slice A1 zs1.length c1) W ⟨A0, c0, rfl, rd0⟩ len0 bd0 ⟨A1, c1, rfl, rd1⟩ len1 bd1).mono fun e W' ⟨he, bel⟩ => ?_
  subst he
  exact ⟨_, rfl, _, _, _, [], _, [], hW', trodAll_mk1 (shut_bool Try.underlying4 _), (trodAll_cons_mk (Below.trod fnRoutes_laid (by kernel_rfl) (of_decide_eq_true (by kernel_rfl)) k0 bel lt0) (trodAll_cons_mk (Below.trod fnRoutes_laid (by kernel_rfl) (of_decide_eq_true (by kernel_rfl)) k1 bel lt1) trodAll_mk0)), rfl, bel.frame _, fun h => by cases h⟩
theorem fnRoutes_holds : Rows.FnRoutesSaid :=
  OpenClaim.holds_of_wide 6 Try.f6 rfl rfl rfl rfl rfl rfl rfl ⟨rfl, rfl, rfl, rfl, rfl⟩ rfl rfl rfl rfl rfl (by kernel_rfl) Try.func6 (by kernel_rfl)
    (of_decide_eq_true (by kernel_rfl)) (by unfold Func.isWrapper; first | (rw [if_pos (by decide +kernel)]; kernel_rfl) | (rw [if_neg (by decide +kernel)]; exact ⟨rfl, rfl⟩))
    (fun os started H enc _ => fnRoutes_lifted os started H enc)
#print axioms fnRoutes_holds
end Go.Proofs.Ytklfjekpeoigoaa
