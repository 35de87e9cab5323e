/-
  The law FnTurns returns true for every input. No condition.
-/
import Derived.Test.YtlkccijlbeibjaaQTurns8
import Derived.Test.YtlkccijlbeibjaaQTurns11
import Derived.Test.YtlkccijlbeibjaaQTurns13
import Derived.Test.YtlkccijlbeibjaaQTurns10
import Derived.Test.YtlkccijlbeibjaaQTurns14
import Derived.Test.YtlkccijlbeibjaaQTurns16
import Derived.Test.YtlkccijlbeibjaaQTurns6
import Derived.Test.YtlkccijlbeibjaaQTurns2
import Derived.Test.YtlkccijlbeibjaaRows
import Derived.Test.YtlkccijlbeibjaaQTurns4
import Derived.ProofKit
import Derived.Deep.DeepCutAuto
import Derived.OpenShut
namespace Go.Proofs.Ytlkccijlbeibjaa
open Go.ChangeShapes Go.WideShapes Go.ChangeAt Go.RowKit

/-- What holds in all worlds from here on. -/
def Fu (w : World) (P : World → Prop) : Prop := ∀ W, Below w.heap.size w W → P W
theorem Fu.step {w w2 : World} {P : World → Prop} (h : Fu w P) (b : Below w.heap.size w w2) : Fu w2 P := fun W hW => h W (b.trans (hW.mono b.size))
theorem Fu.now {w : World} {P : World → Prop} (h : Fu w P) : P w := h w (Below.refl _ _)
theorem fu_below {w0 w : World} (b : Below w0.heap.size w0 w) : Fu w (fun W => Below w0.heap.size w0 W) := fun _ hW => b.trans (hW.mono b.size)
theorem fu_I {w : World} {A : Option Addr} {xs : List Int} (h : RdI w w.heap.size A xs) : Fu w (fun W => RdI W W.heap.size A xs) := fun _ hW => (RdI.below h hW).more hW.size
theorem fu_3 {w : World} {A : Option Addr} {xs : List T3} (h : Rd3 w w.heap.size A xs) : Fu w (fun W => Rd3 W W.heap.size A xs) := fun _ hW => (h.below hW).more hW.size
theorem fu_X {w : World} {b : Nat} {cs : Array Value} {e : TypeId} (h : BoxN w b cs e) : Fu w (fun W => BoxN W b cs e) := fun _ hW => h.below hW h.lt
theorem codes_meet {tb : List T3} {st : List Int} {v td : Int} {q P : List Int} {tn cd cd2 : Int} (h : FewR tb st v td q tn cd) (k : CodeR tb v td cd2) (hs : cd2 = 0 → Simple tb P v td) : cd = cd2 := by
  rcases h with ⟨rfl, h, _⟩ | ⟨rfl, h⟩ <;> rcases k with ⟨rfl, _⟩ | ⟨rfl, k⟩
  · rfl
  · exact absurd ⟨q, h.1⟩ k
  · exact absurd ⟨P, hs rfl⟩ h
  · rfl
theorem fit_law {tb : List T3} {a b : List Int} {A B : Option Addr} {c d : Nat} {f : Bool} (h : FitR tb [(A, c, a), (B, d, b), (A, c, a)] f) (haa : clash tb a a = -1) (hab : clash tb b a = clash tb a b) (hbd : -1 ≤ clash tb a b) : f = (clash tb a b == (-1 : Int)) := by
  have e : (∀ (i k : Nat) (x y : Option Addr × Nat × List Int), k < i → [(A, c, a), (B, d, b), (A, c, a)][i]? = some x → [(A, c, a), (B, d, b), (A, c, a)][k]? = some y → clash tb x.2.2 y.2.2 < 0) ↔ clash tb a b = -1 := by
    constructor
    · intro h
      have := h 1 0 _ _ (by decide) rfl rfl
      dsimp only at this
      omega
    · intro hc i k x y hk hx hy
      match i, k, hk, hx, hy with
      | 0, k, hk, _, _ => omega
      | 1, 0, _, hx, hy => cases hx; cases hy; dsimp only; omega
      | 1, k + 1, hk, _, _ => omega
      | 2, 0, _, hx, hy => cases hx; cases hy; dsimp only; omega
      | 2, 1, _, hx, hy => cases hx; cases hy; dsimp only; omega
      | 2, k + 2, hk, _, _ => omega
      | i + 3, _, _, hx, _ => simp at hx
  have h2 := h.trans e
  by_cases hc : clash tb a b = -1
  · rw [h2.2 hc, hc]; rfl
  · have : f = false := by
      cases f
      · rfl
      · exact absurd (h2.1 rfl) hc
    rw [this]
    symm
    rw [beq_eq_false_iff_ne]
    exact hc
set_option maxRecDepth 100000 in
set_option maxHeartbeats 8000000 in
theorem lTurns_walk (x : List Int) (v : Value) (y : List Int) (u : Value) (w : World) (r : ∃ A c, v = .slice A x.length c ∧ RdB w w.heap.size A x) (nx : x.length ≤ 9223372036854775807) (fx : ∀ z ∈ x, 0 ≤ z ∧ z ≤ 255) (r2 : ∃ A c, u = .slice A y.length c ∧ RdB w w.heap.size A y) (ny : y.length ≤ 9223372036854775807) (fy : ∀ z ∈ y, 0 ≤ z ∧ z ≤ 255) :
    Calls Try.prog 4 #[v, u] w fun e w' => e = .returned (.bool true) ∧ Below w.heap.size w w' := by
  obtain ⟨A, c, rfl, r⟩ := r
  obtain ⟨A9, c9, rfl, r2⟩ := r2
  have HL := hide (a2Long_any x.length y.length A A9 c c9 w nx ny)
  by_cases hlong : 3000 < x.length ∨ 3000 < y.length
  · rw [decide_eq_true hlong] at HL
    clear hlong r r2
    go_enter Try.func4, Try.ntmps4
    go_wp2_with (go_at_call 15; refine (HL.out).mono ?_; rintro e w' ⟨rfl, rfl⟩)
    go_ret
    exact ⟨rfl, Below.refl _ _⟩
  rw [decide_eq_false hlong] at HL
  have HT := hide (a2Net_any x A c w ⟨by omega, fx⟩ r)
  have HBX := hide (show BsOk x from ⟨by omega, fx⟩)
  have HBY := hide (show BsOk y from ⟨by omega, fy⟩)
  have HRA := hide r
  have HRB := hide r2
  clear r r2 nx fx ny fy hlong
  go_enter Try.func4, Try.ntmps4
  go_upto_region 4 with (first | (go_at_call 15; refine (HL.out).mono ?_; rintro e w' ⟨rfl, rfl⟩) | (go_at_call 16; (with_reducible refine (HT.out).mono ?_); rintro e w1 ⟨n, A2, c2, tb, rfl, hrd, hok, hl14, b1⟩))
  have HOK := hide hok
  obtain ⟨hn2, hn10⟩ := hok.1
  have HTU := hide (ok_tubes hok)
  have X2 := hide (BoxN.new w1 #[.int .i64 n, .slice A2 tb.length c2] 44)
  have HB2 := hide (b1.alloc b1.size (.cells #[.int .i64 n, .slice A2 tb.length c2] 44))
  have b12 : Below w1.heap.size w1 (w1.alloc (.cells #[.int .i64 n, .slice A2 tb.length c2] 44)) := (Below.refl _ _).alloc (Nat.le_refl _) _
  have HR2 := hide ((hrd.below b12).more b12.size)
  clear hrd hok b1 b12 HL HT
  generalize w1.heap.size = gN at *
  generalize w1.alloc (.cells #[.int .i64 n, .slice A2 tb.length c2] 44) = w2 at *
  have FX := hide (fu_X X2.out)
  have FN := hide (fu_3 HR2.out)
  have FB := hide (fu_below HB2.out)
  have x0 := FX.out.now.cell 0
  have x1 := FX.out.now.cell 1
  have HA1 := hide (a2Setting_any n tb y A2 c2 A9 c9 w2 HOK.out FN.out.now HBY.out ((HRB.out.below HB2.out).more HB2.out.size))
  clear X2 HB2 HR2
  go_upto_region 5 with (go_at_call 17; (with_reducible refine (HA1.out).mono ?_); rintro e w3 ⟨A3, c3, st, rfl, r3, hst, b3⟩)
  have HST := hide hst
  have Fst := hide (fu_I r3)
  clear r3 hst HA1
  replace FX := hide (FX.out.step b3)
  replace FN := hide (FN.out.step b3)
  replace FB := hide (FB.out.step b3)
  clear x0 x1 b3
  have x0 := FX.out.now.cell 0
  have x1 := FX.out.now.cell 1
  have HT0 := hide (a2At_any y A9 c9 0 n w3 HBY.out ((HRB.out.below FB.out.now).more FB.out.now.size))
  have HT1 := hide (a2At_any y A9 c9 1 n w3 HBY.out ((HRB.out.below FB.out.now).more FB.out.now.size))
  have e0 : ((0 : Nat) : Int) = 0 := rfl
  have e1 : ((1 : Nat) : Int) = 1 := rfl
  rw [e0] at HT0
  rw [e1] at HT1
  clear e0 e1
  go_upto_region 7 with (first | (go_at_call 18; (with_reducible refine (HT0.out).mono ?_); rintro e w' ⟨fr, rfl, ⟨hf0, hf1⟩, rfl⟩) | (go_at_call 18; (with_reducible refine (HT1.out).mono ?_); rintro e w' ⟨dst, rfl, ⟨ht0, ht1⟩, rfl⟩))
  replace hf1 := hf1 (by omega)
  replace ht1 := ht1 (by omega)
  obtain ⟨fn, rfl⟩ := Int.eq_ofNat_of_zero_le hf0
  obtain ⟨dn, rfl⟩ := Int.eq_ofNat_of_zero_le ht0
  clear HT0 HT1 hf0 ht0
  have hfn : fn < n := by omega
  have hdn : dn < n := by omega
  have HF := hide (fewest_any n tb st fn dn A2 c2 w3 HOK.out hfn hdn FN.out.now A3 c3 HST.out Fst.out.now)
  have HSW := hide fun W (hW : Below w3.heap.size w3 W) => specShortestWay_any n tb fn dn A2 c2 W HOK.out hfn hdn (FN.out W hW)
  go_upto_region 8 with (go_at_call 19; (with_reducible refine (HF.out).mono ?_); rintro e w4 ⟨q, A4, c4, tn, cd, rfl, r4, hfew, b4⟩)
  have Fq := hide (fu_I r4)
  have HFEW := hide hfew
  have HB4 := hide b4
  clear r4 hfew HF
  replace FX := hide (FX.out.step b4)
  replace FN := hide (FN.out.step b4)
  replace FB := hide (FB.out.step b4)
  replace Fst := hide (Fst.out.step b4)
  clear x0 x1 b4
  have x0 := FX.out.now.cell 0
  have x1 := FX.out.now.cell 1
  go_upto_region 9 with (go_at_call 20; (with_reducible refine (HSW.out _ HB4.out).mono ?_); rintro e w5 ⟨P, A5, c5, cd2, rfl, r5, hcr, hsp, b5⟩)
  have FP := hide (fu_I r5)
  have HCD := hide (codes_meet HFEW.out hcr hsp)
  have hcd := HCD.out
  subst hcd
  have HSP := hide hsp
  clear r5 hcr hsp HSW HB4 HCD
  replace FX := hide (FX.out.step b5)
  replace FN := hide (FN.out.step b5)
  replace FB := hide (FB.out.step b5)
  replace Fst := hide (Fst.out.step b5)
  replace Fq := hide (Fq.out.step b5)
  clear x0 x1 b5
  have x0 := FX.out.now.cell 0
  have x1 := FX.out.now.cell 1
  go_upto_if 66 with (fail)
  go_cut [] (fun wx => Hid (Below w5.heap.size w5 wx))
  case first =>
    by_cases h0 : cd = 0
    case neg =>
      have hB0 : (cd == 0) = false := by simpa using h0
      go_wp2_with fail
      go_meet
      exact hide (Below.refl _ _)
    have hfw : Simple tb q fn dn ∧ tn = turnsC tb st q ∧ ∀ p, Simple tb p fn dn → tn ≤ turnsC tb st p := by
      rcases HFEW.out with h | h
      · exact h.2
      · omega
    obtain ⟨hq, htn, hle⟩ := hfw
    have hP := HSP.out h0
    have hqn := simple_len HTU.out hq (by omega)
    have hPn := simple_len HTU.out hP (by omega)
    have hle2 : ¬ turnsC tb st P < tn := by have := hle P hP; omega
    subst htn
    have hB0 : (cd == 0) = true := by simpa using h0
    have H0 := hide h0
    clear h0
    have HI1 := hide (isWay_any n tb q fn dn A2 c2 w5 HOK.out FN.out.now A4 c4 hq.1 (by omega) (by omega) (by omega) Fq.out.now)
    have HO1 := hide fun W (hW : Below w5.heap.size w5 W) => turnsFor_any n tb st q fn dn A2 c2 W HOK.out (FN.out W hW) A3 c3 HST.out (Fst.out W hW) A4 c4 hq.1 hq.2 (by omega) (Fq.out W hW)
    have HO2 := hide fun W (hW : Below w5.heap.size w5 W) => turnsFor_any n tb st P fn dn A2 c2 W HOK.out (FN.out W hW) A3 c3 HST.out (Fst.out W hW) A5 c5 hP.1 hP.2 (by omega) (FP.out W hW)
    have hB1 : decide (turnsC tb st P < turnsC tb st q) = false := decide_eq_false hle2
    have hB2 : turnsC tb st q ≤ turnsC tb st P := by omega
    clear hq hle hP hqn hPn hle2 HFEW HSP
    generalize turnsC tb st q = tq at *
    generalize turnsC tb st P = tP at *
    go_upto_region 13 with (go_at_call 21; (with_reducible refine (HI1.out).mono ?_); rintro e w6 ⟨rfl, b6⟩)
    have HB6 := hide b6
    clear x0 x1 b6
    have x0 := (FX.out w6 HB6.out).cell 0
    have x1 := (FX.out w6 HB6.out).cell 1
    go_upto_region 14 with (go_at_call 22; (with_reducible refine (HO1.out _ HB6.out).mono ?_); rintro e w7 ⟨rfl, b7⟩)
    have HB7 := hide (HB6.out.trans (b7.mono HB6.out.size))
    clear x0 x1 b7 HO1
    have x0 := (FX.out w7 HB7.out).cell 0
    have x1 := (FX.out w7 HB7.out).cell 1
    go_upto_region 15 with (go_at_call 22; (with_reducible refine (HO2.out _ HB7.out).mono ?_); rintro e w8 ⟨rfl, b8⟩)
    have HB8 := hide (HB7.out.trans (b8.mono HB7.out.size))
    clear x0 x1 b8 HO2
    go_wp2_with fail
    go_meet
    exact HB8
  case rest =>
    have HBC := hcut
    obtain ⟨w9, hw9⟩ : ∃ z, z = wc := ⟨wc, rfl⟩
    subst hw9
    replace FX := hide (FX.out.step HBC.out)
    replace FN := hide (FN.out.step HBC.out)
    replace FB := hide (FB.out.step HBC.out)
    clear x0 x1 hcut
    have x0 := FX.out.now.cell 0
    have x1 := FX.out.now.cell 1
    have HA2 := hide (a2Walk_any n tb x A2 c2 A c w9 HOK.out FN.out.now HBX.out ((HRA.out.below FB.out.now).more FB.out.now.size))
    have HA3 := hide fun W (hW : Below w9.heap.size w9 W) => a2Walk_any n tb y A2 c2 A9 c9 W HOK.out (FN.out W hW) HBY.out ((HRB.out.below (FB.out W hW)).more (FB.out W hW).size)
    clear HBC HFEW HSP Fst FP Fq HST HRA HRB
    go_upto_region 18 with (go_at_call 23; (with_reducible refine (HA2.out).mono ?_); rintro e w10 ⟨A6, c6, a, rfl, r6, ha4, ⟨an, han, SS, hws⟩, b10⟩)
    have Fa := hide (fu_I r6)
    obtain ⟨va, hwa, hSa, hna⟩ := hws
    rw [hSa] at hna
    have HSA := hide (show Simple tb a va an from ⟨hwa, hna⟩)
    have HB10 := hide b10
    clear r6 hwa hSa hna HA2
    replace FX := hide (FX.out.step b10)
    replace FN := hide (FN.out.step b10)
    replace FB := hide (FB.out.step b10)
    clear x0 x1 b10
    have x0 := FX.out.now.cell 0
    have x1 := FX.out.now.cell 1
    go_upto_region 19 with (go_at_call 23; (with_reducible refine (HA3.out _ HB10.out).mono ?_); rintro e w11 ⟨A7, c7, b, rfl, r7, hb4, ⟨bn, hbn, TT, hwt⟩, b11⟩)
    have Fb := hide (fu_I r7)
    obtain ⟨vb, hwb, hSb, hnb⟩ := hwt
    rw [hSb] at hnb
    have HSB := hide (show Simple tb b vb bn from ⟨hwb, hnb⟩)
    clear r7 hwb hSb hnb HA3 HB10
    replace FX := hide (FX.out.step b11)
    replace FN := hide (FN.out.step b11)
    replace FB := hide (FB.out.step b11)
    replace Fa := hide (Fa.out.step b11)
    clear x0 x1 b11
    have x0 := FX.out.now.cell 0
    have x1 := FX.out.now.cell 1
    have HAA := hide (clash_self HTU.out HSA.out)
    have HAB := hide (clash_sym HTU.out HSB.out.1 HSA.out.1)
    have hbd := clash_bd (b := b) HTU.out HSA.out.1
    have HBD := hide hbd.1
    have K1 := hide fun W (hW : Below w11.heap.size w11 W) => firstClash_any n tb a b va an vb bn A2 c2 W HOK.out (FN.out W hW) A6 c6 HSA.out (by omega) (Fa.out W hW) A7 c7 HSB.out (by omega) (Fb.out W hW)
    have K2 := hide fun W (hW : Below w11.heap.size w11 W) => firstClash_any n tb b a vb bn va an A2 c2 W HOK.out (FN.out W hW) A7 c7 HSB.out (by omega) (Fb.out W hW) A6 c6 HSA.out (by omega) (Fa.out W hW)
    have K3 := hide fun W (hW : Below w11.heap.size w11 W) => firstClash_any n tb a a va an va an A2 c2 W HOK.out (FN.out W hW) A6 c6 HSA.out (by omega) (Fa.out W hW) A6 c6 HSA.out (by omega) (Fa.out W hW)
    have K4 := hide fun W (hW : Below w11.heap.size w11 W) (g : Nat) (hg : BoxN W g #[.slice A6 a.length c6, .slice A7 b.length c7, .slice A6 a.length c6] 22) => waysFit_any n tb [(A6, c6, a), (A7, c7, b), (A6, c6, a)] A2 c2 W HOK.out (FN.out W hW) (by simp) (fun x hx => by
      simp only [List.mem_cons, List.not_mem_nil, or_false] at hx
      rcases hx with rfl | rfl | rfl
      · exact ⟨⟨va, an, HSA.out⟩, by dsimp only; omega, Fa.out W hW⟩
      · exact ⟨⟨vb, bn, HSB.out⟩, by dsimp only; omega, Fb.out W hW⟩
      · exact ⟨⟨va, an, HSA.out⟩, by dsimp only; omega, Fa.out W hW⟩) (some ⟨g, 0, none⟩) 3 (by simp) (by decide) (fun _ => ⟨g, 0, rfl, hg.lt, fun j z hj => by
      match j, hj with
      | 0, hj => simp [wayV] at hj; subst hj; exact hg.cell 0
      | 1, hj => simp [wayV] at hj; subst hj; exact hg.cell 1
      | 2, hj => simp [wayV] at hj; subst hj; exact hg.cell 2
      | j + 3, hj => simp at hj⟩)
    have e3 : [(A6, c6, a), (A7, c7, b), (A6, c6, a)].length = 3 := rfl
    rw [e3] at K4
    rw [HAB.out] at K2
    rw [HAA.out] at K3
    have HZ := hide (Below.refl w11.heap.size w11)
    clear e3
    go_upto_region 20 with (go_at_call 24; (with_reducible refine (K1.out _ HZ.out).mono ?_); rintro e w12 ⟨rfl, b12⟩)
    replace HZ := hide (HZ.out.trans (b12.mono HZ.out.size))
    clear x0 x1 b12 K1
    have x0 := (FX.out w12 HZ.out).cell 0
    have x1 := (FX.out w12 HZ.out).cell 1
    go_upto_region 21 with (go_at_call 24; (with_reducible refine (K2.out _ HZ.out).mono ?_); rintro e w13 ⟨rfl, b13⟩)
    replace HZ := hide (HZ.out.trans (b13.mono HZ.out.size))
    clear x0 x1 b13 K2
    have x0 := (FX.out w13 HZ.out).cell 0
    have x1 := (FX.out w13 HZ.out).cell 1
    have G13 := hide (BoxN.new w13 #[.slice A6 a.length c6, .slice A7 b.length c7, .slice A6 a.length c6] 22)
    have HZ14 := hide (HZ.out.alloc HZ.out.size (.cells #[.slice A6 a.length c6, .slice A7 b.length c7, .slice A6 a.length c6] 22))
    go_upto_region 22 with (go_at_call 25; (with_reducible refine (K4.out _ HZ14.out _ G13.out).mono ?_); rintro e w14 ⟨f, rfl, hfit, b14⟩)
    have hf := fit_law hfit HAA.out HAB.out HBD.out
    subst hf
    have HZ15 := hide (HZ14.out.trans (b14.mono HZ14.out.size))
    clear x0 x1 b14 K4 hfit G13
    have x0 := (FX.out w14 HZ15.out).cell 0
    have x1 := (FX.out w14 HZ15.out).cell 1
    go_upto_region 23 with (go_at_call 24; (with_reducible refine (K3.out _ HZ15.out).mono ?_); rintro e w15 ⟨rfl, b15⟩)
    have HZ16 := hide (HZ15.out.trans (b15.mono HZ15.out.size))
    clear x0 x1 b15 K3
    have x0 := (FX.out w15 HZ16.out).cell 0
    obtain ⟨hbd1, hbd2⟩ := hbd
    generalize clash tb a b = cl at *
    have hbB : decide (-1 ≤ cl) = true := decide_eq_true hbd1
    have hbC : decide (cl < (n : Int)) = true := decide_eq_true hbd2
    go_wp2_with fail
    go_ret
    exact ⟨rfl, FB.out _ HZ16.out⟩
theorem fnTurns_own : ownKnob Try.prog.godebug = none := by kernel_rfl
theorem fnTurns_laid : laidOutB Try.prog = true := by kernel_rfl
set_option maxRecDepth 100000 in
theorem fnTurns_lifted (os : Os) (started : os.Started) (H : Type) (enc : TypeId × Value → H) :
    ReturnsInHanded {} Try.checked os 4 .any (Rows.fnTurnsSpec.pre6 enc Try.prog Try.f4 Rows.fnTurnsRow.domain false) (Rows.fnTurnsSpec.post enc Try.prog Try.f4 false true false false) := by
  refine returnsInHanded_of_change (C := Try.checked) fnTurns_own started (by kernel_rfl) Try.func4
    (ChangeSpec.witness6 (enc := enc) (C := Try.checked) false ⟨#[], #[.slice none 0 0, .slice none 0 0], []⟩ 8 (by kernel_rfl) (by kernel_rfl) (by kernel_rfl) (by kernel_rfl)) ?_
  intro W base args ds gs before hval0 hW hcnd _
  have hval : ∀ (j : Nat) t v, Try.f4.params[j]? = some t → args[j]? = some v → Value.okWide Try.prog W .any base t v := hval0
  have hW' := hW
  obtain ⟨p, q, hA0, hV, rfl, hfz, hnd⟩ := hW
  have hA : DataW.TrodAll enc Try.prog W 0 (fun _ => true) true Try.f4.params.toList args.toList ds p := hA0
  rw [Try.params4] at hA hval
  obtain ⟨v0, vs0, d0, ds0, p0, q0, hargs, rfl, rfl, h0, r0⟩ := trodAll_cons hA
  obtain ⟨v1, vs1, d1, ds1, p1, q1, rfl, rfl, rfl, h1, r1⟩ := trodAll_cons r0
  obtain ⟨rfl, rfl, rfl⟩ := trodAll_nil r1
  obtain rfl : args = #[v0, v1] := by cases args; simp_all
  obtain ⟨rfl, rfl⟩ := trodVars_none hV
  have k0 := h0
  have lt0 : ∀ x ∈ p0, x.block < W.heap.size := by obtain ⟨m, hm⟩ := k0; exact DataW.trod_lt m _ _ _ hm
  obtain ⟨A0, c0, zs0, rfl, rd0, len0, bd0⟩ := open_B Try.underlying40 Try.underlying5 (by kernel_rfl) (hval 0 40 v0 rfl rfl) h0
  have k1 := h1
  have lt1 : ∀ x ∈ p1, x.block < W.heap.size := by obtain ⟨m, hm⟩ := k1; exact DataW.trod_lt m _ _ _ hm
  obtain ⟨A1, c1, zs1, rfl, rd1, len1, bd1⟩ := open_B Try.underlying40 Try.underlying5 (by kernel_rfl) (hval 1 40 v1 rfl rfl) h1
  clear hA0 hval0
  refine (lTurns_walk zs0 (.slice A0 zs0.length c0) zs1 (.slice A1 zs1.length c1) W ⟨A0, c0, rfl, rd0⟩ len0 bd0 ⟨A1, c1, rfl, rd1⟩ len1 bd1).mono fun e W' ⟨he, bel⟩ => ?_
  subst he
  exact ⟨_, rfl, _, _, _, [], _, [], hW', trodAll_mk1 (shut_bool Try.underlying4 _), (trodAll_cons_mk (Below.trod fnTurns_laid (by kernel_rfl) (of_decide_eq_true (by kernel_rfl)) k0 bel lt0) (trodAll_cons_mk (Below.trod fnTurns_laid (by kernel_rfl) (of_decide_eq_true (by kernel_rfl)) k1 bel lt1) trodAll_mk0)), rfl, bel.frame _, fun h => by cases h⟩
theorem fnTurns_holds : Rows.FnTurnsSaid :=
  OpenClaim.holds_of_wide 4 Try.f4 rfl rfl rfl rfl rfl rfl rfl ⟨rfl, rfl, rfl, rfl, rfl⟩ rfl rfl rfl rfl rfl (by kernel_rfl) Try.func4 (by kernel_rfl)
    (of_decide_eq_true (by kernel_rfl)) (by unfold Func.isWrapper; first | (rw [if_pos (by decide +kernel)]; kernel_rfl) | (rw [if_neg (by decide +kernel)]; exact ⟨rfl, rfl⟩))
    (fun os started H enc _ => fnTurns_lifted os started H enc)
#print axioms fnTurns_holds
end Go.Proofs.Ytlkccijlbeibjaa
