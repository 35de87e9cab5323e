/-
  The law FnEarliest returns true for every input. No condition.
-/
import Derived.Test.YtfhociekhffjhaaSrc8
import Derived.Test.YtfhociekhffjhaaRunQ
import Derived.Test.YtfhociekhffjhaaLawH
import Derived.Test.YtfhociekhffjhaaRows
import Derived.Test.YtfhociekhffjhaaOpenB
import Derived.ProofKit
import Derived.OpenShut
namespace Go.Proofs.Ytfhociekhffjhaa
open Go.ChangeShapes Go.WideShapes Go.ChangeAt Go.RowKit

theorem Rd.front {w : World} {B : Nat} {A : Option Addr} {u v : List Value} (h : Rd w B A (u ++ v)) : Rd w B A u := fun hn => by
  obtain ⟨b, o, hA, hb, hc⟩ := h (by intro e; apply hn; exact (List.append_eq_nil_iff.1 e).1)
  refine ⟨b, o, hA, hb, fun j u' hu => hc j u' ?_⟩
  rw [List.getElem?_append_left (lt_of_get hu)]
  exact hu
theorem RN.front {m : Nat} {w : World} {B : Nat} {A : Option Addr} {x : List TN} {e : TN} (h : RN m w B A (x ++ [e])) : RN m w B A x := by
  obtain ⟨ps, h1, h2, h3⟩ := h
  obtain ⟨q, r, rfl, hq, hr⟩ := List.map_eq_append_iff.1 h1
  rw [List.flatMap_append] at h2
  exact ⟨q, hq, h2.front, fun p hp => h3 p (List.mem_append_left _ hp)⟩
theorem rdI_of {w : World} {B : Nat} {A : Option Addr} {c n : Nat} {x : List Int} (h : R_Int64S w B (.slice A n c) x) : RdI w B A x := by
  obtain ⟨A', c', e, r⟩ := h
  simp only [Value.slice.injEq] at e
  rw [e.1]
  exact r
theorem drawn_run {ts : List Int} (h1 : (1 ≤ ts.length ∧ ts.length ≤ 6) ∧ ∀ z ∈ ts, 1 ≤ z ∧ z ≤ 12) {e : TN} (h : RDrawn ts.length e) : OkWay ts e.way ∧ 0 ≤ e.p ∧ e.p ≤ 49 := by
  obtain ⟨⟨⟨a1, a2⟩, a3⟩, ⟨b1, b2⟩, _⟩ := h
  exact ⟨⟨⟨a1, by omega⟩, a3⟩, b1, b2⟩
theorem drawn_times {ts : List Int} (h1 : (1 ≤ ts.length ∧ ts.length ≤ 6) ∧ ∀ z ∈ ts, 1 ≤ z ∧ z ≤ 12) : OkTimes ts :=
  ⟨⟨h1.1.1, by omega⟩, fun z hz => by have := h1.2 z hz; omega⟩
theorem drawn_est {ts : List Int} (hts : OkTimes ts) {x : List TN} {way : List Int} {f : Int} (hx : ∀ e ∈ x, OkWay ts e.way ∧ 0 ≤ e.p ∧ e.p ≤ 49) (hw : OkWay ts way) (h0 : 0 ≤ f) (h1 : f < 60) : estOf ts (takenOf ts x) way f ≤ 100000 := by
  have h := (est_spec (tk := takenOf ts x) hts hw.2 f).2.1
  rcases (lastC_spec (takenOf ts x) f).2.2 with h2 | ⟨o, ho, h2⟩
  · omega
  · obtain ⟨e, he, hoe⟩ := List.mem_flatMap.1 ho
    obtain ⟨⟨g1, g2⟩, g3, g4⟩ := hx e he
    have := spGo_ge hts g2 o hoe
    omega
theorem drawn_earliest {ts : List Int} (hts : OkTimes ts) {x : List TN} {way : List Int} {f : Int} (hl : x.length ≤ 12) (hx : ∀ e ∈ x, OkWay ts e.way ∧ 0 ≤ e.p ∧ e.p ≤ 49) (hw : OkWay ts way) (h0 : 0 ≤ f) (h1 : f < 60) : earliest ts x way f = (estOf ts (takenOf ts x) way f, 0) := by
  have h := drawn_est hts hx hw h0 h1
  unfold earliest
  rw [if_pos (vRuns_iff.2 ⟨hts, hl, fun e he => ⟨(hx e he).1, by have := hx e he; omega, by have := hx e he; omega⟩⟩), if_pos ⟨okWay_iff.2 hw, h0, by omega⟩, if_pos h]
set_option maxRecDepth 100000 in
set_option maxHeartbeats 8000000 in
theorem lEarliest_walk (x : List Int) (v : Value) (y : List Int) (u : Value) (w : World) (r : ∃ A c, v = .slice A x.length c ∧ RdB w w.heap.size A x) (nx : x.length ≤ 9223372036854775807) (fx : ∀ z ∈ x, 0 ≤ z ∧ z ≤ 255) (r2 : ∃ A c, u = .slice A y.length c ∧ RdB w w.heap.size A y) (ny : y.length ≤ 9223372036854775807) (fy : ∀ z ∈ y, 0 ≤ z ∧ z ≤ 255) :
    Calls Try.prog 4 #[v, u] w fun e w' => e = .returned (.bool true) ∧ Below w.heap.size w w' := by
  obtain ⟨A, c, rfl, r⟩ := r
  obtain ⟨A2, c2, rfl, r2⟩ := r2
  have HL := hide (a2Long_any x.length y.length A A2 c c2 w nx ny)
  by_cases hlong : 3000 < x.length ∨ 3000 < y.length
  · rw [decide_eq_true hlong] at HL
    clear hlong r r2
    go_enter Try.func4, Try.ntmps4
    go_wp2_with (go_at_call 11; refine (HL.out).mono ?_; rintro e w' ⟨rfl, rfl⟩)
    go_ret
    exact ⟨rfl, Below.refl _ _⟩
  rw [decide_eq_false hlong] at HL
  have HT := hide (a2Times_any x A c w ⟨by omega, fx⟩ r)
  have HW := hide fun n A3 c3 W (hW : Below w.heap.size w W) (hn : 1 ≤ n) (hn6 : n ≤ 1000) => a2Runs_any y A2 c2 A3 n c3 W ⟨by omega, fy⟩ hn hn6 ((r2.below hW).more hW.size)
  have HAT := hide fun W (hW : Below w.heap.size w W) => a2At_any y A2 c2 0 60 W ⟨by omega, fy⟩ ((r2.below hW).more hW.size)
  clear hlong r r2 fx fy nx ny
  go_enter Try.func4, Try.ntmps4
  go_wp2_with (first | (go_at_call 11; refine (HL.out).mono ?_; rintro e w' ⟨rfl, rfl⟩) | (go_at_call 12; refine (HT.out).mono ?_; rintro e w1 ⟨A3, c3, ts, rfl, o1, hts, b1⟩))
  have HTS := hide hts
  have hts1 := hts.1.1
  have hts6 := hts.1.2
  clear hts HT HL
  go_wp2_with (go_at_call 13; refine (HW.out _ _ _ _ b1 hts1 (by omega)).mono ?_; rintro e w2 ⟨A4, c4, l, rfl, o2, hl, b2⟩; obtain ⟨vv, hvv⟩ : ∃ q, Hid (q = Value.slice A4 l.length c4) := ⟨_, rfl⟩; rw [← hvv.out])
  obtain rfl := hvv.out
  have bw2 : Below w.heap.size w w2 := b1.trans (b2.mono b1.size)
  have HRUN := hide fun e (he : e ∈ l) => drawn_run HTS.out (hl.2 e he)
  have HTO := hide (drawn_times HTS.out)
  have HFT : Hid (∀ z ∈ ts, -9223372036854775808 ≤ z ∧ z ≤ 9223372036854775807) := fun z hz => by have := HTS.out.2 z hz; omega
  have HSM := hide o2.small
  have hl4 := hl.1
  have o1' := o1.below b2 (Nat.le_refl _)
  have HR1 := hide fun W (hW : Below w2.heap.size w2 W) => (o1'.r.below hW).more hW.size
  have HRN := hide (show RN 1 w2 w2.heap.size A4 l from by
    obtain ⟨A', c', e, h⟩ := o2.r
    simp only [Value.slice.injEq] at e
    obtain ⟨rfl, _, _⟩ := e
    exact h)
  have hcap : l.length ≤ c4 := by obtain ⟨_, _, h, _⟩ := o2; exact cap_of h _ _ _ rfl
  have HQ0 := hide fun e (he : e ∈ l) => (hl.2 e he).2.2
  have HRT := hide fun W (hW : Below w2.heap.size w2 W) => ((rdI_of o1'.r).below hW).more hW.size
  clear hl o1 o2 o1' HW b1 b2
  have hcast : ((l.length : Int) == 0) = decide (l.length = 0) := by by_cases h : l.length = 0 <;> simp [h]
  by_cases hn0 : l.length = 0
  · rw [decide_eq_true hn0] at hcast
    clear hn0
    go_wp2_with fail
    go_ret
    exact ⟨rfl, bw2⟩
  rw [decide_eq_false hn0] at hcast
  have hnil : l ≠ [] := fun h => hn0 (by rw [h]; rfl)
  obtain ⟨xs, e, he⟩ : ∃ xs e, l = xs ++ [e] := ⟨_, _, (List.dropLast_concat_getLast hnil).symm⟩
  have hlen : l.length = xs.length + 1 := by rw [he]; simp
  obtain ⟨b, o, e', Aw, cw, rfl, hb, he', hrw, hcw, _⟩ := HRN.out.at_ (by omega) (show xs.length < l.length by omega)
  rw [he, List.getElem?_append_right (Nat.le_refl _), Nat.sub_self] at he'
  obtain rfl : e = e' := Option.some.inj he'
  have HRX := hide (show RN 1 w2 w2.heap.size (some ⟨b, o, none⟩) xs from by have h := HRN.out; rw [he] at h; exact h.front)
  have HRW := hide hrw
  have HRUN' := hide fun z (hz : z ∈ xs) => HRUN.out z (by rw [he]; exact List.mem_append_left _ hz)
  have HQ0 := hide fun z (hz : z ∈ xs) => HQ0.out z (by rw [he]; exact List.mem_append_left _ hz)
  have HWAY := hide (HRUN.out e (by rw [he]; simp)).1
  have hsx : SmallN xs := by have h := HSM.out; rw [he] at h; unfold SmallN at h ⊢; simp at h; omega
  have HSX := hide hsx
  clear hrw HRN hn0 he' hsx HRUN HSM hnil
  rw [hlen] at hcast hl4 hcap
  rw [hlen]
  clear hlen
  have hx0 : (0 : Int) ≤ (xs.length : Int) := by omega
  have HES := hide fun f (h0 : 0 ≤ f) (h1 : f < 60) => P_EarliestStart ts (.slice A3 ts.length c3) xs (.slice (some ⟨b, o, none⟩) xs.length c4) e.way (.slice Aw e.way.length cw) f w2 (by omega) HFT.out (HR1.out _ (Below.refl _ _)) HSX.out (fun z hz => by
    obtain ⟨⟨_, g2⟩, g3, g4⟩ := HRUN'.out z hz
    refine ⟨fun t ht => by have := g2 t ht; omega, ⟨by omega, by omega⟩, ?_⟩
    rw [HQ0.out z hz]
    omega) ⟨_, _, rfl, HRX.out⟩ (by have := HWAY.out.1.2; omega) (fun t ht => by have := HWAY.out.2 t ht; omega) ⟨_, _, rfl, HRW.out⟩ (by omega) (by omega)
  have HEQ := hide fun f (h0 : 0 ≤ f) (h1 : f < 60) => drawn_earliest HTO.out (by omega) HRUN'.out HWAY.out h0 h1
  have HAL := hide fun W g (hW : Below w2.heap.size w2 W) (h0 : 0 ≤ g) (h1 : g ≤ 100000) => a2Alone_any ts e.way xs g A3 c3 (some ⟨b, o, none⟩) c4 Aw cw W HTO.out HWAY.out h0 h1 (by omega) (fun z hz => by have := HRUN'.out z hz; exact ⟨this.1, by omega, by omega⟩) (HRT.out W hW) ((HRX.out.below hW).more hW.size) ((HRW.out.below hW).more hW.size)
  have HSP := hide fun f => est_spec (tk := takenOf ts xs) HTO.out HWAY.out.2 f
  have HBD := hide fun f (h0 : 0 ≤ f) (h1 : f < 60) => drawn_est HTO.out HRUN'.out HWAY.out h0 h1
  go_wp2_with (go_at_call 18; refine (HAT.out _ bw2).mono ?_; rintro e3 w3 ⟨f, rfl, hf, rfl⟩)
  have hf0 := hf.1
  have hf1 := hf.2 (by omega)
  have HE := hide (HES.out f hf0 hf1)
  rw [HEQ.out f hf0 hf1] at HE
  have hr1 := (HSP.out f).1
  have HRF := hide (HSP.out f).2.2.1
  have HRN := hide (HSP.out f).2.2.2
  have hr2 := HBD.out f hf0 hf1
  clear hf HES HEQ HSP HBD HAT
  generalize estOf ts (takenOf ts xs) e.way f = st at *
  have hA1 : decide (st < f) = false := decide_eq_false (by omega)
  have hA2 : decide (100000 < st) = false := decide_eq_false (by omega)
  have hst0 : 0 ≤ st := by omega
  go_wp2_with (first | (go_at_call 19; refine (HE.out).mono ?_; rintro e4 w4 ⟨rfl, b4⟩) | (go_at_call 20; refine (HAL.out _ st b4 hst0 hr2).mono ?_; rintro e5 w5 ⟨rfl, b5⟩; rw [HRF.out]))
  have b25 := b4.trans (b5.mono b4.size)
  have HB := hide b25
  clear b4 b5 b25
  go_loopg [11] (st - f).toNat (fun g i wr => ∃ k : Int, f ≤ k ∧ k ≤ st ∧ Hid (g = (st - k).toNat) ∧ i = .int .i64 k ∧ Below w2.heap.size w2 wr)
  case atStart => exact ⟨f, by omega, by omega, rfl, rfl, HB.out⟩
  case round =>
    obtain ⟨k, hk1, hk2, hgk, rfl, hb⟩ := hrel
    by_cases hlt : k < st
    · have hN := HRN.out k hk1 hlt
      have HC := hide (HAL.out _ k hb (by omega) (by omega))
      rw [hN] at HC
      have HBR := hide hb
      clear hN hb
      go_wp2_with (go_at_call 20; refine (HC.out).mono ?_; rintro e6 w6 ⟨rfl, b6⟩)
      go_roundg (st - (k + 1)).toNat
      case measure => have := hgk.out; omega
      case rel => exact ⟨k + 1, by omega, by omega, rfl, by go_num, HBR.out.trans (b6.mono HBR.out.size)⟩
    · go_wp2_with fail
      go_ret
      exact ⟨rfl, bw2.trans (hb.mono bw2.size)⟩
theorem fnEarliest_own : ownKnob Try.prog.godebug = none := by kernel_rfl
theorem fnEarliest_laid : laidOutB Try.prog = true := by kernel_rfl
set_option maxRecDepth 100000 in
theorem fnEarliest_lifted (os : Os) (started : os.Started) (H : Type) (enc : TypeId × Value → H) :
    ReturnsInHanded {} Try.checked os 4 .any (Rows.fnEarliestSpec.pre6 enc Try.prog Try.f4 Rows.fnEarliestRow.domain false) (Rows.fnEarliestSpec.post enc Try.prog Try.f4 false true false false) := by
  refine returnsInHanded_of_change (C := Try.checked) fnEarliest_own started (by kernel_rfl) Try.func4
    (ChangeSpec.witness6 (enc := enc) (C := Try.checked) false ⟨#[], #[.slice none 0 0, .slice none 0 0], []⟩ 8 (by kernel_rfl) (by kernel_rfl) (by kernel_rfl) (by kernel_rfl)) ?_
  intro W base args ds gs before hval0 hW hcnd _
  have hval : ∀ (j : Nat) t v, Try.f4.params[j]? = some t → args[j]? = some v → Value.okWide Try.prog W .any base t v := hval0
  have hW' := hW
  obtain ⟨p, q, hA0, hV, rfl, hfz, hnd⟩ := hW
  have hA : DataW.TrodAll enc Try.prog W 0 (fun _ => true) true Try.f4.params.toList args.toList ds p := hA0
  rw [Try.params4] at hA hval
  obtain ⟨v0, vs0, d0, ds0, p0, q0, hargs, rfl, rfl, h0, r0⟩ := trodAll_cons hA
  obtain ⟨v1, vs1, d1, ds1, p1, q1, rfl, rfl, rfl, h1, r1⟩ := trodAll_cons r0
  obtain ⟨rfl, rfl, rfl⟩ := trodAll_nil r1
  obtain rfl : args = #[v0, v1] := by cases args; simp_all
  obtain ⟨rfl, rfl⟩ := trodVars_none hV
  have k0 := h0
  have lt0 : ∀ x ∈ p0, x.block < W.heap.size := by obtain ⟨m, hm⟩ := k0; exact DataW.trod_lt m _ _ _ hm
  obtain ⟨A0, c0, zs0, rfl, rd0, len0, bd0⟩ := open_B Try.underlying22 Try.underlying5 (by kernel_rfl) (hval 0 22 v0 rfl rfl) h0
  have k1 := h1
  have lt1 : ∀ x ∈ p1, x.block < W.heap.size := by obtain ⟨m, hm⟩ := k1; exact DataW.trod_lt m _ _ _ hm
  obtain ⟨A1, c1, zs1, rfl, rd1, len1, bd1⟩ := open_B Try.underlying22 Try.underlying5 (by kernel_rfl) (hval 1 22 v1 rfl rfl) h1
  clear hA0 hval0
  refine (lEarliest_walk zs0 (.slice A0 zs0.length c0) zs1 (.slice A1 zs1.length c1) W ⟨A0, c0, rfl, rd0⟩ len0 bd0 ⟨A1, c1, rfl, rd1⟩ len1 bd1).mono fun e W' ⟨he, bel⟩ => ?_
  subst he
  exact ⟨_, rfl, _, _, _, [], _, [], hW', trodAll_mk1 (shut_bool Try.underlying4 _), (trodAll_cons_mk (Below.trod fnEarliest_laid (by kernel_rfl) (of_decide_eq_true (by kernel_rfl)) k0 bel lt0) (trodAll_cons_mk (Below.trod fnEarliest_laid (by kernel_rfl) (of_decide_eq_true (by kernel_rfl)) k1 bel lt1) trodAll_mk0)), rfl, bel.frame _, fun h => by cases h⟩
theorem fnEarliest_holds : Rows.FnEarliestSaid :=
  OpenClaim.holds_of_wide 4 Try.f4 rfl rfl rfl rfl rfl rfl rfl ⟨rfl, rfl, rfl, rfl, rfl⟩ rfl rfl rfl rfl rfl (by kernel_rfl) Try.func4 (by kernel_rfl)
    (of_decide_eq_true (by kernel_rfl)) (by unfold Func.isWrapper; first | (rw [if_pos (by decide +kernel)]; kernel_rfl) | (rw [if_neg (by decide +kernel)]; exact ⟨rfl, rfl⟩))
    (fun os started H enc _ => fnEarliest_lifted os started H enc)
#print axioms fnEarliest_holds
end Go.Proofs.Ytfhociekhffjhaa
