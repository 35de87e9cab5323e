/-
  The law FnTubeUse returns true for every input. No condition.
-/
import Derived.Test.YtfhociekhffjhaaUsed
import Derived.Test.YtfhociekhffjhaaSrc7
import Derived.Test.YtfhociekhffjhaaLawH
import Derived.Test.YtfhociekhffjhaaRows
import Derived.Test.YtfhociekhffjhaaOpenB
import Derived.ProofKit
import Derived.Deep.DeepCutAuto
import Derived.OpenShut
namespace Go.Proofs.Ytfhociekhffjhaa
open Go.ChangeShapes Go.WideShapes Go.ChangeAt Go.RowKit

theorem tdrawn_run {ts : List Int} (h1 : (1 ≤ ts.length ∧ ts.length ≤ 6) ∧ ∀ z ∈ ts, 1 ≤ z ∧ z ≤ 12) {e : TN} (h : RDrawn ts.length e) : OkWay ts e.way ∧ 0 ≤ e.p ∧ e.p ≤ 49 := by
  obtain ⟨⟨⟨a1, a2⟩, a3⟩, ⟨b1, b2⟩, _⟩ := h
  exact ⟨⟨⟨a1, by omega⟩, a3⟩, b1, b2⟩
theorem tdrawn_valid {ts : List Int} (h1 : (1 ≤ ts.length ∧ ts.length ≤ 6) ∧ ∀ z ∈ ts, 1 ≤ z ∧ z ≤ 12) {l : List TN} (h2 : l.length ≤ 4 ∧ ∀ e ∈ l, RDrawn ts.length e) : vRuns ts l = true :=
  vRuns_iff.2 ⟨⟨⟨h1.1.1, by omega⟩, fun z hz => by have := h1.2 z hz; omega⟩, by omega, fun e he => by have := tdrawn_run h1 (h2.2 e he); exact ⟨this.1, by omega, by omega⟩⟩
theorem tdrawn_fits {ts : List Int} (h1 : ts.length ≤ 6) {e : TN} (h : RDrawn ts.length e) : e.Fits := by
  obtain ⟨⟨_, a3⟩, ⟨b1, b2⟩, c⟩ := h
  exact ⟨fun z hz => by have := a3 z hz; omega, ⟨by omega, by omega⟩, by rw [c]; omega⟩
theorem trdI {w : World} {B : Nat} {A : Option Addr} {c n : Nat} {x : List Int} (h : R_Int64S w B (.slice A n c) x) : RdI w B A x := by
  obtain ⟨A', c', e, r⟩ := h
  simp only [Value.slice.injEq] at e
  rw [e.1]
  exact r
theorem trn {m : Nat} {w : World} {B : Nat} {A : Option Addr} {c n : Nat} {x : List TN} (h : ∃ A' c', Value.slice A n c = .slice A' x.length c' ∧ RN m w B A' x) : RN m w B A x := by
  obtain ⟨A', c', e, r⟩ := h
  simp only [Value.slice.injEq] at e
  rw [e.1]
  exact r
theorem take_any' {p : T3 → Bool} {x : List T3} {k : Nat} {a : T3} (h : x[k]? = some a) : (x.take (k + 1)).any p = ((x.take k).any p || p a) := by
  obtain ⟨hk, rfl⟩ := List.getElem?_eq_some_iff.1 h
  rw [List.take_succ_eq_append_getElem hk, List.any_append]; simp
theorem durT_take {x : List T3} {k : Nat} {a : T3} (h : x[k]? = some a) : durT (x.take (k + 1)) = durT (x.take k) + (a.c - a.b) := by
  obtain ⟨hk, rfl⟩ := List.getElem?_eq_some_iff.1 h
  rw [List.take_succ_eq_append_getElem hk, durT_append]; simp [durT]
/-- At none of some ticks is there a span. -/
def nbT (f : Int) (n : Nat) (s : T3) : Bool := (List.range n).all fun j => decide (f + (j : Int) < s.b ∨ s.c ≤ f + (j : Int))
theorem nbT_succ (f : Int) (n : Nat) (s : T3) : nbT f (n + 1) s = (nbT f n s && decide (f + (n : Int) < s.b ∨ s.c ≤ f + (n : Int))) := by
  unfold nbT; rw [List.range_succ, List.all_append]; simp
theorem nb_hit {f k : Int} {s : T3} (hfk : f ≤ k) (h1 : s.b < s.c) (h0 : 0 ≤ s.b) : nbT f (k - f).toNat s = !hitT f k s := by
  rw [Bool.eq_iff_iff]
  unfold nbT hitT
  simp only [List.all_eq_true, List.mem_range, decide_eq_true_eq, Bool.not_eq_true', decide_eq_false_iff_not]
  constructor
  · intro h hlt
    have := h (max s.b f - f).toNat (by omega)
    omega
  · intro h j hj
    omega
theorem pairs_at {w : World} {B : Nat} {A : Option Addr} {ss : List T3} (h : RN 0 w B A (ss.map pairTN)) {k : Nat} (hk : k < ss.length) : ∃ b o s b' o' c', A = some ⟨b, o, none⟩ ∧ b < B ∧ b' < B ∧ ss[k]? = some s ∧ w.cell? ⟨b, o + k, none⟩ = some (.slice (some ⟨b', o', none⟩) 2 c') ∧
    w.cell? ⟨b', o', none⟩ = some (.int .i64 s.b) ∧ w.cell? ⟨b', o' + 1, none⟩ = some (.int .i64 s.c) := by
  obtain ⟨b, o, e, Aw, cw, hA, hb, he, hr, hc, _, _⟩ := h.at_ (by omega) (k := k) (by simpa using hk)
  rw [List.getElem?_map, List.getElem?_eq_getElem hk] at he
  have he' := Option.some.inj he
  subst he'
  obtain ⟨b', o', z0, hA', hb', h0, g0⟩ := hr.at_ (k := 0) (by simp [pairTN])
  obtain ⟨_, _, z1, hA1, _, h1, g1⟩ := hr.at_ (k := 1) (by simp [pairTN])
  subst hA'
  cases hA1
  simp only [pairTN, List.getElem?_cons_zero, List.getElem?_cons_succ, Option.some.injEq] at h0 h1
  subst h0 h1
  exact ⟨b, o, ss[k], b', o', cw, hA, hb, hb', List.getElem?_eq_getElem hk, by rw [show o + k = o + k * (0 + 1) by omega]; exact hc, g0, g1⟩
theorem sorted_next {L : List T3} (h : SortedT L) {i : Nat} {s t : T3} (hs : L[i]? = some s) (ht : L[i + 1]? = some t) : ¬ (t.b < s.b ∨ (t.b = s.b ∧ t.c < s.c)) := by
  have h2 := (List.pairwise_iff_getElem.1 h) i (i + 1) (lt_of_get hs) (lt_of_get ht) (by omega)
  have e1 : L[i]'(lt_of_get hs) = s := Option.some.inj ((List.getElem?_eq_getElem (lt_of_get hs)).symm.trans hs)
  have e2 : L[i + 1]'(lt_of_get ht) = t := Option.some.inj ((List.getElem?_eq_getElem (lt_of_get ht)).symm.trans ht)
  rw [e1, e2, ltT_no] at h2
  exact h2
theorem spIn_bd {ts : List Int} (hts : OkTimes ts) {l : List TN} (h : OkPlan ts l) {t : Int} : ∀ s ∈ spIn ts l t, 0 ≤ s.b ∧ s.b < s.c ∧ s.c ≤ 1012000 := fun s hs => by
  have h1 := (sortT_perm (inTube ts l t)).mem_iff.1 hs
  exact taken_bd hts h s (List.mem_filter.1 h1).1
set_option maxRecDepth 100000 in
set_option maxHeartbeats 1000000 in
theorem a2SameR_any (xs : List Int) (A1 A2 : Option Addr) (c1 c2 : Nat) (w : World) (hx : xs.length ≤ 1048576) (h1 : RdI w w.heap.size A1 xs) (h2 : RdI w w.heap.size A2 xs) :
    Calls Try.prog 74 #[.slice A1 xs.length c1, .slice A2 xs.length c2] w fun e w' => e = .returned (.bool true) ∧ ∃ n, w' = w.drewN n := by
  have H1 := hide h1
  have H2 := hide h2
  clear h1 h2
  go_enter Try.func74, Try.ntmps74
  go_wp2_with fail
  go_loopg [5] xs.length (fun g i wr => ∃ k : Nat, k ≤ xs.length ∧ Hid (g = xs.length - k) ∧ i = .int .i64 k ∧ Hid (∃ n, wr = w.drewN n))
  case atStart => exact ⟨0, by omega, by simp [Hid], rfl, ⟨0, rfl⟩⟩
  case round =>
    obtain ⟨k, hk, hg, rfl, HD⟩ := hrel
    obtain ⟨n, hn⟩ := HD.out
    subst hn
    by_cases hlt : k < xs.length
    · obtain ⟨b1, o1, z, rfl, _, hz, hca⟩ := H1.out.at_ hlt
      obtain ⟨b2, o2, z2, rfl, _, hz2, hcb⟩ := H2.out.at_ hlt
      obtain rfl := Option.some.inj (hz.symm.trans hz2)
      have d1 : (w.drewN n).cell? ⟨b1, o1 + k, none⟩ = some (.int .i64 z) := hca
      have d2 : (w.drewN n).cell? ⟨b2, o2 + k, none⟩ = some (.int .i64 z) := hcb
      have hk0 : (0 : Int) ≤ (k : Int) := by omega
      have hk9 : (k : Int) < xs.length := by omega
      clear hz hz2 HD hca hcb
      obtain ⟨wq, hwq⟩ : ∃ q, w.drewN n = q := ⟨_, rfl⟩
      rw [hwq] at d1 d2 ⊢
      have HWQ := hide hwq
      clear hwq
      go_wp2_with fail
      go_quiet (fail)
      go_wp2_with fail
      go_roundg (xs.length - (k + 1))
      case measure => have := hg.out; omega
      case rel => exact ⟨k + 1, by omega, rfl, by go_num, ⟨n + nq, by rw [← HWQ.out]; simp [World.drewN, Nat.add_assoc]⟩⟩
    · go_wp2_with fail
      go_ret
      exact ⟨rfl, n, rfl⟩
set_option maxRecDepth 100000 in
set_option maxHeartbeats 8000000 in
theorem lTubeUse_walk (x : List Int) (v : Value) (y : List Int) (u : Value) (w : World) (r : ∃ A c, v = .slice A x.length c ∧ RdB w w.heap.size A x) (nx : x.length ≤ 9223372036854775807) (fx : ∀ z ∈ x, 0 ≤ z ∧ z ≤ 255) (r2 : ∃ A c, u = .slice A y.length c ∧ RdB w w.heap.size A y) (ny : y.length ≤ 9223372036854775807) (fy : ∀ z ∈ y, 0 ≤ z ∧ z ≤ 255) :
    Calls Try.prog 9 #[v, u] w fun e w' => e = .returned (.bool true) ∧ Below w.heap.size w w' := by
  obtain ⟨A, c, rfl, r⟩ := r
  obtain ⟨A2, c2, rfl, r2⟩ := r2
  have HL := hide (a2Long_any x.length y.length A A2 c c2 w nx ny)
  by_cases hlong : 3000 < x.length ∨ 3000 < y.length
  · rw [decide_eq_true hlong] at HL
    clear hlong r r2
    go_enter Try.func9, Try.ntmps9
    go_wp2_with (go_at_call 11; refine (HL.out).mono ?_; rintro e w' ⟨rfl, rfl⟩)
    go_ret
    exact ⟨rfl, Below.refl _ _⟩
  rw [decide_eq_false hlong] at HL
  have HT := hide (a2Times_any x A c w ⟨by omega, fx⟩ r)
  have HW := hide fun n A3 c3 W (hW : Below w.heap.size w W) (hn : 1 ≤ n) (hn6 : n ≤ 1000) => a2Runs_any y A2 c2 A3 n c3 W ⟨by omega, fy⟩ hn hn6 ((r2.below hW).more hW.size)
  have HA0 : Hid (∀ (W : World), Below w.heap.size w W → Calls Try.prog 18 #[.slice A2 y.length c2, .int .i64 0, .int .i64 80] W fun e w' => ∃ z, e = .returned (.int .i64 z) ∧ (0 ≤ z ∧ ((1 : Int) ≤ 80 → z < 80)) ∧ W = w') := fun W hW => a2At_any y A2 c2 0 80 W ⟨by omega, fy⟩ ((r2.below hW).more hW.size)
  have HA1 : Hid (∀ (W : World), Below w.heap.size w W → Calls Try.prog 18 #[.slice A2 y.length c2, .int .i64 1, .int .i64 9] W fun e w' => ∃ z, e = .returned (.int .i64 z) ∧ (0 ≤ z ∧ ((1 : Int) ≤ 9 → z < 9)) ∧ W = w') := fun W hW => a2At_any y A2 c2 1 9 W ⟨by omega, fy⟩ ((r2.below hW).more hW.size)
  have HA2 : Hid (∀ (m : Int) (W : World), Below w.heap.size w W → Calls Try.prog 18 #[.slice A2 y.length c2, .int .i64 2, .int .i64 m] W fun e w' => ∃ z, e = .returned (.int .i64 z) ∧ (0 ≤ z ∧ ((1 : Int) ≤ m → z < m)) ∧ W = w') := fun (m : Int) W hW => a2At_any y A2 c2 2 m W ⟨by omega, fy⟩ ((r2.below hW).more hW.size)
  have HA3 : Hid (∀ (W : World), Below w.heap.size w W → Calls Try.prog 18 #[.slice A2 y.length c2, .int .i64 3, .int .i64 50] W fun e w' => ∃ z, e = .returned (.int .i64 z) ∧ (0 ≤ z ∧ ((1 : Int) ≤ 50 → z < 50)) ∧ W = w') := fun W hW => a2At_any y A2 c2 3 50 W ⟨by omega, fy⟩ ((r2.below hW).more hW.size)
  clear hlong r r2 fx fy nx ny
  go_enter Try.func9, Try.ntmps9
  go_wp2_with (first | (go_at_call 11; refine (HL.out).mono ?_; rintro e w' ⟨rfl, rfl⟩) | (go_at_call 12; refine (HT.out).mono ?_; rintro e w1 ⟨A3, c3, ts, rfl, o1, hts, b1⟩))
  have HTS := hide hts
  have hts1 := hts.1.1
  have hts6 := hts.1.2
  clear hts HT HL
  go_wp2_with (go_at_call 13; refine (HW.out _ _ _ _ b1 hts1 (by omega)).mono ?_; rintro e w2 ⟨A4, c4, l, rfl, o2, hl, b2⟩; obtain ⟨vv, hvv⟩ : ∃ q, Hid (q = Value.slice A4 l.length c4) := ⟨_, rfl⟩; rw [← hvv.out])
  obtain rfl := hvv.out
  have bw2 : Below w.heap.size w w2 := b1.trans (b2.mono b1.size)
  have HV := hide (tdrawn_valid HTS.out hl)
  have HRUN := hide fun e (he : e ∈ l) => tdrawn_run HTS.out (hl.2 e he)
  have HFT : Hid (∀ z ∈ ts, -9223372036854775808 ≤ z ∧ z ≤ 9223372036854775807) := fun z hz => by have := HTS.out.2 z hz; omega
  have HFW : Hid (∀ e ∈ l, e.Fits) := fun e he => tdrawn_fits (by omega) (hl.2 e he)
  have HSM := hide o2.small
  have hl4 := hl.1
  have o1' := o1.below b2 (Nat.le_refl _)
  have HR1 := hide fun W (hW : Below w2.heap.size w2 W) => (o1'.r.below hW).more hW.size
  have HR2 := hide fun W (hW : Below w2.heap.size w2 W) => (o2.r.below hW).more hW.size
  have HRT := hide (trdI o1'.r)
  have HRN := hide (trn o2.r)
  have HB2 := hide bw2
  have HTU := hide (ticksUsed_any ts l A3 c3 A4 c4 w2 HV.out HRT.out HRN.out)
  have HUA := hide fun (t : Int) (ht : 0 ≤ t) => used_at (ts := ts) (l := l) (fun e he => (HRUN.out e he).1) ht
  have HUL := hide (show (usedOf ts l).length = ts.length by unfold usedOf; rw [useL_len, List.length_replicate])
  have HTO := hide (vRuns_iff.1 HV.out).1
  have HBD := hide fun (t : Int) => spIn_bd (ts := ts) (l := l) HTO.out ⟨by omega, fun e he => by have := HRUN.out e he; exact ⟨this.1, by omega, by omega⟩⟩ (t := t)
  have HSL := hide fun (t : Int) => spIn_len (ts := ts) (l := l) (t := t) (fun e he => (HRUN.out e he).1.1.2)
  have HSO := hide fun (t : Int) => sortT_sorted (inTube ts l t)
  have HPS := hide fun (t : Int) W (h1 : -9223372036854775808 ≤ t) (h2 : t ≤ 9223372036854775807) (hW : Below w2.heap.size w2 W) => P_SpansIn ts (.slice A3 ts.length c3) l (.slice A4 l.length c4) t W (by omega) HFT.out (HR1.out W hW) HSM.out HFW.out (HR2.out W hW) h1 h2
  have HPF := hide fun (t f k : Int) W (h1 : -9223372036854775808 ≤ t) (h2 : t ≤ 9223372036854775807) (h3 : -9223372036854775808 ≤ f) (h4 : f ≤ 9223372036854775807) (h5 : -9223372036854775808 ≤ k) (h6 : k ≤ 9223372036854775807) (hW : Below w2.heap.size w2 W) => P_FreeAt ts (.slice A3 ts.length c3) l (.slice A4 l.length c4) t f k W (by omega) HFT.out (HR1.out W hW) HSM.out HFW.out (HR2.out W hW) h1 h2 h3 h4 h5 h6
  have HPD := hide fun (k b : Int) W (h1 : -9223372036854775808 ≤ k) (h2 : k ≤ 9223372036854775807) (h3 : -9223372036854775808 ≤ b) (h4 : b ≤ 9223372036854775807) (hW : Below w2.heap.size w2 W) => P_DelayRun ts (.slice A3 ts.length c3) l (.slice A4 l.length c4) k b W (by omega) HFT.out (HR1.out W hW) HSM.out HFW.out (HR2.out W hW) h1 h2 h3 h4
  have HRC := hide fun (t : Int) (h1 : 0 ≤ t) (h2 : t < ts.length) => (show rcode ts l t = 0 by unfold rcode; rw [if_pos HV.out, if_pos (inB_t ⟨h1, by omega⟩)])
  clear hl o1 o2 o1' HW b1 b2 bw2
  go_wp2_with (first | (go_at_call 70; refine (HTU.out).mono ?_; rintro e w3 ⟨A5, c5, rfl, r5, b3⟩; have bw3 := HB2.out.trans (b3.mono HB2.out.size)) | (go_at_call 18; (with_reducible refine (HA0.out _ bw3).mono ?_); rintro e3 w4 ⟨f, rfl, hf, rfl⟩; have hf0 := hf.1; have hf1 := hf.2 (by omega)) | (go_at_call 18; refine (HA1.out _ bw3).mono ?_; rintro e3 w4 ⟨kd, rfl, hkd, rfl⟩; have hkd0 := hkd.1; have hkd1 := hkd.2 (by omega)))
  clear hf hkd HTU
  obtain ⟨k, hk⟩ : ∃ k, f + kd = k := ⟨_, rfl⟩
  rw [hk]
  have hfk : f ≤ k := by omega
  have hk9 : k ≤ 100 := by omega
  clear hk hkd0 hkd1
  have HB3 := hide b3
  have HR5 := hide r5
  clear b3 bw3 r5
  go_loopg [11] ts.length (fun g i wr => ∃ t : Nat, t ≤ ts.length ∧ Hid (g = ts.length - t) ∧ i = .int .i64 t ∧ Below w3.heap.size w3 wr)
  case atStart => exact ⟨0, by omega, by simp [Hid], rfl, Below.refl _ _⟩
  case round =>
    obtain ⟨t, ht, hgt, rfl, hb⟩ := hrel
    have hb2 := HB3.out.trans (hb.mono HB3.out.size)
    by_cases htt : t < ts.length
    · have hrc := HRC.out (t : Int) (by omega) (by omega)
      have hv1 : spansInV ts l (t : Int) = ((spIn ts l (t : Int)).map pairTN, 0) := by unfold spansInV; exact if_pos hrc
      have hv2 : freeAtV ts l (t : Int) f k = (!((spIn ts l (t : Int)).any (hitT f k)), 0) := by
        have h : fcode ts l (t : Int) f k = 0 := by unfold fcode; rw [if_pos hrc, if_pos ⟨inB_t ⟨hf0, by omega⟩, inB_t ⟨hfk, by omega⟩⟩]
        unfold freeAtV; rw [if_pos h]
      have HC1 := hide (HPS.out (t : Int) wr (by omega) (by omega) hb2)
      have HC2 := hide fun W (hW : Below w2.heap.size w2 W) => HPF.out (t : Int) f k W (by omega) (by omega) (by omega) (by omega) (by omega) (by omega) hW
      rw [hv1] at HC1
      rw [hv2] at HC2
      have HUT := hide (HUA.out (t : Int) (by omega))
      have HBT := hide (HBD.out (t : Int))
      have hsl := HSL.out (t : Int)
      have HST : Hid (SortedT (spIn ts l (t : Int))) := HSO.out (t : Int)
      have HB2' := hide hb2
      have HBI := hide hb
      have hsl9 : (spIn ts l (t : Int)).length ≤ 48 := by omega
      clear hrc hv1 hv2 hsl hb2 hb
      generalize spIn ts l (t : Int) = ss at *
      go_wp2_with (first | (go_at_call 71; refine (HC1.out).mono ?_; rintro e w5 ⟨v5, rfl, o5, b5⟩; obtain ⟨⟨A6, c6, hsh⟩, _⟩ : (∃ A c, v5 = .slice A (ss.map pairTN).length c) ∧ True := (by obtain ⟨A, c, h, _⟩ := o5.r; exact ⟨⟨A, c, h⟩, trivial⟩); rw [List.length_map] at hsh; subst hsh; have b25 := HB2'.out.trans (b5.mono HB2'.out.size)) | (go_at_call 72; refine (HC2.out _ b25).mono ?_; rintro e w6 ⟨rfl, b6⟩))
      have r6 := ((trn o5.r).below b6).more b6.size
      have HRS := hide r6
      have HB6 := hide (HBI.out.trans ((b5.trans (b6.mono b5.size)).mono HBI.out.size))
      clear o5 b5 b6 b25 r6 HC1 HC2
      go_loopg [16, 17, 18] ss.length (fun g sm nn i wr => ∃ (i1 : Nat) (sv : Int) (nv : Bool), i1 ≤ ss.length ∧ Hid (g = ss.length - i1) ∧ i = .int .i64 i1 ∧ sm = .int .i64 sv ∧ nn = .bool nv ∧ 0 ≤ sv ∧ sv ≤ 1012000 * (i1 : Int) ∧ Hid (sv = durT (ss.take i1)) ∧ Hid (nv = !((ss.take i1).any (hitT f k))) ∧ Below w6.heap.size w6 wr)
      case atStart => exact ⟨0, 0, true, by omega, by simp [Hid], rfl, rfl, rfl, by omega, by omega, by simp [Hid, durT], by simp [Hid], Below.refl _ _⟩
      case round =>
        obtain ⟨i, sv, nv, hi, hgi, rfl, rfl, rfl, hs00, hs99, HSV, HNV, hb7⟩ := hrel
        by_cases hit : i < ss.length
        · obtain ⟨pb, po, s, pb', po', pc, rfl, hpb, hpb', hs, ha0, ha1, ha2⟩ := pairs_at (HRS.out.below hb7) hit
          obtain ⟨hs0, hs12, hs3⟩ := HBT.out s (List.mem_of_getElem? hs)
          have HSG := hide hs
          have HSV2 := hide (show sv + (s.c - s.b) = durT (ss.take (i + 1)) by rw [durT_take hs, HSV.out])
          obtain ⟨wU, hwU⟩ : ∃ q, q = wr := ⟨wr, rfl⟩
          subst hwU
          have HBU := hide hb7
          have hpbU : pb < wU.heap.size := Nat.lt_of_lt_of_le hpb hb7.size
          have hpbU' : pb' < wU.heap.size := Nat.lt_of_lt_of_le hpb' hb7.size
          have hi0 : (0 : Int) ≤ (i : Int) := by omega
          have hi9 : (i : Int) < ss.length := by omega
          have HQ1 := hide (show IntKind.i64.wrap (s.c - s.b) = s.c - s.b by rw [IntKind.wrap_i64] <;> omega)
          have HQ2 := hide (show IntKind.i64.wrap (sv + (s.c - s.b)) = sv + (s.c - s.b) by rw [IntKind.wrap_i64] <;> omega)
          clear hs hb7
          go_upto_region 22 with (fail)
          go_cut [146] (fun c wx => c = .bool false ∧ Hid (∃ n, wx = wU.drewN n))
          case first =>
            by_cases hi1 : i = 0
            · have hD0 : decide (0 < i) = false := decide_eq_false (by omega)
              have hD0' : decide ((0 : Int) < (i : Int)) = false := decide_eq_false (by omega)
              have HI := hide hi1
              clear hi1
              go_quiet (fail)
              go_wp2_with fail
              go_meet
              exact ⟨rfl, hide ⟨_, rfl⟩⟩
            · obtain ⟨j, rfl⟩ : ∃ j, i = j + 1 := ⟨i - 1, by omega⟩
              obtain ⟨pb2, po2, s2, pb2', po2', pc2, hA2, hpb2, hpb2', hs2, hc0, hc1, hc2⟩ := pairs_at (HRS.out.below HBU.out) (show j < ss.length by omega)
              cases hA2
              have hnx := sorted_next HST.out hs2 HSG.out
              have HNX := hide hnx
              have hD1 : decide (s.b < s2.b) = false := decide_eq_false (by omega)
              have hj0 : (0 : Int) ≤ (j : Int) := by omega
              have hj9 : (j : Int) < ss.length := by omega
              have hwr : IntKind.i64.wrap (j : Int) = (j : Int) := by rw [IntKind.wrap_i64] <;> omega
              clear hs2 hnx hi1
              by_cases hE : s2.b = s.b
              · have hB1 : (s2.b == s.b) = true := by simp [hE]
                have hD2 : decide (s.c < s2.c) = false := decide_eq_false (by have := HNX.out; omega)
                have HE := hide hE
                clear hE
                go_quiet (fail)
                go_wp2_with fail
                go_meet
                exact ⟨rfl, hide ⟨_, rfl⟩⟩
              · have hB1 : (s2.b == s.b) = false := by simp [hE]
                have HE := hide hE
                clear hE
                go_quiet (fail)
                go_wp2_with fail
                go_meet
                exact ⟨rfl, hide ⟨_, rfl⟩⟩
          case rest =>
            obtain ⟨rfl, hwd⟩ := hcut
            obtain ⟨nd, rfl⟩ := hwd.out
            go_wp2_with fail
            have hq1 := HQ1.out
            have hq2 := HQ2.out
            go_quiet (fail)
            clear hq1 hq2
            go_wp2_with fail
            go_loopg [17, 19] (k - f).toNat (fun g nn i wr => ∃ (n : Nat) (nv2 : Bool), f + (n : Int) ≤ k ∧ Hid (g = (k - (f + (n : Int))).toNat) ∧ i = .int .i64 (f + (n : Int)) ∧ nn = .bool nv2 ∧ Hid (nv2 = (nv && nbT f n s)) ∧ Below wU.heap.size wU wr)
            case atStart => exact ⟨0, nv, by omega, by simp [Hid], by simp, rfl, by simp [Hid, nbT], by first | exact bdn (bdn (Below.refl _ _) _) _ | exact bdn (Below.refl _ _) _⟩
            case round =>
              obtain ⟨n, nv2, hn, hgn, rfl, rfl, HN, hbn⟩ := hrel
              by_cases hnt : f + (n : Int) < k
              · have cp := (hbn.cell (p := ⟨pb, po + i, none⟩) hpbU).trans ha0
                have c1 := (hbn.cell (p := ⟨pb', po', none⟩) hpbU').trans ha1
                have c2 := (hbn.cell (p := ⟨pb', po' + 1, none⟩) hpbU').trans ha2
                have HBN := hide hbn
                clear hbn
                cases nv2
                · have HN2 := hide (show false = (nv && nbT f (n + 1) s) by
                    rw [nbT_succ, ← Bool.and_assoc, ← HN.out]; rfl)
                  as_aux_lemma =>
                    go_wp2_with fail
                    go_roundg (k - (f + ((n + 1 : Nat) : Int))).toNat
                    case measure => have := hgn.out; omega
                    case rel => exact ⟨n + 1, false, by omega, rfl, by go_num, rfl, HN2, HBN.out⟩
                · by_cases h1 : f + (n : Int) < s.b
                  · have HN2 := hide (show true = (nv && nbT f (n + 1) s) by
                      rw [nbT_succ, ← Bool.and_assoc, ← HN.out, decide_eq_true (show f + (n : Int) < s.b ∨ s.c ≤ f + (n : Int) from .inl h1)]; rfl)
                    as_aux_lemma =>
                      go_wp2_with fail
                      go_roundg (k - (f + ((n + 1 : Nat) : Int))).toNat
                      case measure => have := hgn.out; omega
                      case rel => exact ⟨n + 1, true, by omega, rfl, by go_num, rfl, HN2, HBN.out⟩
                  · by_cases h2 : s.c ≤ f + (n : Int)
                    · have HN2 := hide (show true = (nv && nbT f (n + 1) s) by
                        rw [nbT_succ, ← Bool.and_assoc, ← HN.out, decide_eq_true (show f + (n : Int) < s.b ∨ s.c ≤ f + (n : Int) from .inr h2)]; rfl)
                      as_aux_lemma =>
                        go_wp2_with fail
                        go_roundg (k - (f + ((n + 1 : Nat) : Int))).toNat
                        case measure => have := hgn.out; omega
                        case rel => exact ⟨n + 1, true, by omega, rfl, by go_num, rfl, HN2, HBN.out⟩
                    · have HN2 := hide (show false = (nv && nbT f (n + 1) s) by
                        rw [nbT_succ, ← Bool.and_assoc, ← HN.out, decide_eq_false (show ¬ (f + (n : Int) < s.b ∨ s.c ≤ f + (n : Int)) by omega)]; rfl)
                      as_aux_lemma =>
                        go_wp2_with fail
                        go_roundg (k - (f + ((n + 1 : Nat) : Int))).toNat
                        case measure => have := hgn.out; omega
                        case rel => exact ⟨n + 1, false, by omega, rfl, by go_num, rfl, HN2, HBN.out⟩
              · have hkn : n = (k - f).toNat := by omega
                have HNF := hide (show nv2 = !((ss.take (i + 1)).any (hitT f k)) by
                  rw [HN.out, take_any' HSG.out, HNV.out, hkn, nb_hit (by omega) hs12 hs0]
                  cases (ss.take i).any (hitT f k) <;> cases hitT f k s <;> rfl)
                have bnew := HBU.out.trans (hbn.mono HBU.out.size)
                clear hkn
                as_aux_lemma =>
                  go_wp2_with fail
                  go_roundg (ss.length - (i + 1))
                  case measure => have := hgi.out; omega
                  case rel => exact ⟨i + 1, sv + (s.c - s.b), nv2, by omega, rfl, by go_num, by go_num, rfl, by omega, by omega, HSV2, HNF, bnew⟩
        · have hfull : ss.take i = ss := List.take_of_length_le (by omega)
          have HNF := hide (show nv = !(ss.any (hitT f k)) by rw [HNV.out, hfull])
          have HSF := hide (show sv = atZ (usedOf ts l) (t : Int) by rw [HSV.out, hfull, HUT.out])
          have b37 := HB6.out.trans (hb7.mono HB6.out.size)
          obtain ⟨ub, uo, uz, rfl, hub, huz, huc⟩ := (HR5.out.below b37).at_ (show t < (usedOf ts l).length by rw [HUL.out]; omega)
          have hsu : sv = uz := by rw [HSF.out]; exact atZ_get huz
          have ht0 : (0 : Int) ≤ (t : Int) := by omega
          have hul1 : (t : Int) < ((usedOf ts l).length : Int) := by rw [HUL.out]; omega
          have hnv := HNF.out
          subst hsu
          clear hfull huz
          generalize (!(ss.any (hitT f k))) = fr at *
          subst hnv
          as_aux_lemma =>
            go_wp2_with fail
            go_roundg (ts.length - (t + 1))
            case measure => have := hgt.out; omega
            case rel => exact ⟨t + 1, by omega, rfl, by go_num, b37⟩
    · have hcast : ((l.length : Int) == 0) = decide (l.length = 0) := by by_cases h : l.length = 0 <;> simp [h]
      have bwr := HB2.out.trans (hb2.mono HB2.out.size)
      by_cases hn0 : l.length = 0
      · rw [decide_eq_true hn0] at hcast
        clear hn0
        as_aux_lemma =>
          go_wp2_with fail
          go_ret
          exact ⟨rfl, bwr⟩
      rw [decide_eq_false hn0] at hcast
      have hl1 : 1 ≤ l.length := by omega
      clear hn0
      have HBW := hide bwr
      have HBR := hide hb2
      clear hb bwr hb2
      go_wp2_with (first | (go_at_call 18; (with_reducible refine (HA2.out (l.length : Int) _ HBW.out).mono ?_); rintro e3 w4 ⟨kk, rfl, hkk, rfl⟩; have hkk0 := hkk.1; have hkk1 := hkk.2 (by omega)) | (go_at_call 18; refine (HA3.out _ HBW.out).mono ?_; rintro e3 w4 ⟨by1, rfl, hby, rfl⟩; have hby0 := hby.1; have hby1 := hby.2 (by omega); obtain ⟨kn, rfl⟩ := Int.eq_ofNat_of_zero_le hkk0; have HC := hide (HPD.out (kn : Int) by1 wr (by omega) (by omega) (by omega) (by omega) HBR.out); have hek := List.getElem?_eq_getElem (show kn < l.length by omega); have hpk := HRUN.out _ (List.mem_of_getElem? hek); have hdv : delayRun ts l (kn : Int) by1 = (l.set kn ⟨(l[kn]'(by omega)).way, (l[kn]'(by omega)).p + by1, (l[kn]'(by omega)).q⟩, 0) := (by unfold delayRun; rw [if_pos HV.out, if_pos ⟨⟨by omega, by omega⟩, by omega, by omega⟩]; unfold lateR; rw [Int.toNat_natCast, hek]; rw [if_pos (by simp only [Option.map_some, Option.getD_some]; omega)]); rw [hdv] at HC) | (go_at_call 73; refine (HC.out).mono ?_; rintro e w5 ⟨v5, rfl, o5, b5⟩; obtain ⟨A6, c6, hsh⟩ : (∃ A c, v5 = .slice A l.length c) := (by obtain ⟨A, c, h, _⟩ := o5.r; rw [List.length_set] at h; exact ⟨A, c, h⟩); subst hsh))
      have b25 := HBR.out.trans (b5.mono HBR.out.size)
      have HLR := hide (trn o5.r)
      have HRR := hide ((HRN.out.below b25).more b25.size)
      have HPB := hide fun e (he : e ∈ l) => (show 0 ≤ e.p ∧ e.p ≤ 49 ∧ e.way.length ≤ 12 from by have := HRUN.out e he; exact ⟨this.2.1, this.2.2, this.1.1.2⟩)
      have HEN := hide (HBW.out.trans (b5.mono HBW.out.size))
      have HEK := hide hek
      have hkl : kn < l.length := by omega
      clear o5 b5 b25 hkk hby hdv hek hpk HC
      go_loopg [24] l.length (fun g i wr => ∃ m : Nat, m ≤ l.length ∧ Hid (g = l.length - m) ∧ i = .int .i64 m ∧ Below w5.heap.size w5 wr)
      case atStart => exact ⟨0, by omega, by simp [Hid], rfl, Below.refl _ _⟩
      case round =>
        obtain ⟨m, hm, hgm, rfl, hbm⟩ := hrel
        by_cases hml : m < l.length
        · obtain ⟨q1, p1, e, Aw, cw, rfl, hq1, he, hrw, hc0, hc1', _⟩ := (HRR.out.below hbm).at_ (by omega) hml
          obtain ⟨q2, p2, d, Ad, cd, rfl, hq2, hd, hrd, hd0, hd1', _⟩ := (HLR.out.below hbm).at_ (k := m) (by omega) (by rw [List.length_set]; exact hml)
          have hc1 := hc1' (by omega)
          have hd1 := hd1' (by omega)
          obtain ⟨hpe0, hpe1, hwl⟩ := HPB.out e (List.mem_of_getElem? he)
          have hm0 : (0 : Int) ≤ (m : Int) := by omega
          have hm9 : (m : Int) < l.length := by omega
          have hm9' : (m : Int) < (l.set kn ⟨(l[kn]'hkl).way, (l[kn]'hkl).p + by1, (l[kn]'hkl).q⟩).length := by rw [List.length_set]; omega
          have HBM := hide hbm
          clear hc1' hd1' hbm
          by_cases hmk : m = kn
          · have hde : d = ⟨e.way, e.p + by1, e.q⟩ := by
              subst hmk
              rw [List.getElem?_set_self hml] at hd
              have h1 := Option.some.inj hd
              have h2 : l[m] = e := Option.some.inj ((List.getElem?_eq_getElem hml).symm.trans he)
              rw [← h1, h2]
            subst hde
            dsimp only at hrd hd0 hd1
            have HSA := hide fun n => (a2SameR_any e.way Ad Aw cd cw (wr.drewN n) (by omega) ((hrd.more HBM.out.size).below (bdn (Below.refl _ _) n)) ((hrw.more HBM.out.size).below (bdn (Below.refl _ _) n))).mono (R' := fun e' w'' => e' = .returned (.bool true) ∧ ∃ q, w'' = wr.drewN q) (fun _ _ ⟨h1, q, h2⟩ => ⟨h1, n + q, by rw [h2]; simp [World.drewN, Nat.add_assoc]⟩)
            have hB : ((m : Int) == (kn : Int)) = true := by simp [hmk]
            have HMK := hide hmk
            clear hmk he hd hrd hrw
            as_aux_lemma =>
              go_wp2_with fail
              go_quiet ((go_at_call 74; exact HSA.out _))
              go_wp2_with fail
              go_roundg (l.length - (m + 1))
              case measure => have := hgm.out; omega
              case rel => exact ⟨m + 1, by omega, rfl, by go_num, bdn HBM.out _⟩
          · have hde : d = e := by
              rw [List.getElem?_set_ne (fun h => hmk h.symm)] at hd
              exact Option.some.inj (hd.symm.trans he)
            subst hde
            have HSA := hide fun n => (a2SameR_any d.way Ad Aw cd cw (wr.drewN n) (by omega) ((hrd.more HBM.out.size).below (bdn (Below.refl _ _) n)) ((hrw.more HBM.out.size).below (bdn (Below.refl _ _) n))).mono (R' := fun e' w'' => e' = .returned (.bool true) ∧ ∃ q, w'' = wr.drewN q) (fun _ _ ⟨h1, q, h2⟩ => ⟨h1, n + q, by rw [h2]; simp [World.drewN, Nat.add_assoc]⟩)
            have hB : ((m : Int) == (kn : Int)) = false := by simp; omega
            have HMK := hide hmk
            clear hmk he hd hrd hrw
            as_aux_lemma =>
              go_wp2_with fail
              go_quiet ((go_at_call 74; exact HSA.out _))
              go_wp2_with fail
              go_roundg (l.length - (m + 1))
              case measure => have := hgm.out; omega
              case rel => exact ⟨m + 1, by omega, rfl, by go_num, bdn HBM.out _⟩
        · go_wp2_with fail
          go_ret
          exact ⟨rfl, HEN.out.trans (hbm.mono HEN.out.size)⟩
theorem fnTubeUse_own : ownKnob Try.prog.godebug = none := by kernel_rfl
theorem fnTubeUse_laid : laidOutB Try.prog = true := by kernel_rfl
set_option maxRecDepth 100000 in
theorem fnTubeUse_lifted (os : Os) (started : os.Started) (H : Type) (enc : TypeId × Value → H) :
    ReturnsInHanded {} Try.checked os 9 .any (Rows.fnTubeUseSpec.pre6 enc Try.prog Try.f9 Rows.fnTubeUseRow.domain false) (Rows.fnTubeUseSpec.post enc Try.prog Try.f9 false true false false) := by
  refine returnsInHanded_of_change (C := Try.checked) fnTubeUse_own started (by kernel_rfl) Try.func9
    (ChangeSpec.witness6 (enc := enc) (C := Try.checked) false ⟨#[], #[.slice none 0 0, .slice none 0 0], []⟩ 8 (by kernel_rfl) (by kernel_rfl) (by kernel_rfl) (by kernel_rfl)) ?_
  intro W base args ds gs before hval0 hW hcnd _
  have hval : ∀ (j : Nat) t v, Try.f9.params[j]? = some t → args[j]? = some v → Value.okWide Try.prog W .any base t v := hval0
  have hW' := hW
  obtain ⟨p, q, hA0, hV, rfl, hfz, hnd⟩ := hW
  have hA : DataW.TrodAll enc Try.prog W 0 (fun _ => true) true Try.f9.params.toList args.toList ds p := hA0
  rw [Try.params9] at hA hval
  obtain ⟨v0, vs0, d0, ds0, p0, q0, hargs, rfl, rfl, h0, r0⟩ := trodAll_cons hA
  obtain ⟨v1, vs1, d1, ds1, p1, q1, rfl, rfl, rfl, h1, r1⟩ := trodAll_cons r0
  obtain ⟨rfl, rfl, rfl⟩ := trodAll_nil r1
  obtain rfl : args = #[v0, v1] := by cases args; simp_all
  obtain ⟨rfl, rfl⟩ := trodVars_none hV
  have k0 := h0
  have lt0 : ∀ x ∈ p0, x.block < W.heap.size := by obtain ⟨m, hm⟩ := k0; exact DataW.trod_lt m _ _ _ hm
  obtain ⟨A0, c0, zs0, rfl, rd0, len0, bd0⟩ := open_B Try.underlying22 Try.underlying5 (by kernel_rfl) (hval 0 22 v0 rfl rfl) h0
  have k1 := h1
  have lt1 : ∀ x ∈ p1, x.block < W.heap.size := by obtain ⟨m, hm⟩ := k1; exact DataW.trod_lt m _ _ _ hm
  obtain ⟨A1, c1, zs1, rfl, rd1, len1, bd1⟩ := open_B Try.underlying22 Try.underlying5 (by kernel_rfl) (hval 1 22 v1 rfl rfl) h1
  clear hA0 hval0
  refine (lTubeUse_walk zs0 (.slice A0 zs0.length c0) zs1 (.slice A1 zs1.length c1) W ⟨A0, c0, rfl, rd0⟩ len0 bd0 ⟨A1, c1, rfl, rd1⟩ len1 bd1).mono fun e W' ⟨he, bel⟩ => ?_
  subst he
  exact ⟨_, rfl, _, _, _, [], _, [], hW', trodAll_mk1 (shut_bool Try.underlying4 _), (trodAll_cons_mk (Below.trod fnTubeUse_laid (by kernel_rfl) (of_decide_eq_true (by kernel_rfl)) k0 bel lt0) (trodAll_cons_mk (Below.trod fnTubeUse_laid (by kernel_rfl) (of_decide_eq_true (by kernel_rfl)) k1 bel lt1) trodAll_mk0)), rfl, bel.frame _, fun h => by cases h⟩
theorem fnTubeUse_holds : Rows.FnTubeUseSaid :=
  OpenClaim.holds_of_wide 9 Try.f9 rfl rfl rfl rfl rfl rfl rfl ⟨rfl, rfl, rfl, rfl, rfl⟩ rfl rfl rfl rfl rfl (by kernel_rfl) Try.func9 (by kernel_rfl)
    (of_decide_eq_true (by kernel_rfl)) (by unfold Func.isWrapper; first | (rw [if_pos (by decide +kernel)]; kernel_rfl) | (rw [if_neg (by decide +kernel)]; exact ⟨rfl, rfl⟩))
    (fun os started H enc _ => fnTubeUse_lifted os started H enc)
#print axioms fnTubeUse_holds
end Go.Proofs.Ytfhociekhffjhaa
