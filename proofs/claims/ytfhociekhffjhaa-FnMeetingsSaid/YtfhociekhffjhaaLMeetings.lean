/-
  The law FnMeetings returns true for every input. No condition.
-/
import Derived.Test.YtfhociekhffjhaaMeet
import Derived.Test.YtfhociekhffjhaaSrc7
import Derived.Test.YtfhociekhffjhaaLawH
import Derived.Test.YtfhociekhffjhaaRows
import Derived.Test.YtfhociekhffjhaaOpenB
import Derived.ProofKit
import Derived.OpenShut
namespace Go.Proofs.Ytfhociekhffjhaa
open Go.ChangeShapes Go.WideShapes Go.ChangeAt Go.RowKit

theorem mdrawn_run {ts : List Int} (h1 : (1 ≤ ts.length ∧ ts.length ≤ 6) ∧ ∀ z ∈ ts, 1 ≤ z ∧ z ≤ 12) {e : TN} (h : RDrawn ts.length e) : OkWay ts e.way ∧ 0 ≤ e.p ∧ e.p ≤ 49 := by
  obtain ⟨⟨⟨a1, a2⟩, a3⟩, ⟨b1, b2⟩, _⟩ := h
  exact ⟨⟨⟨a1, by omega⟩, a3⟩, b1, b2⟩
theorem mdrawn_times {ts : List Int} (h1 : (1 ≤ ts.length ∧ ts.length ≤ 6) ∧ ∀ z ∈ ts, 1 ≤ z ∧ z ≤ 12) : OkTimes ts :=
  ⟨⟨h1.1.1, by omega⟩, fun z hz => by have := h1.2 z hz; omega⟩
theorem fmV_shape (o : Option (Nat × Nat × Int)) : ∃ a b c d : Int, fmV o = .tuple #[.int .i64 a, .int .i64 b, .int .i64 c, .int .i64 d] ∧ (∀ i k t, o = some (i, k, t) → (i : Int) = a ∧ (k : Int) = b ∧ t = c ∧ d = 0) ∧ (o = none → d = 3) := by
  match o with
  | none => exact ⟨0, 0, 0, 3, rfl, (fun _ _ _ h => by cases h), fun _ => rfl⟩
  | some (i, k, t) => exact ⟨i, k, t, 0, rfl, (fun _ _ _ h => by injection h with h; injection h with h1 h2; injection h2 with h2 h3; subst h1 h2 h3; exact ⟨rfl, rfl, rfl, rfl⟩), (fun h => by cases h)⟩
theorem meet_max {s t : T3} (h1 : s.b < s.c) (h2 : t.b < t.c) : (decide (s.a = t.a) && decide (max s.b t.b < min s.c t.c)) = meet s t := by
  rw [Bool.eq_iff_iff, meet_iff]
  simp only [Bool.and_eq_true, decide_eq_true_eq]
  omega
theorem take_any {p : T3 → Bool} {x : List T3} {k : Nat} {a : T3} (h : x[k]? = some a) : (x.take (k + 1)).any p = ((x.take k).any p || p a) := by
  obtain ⟨hk, rfl⟩ := List.getElem?_eq_some_iff.1 h
  rw [List.take_succ_eq_append_getElem hk, List.any_append]; simp
set_option maxRecDepth 100000 in
set_option maxHeartbeats 8000000 in
theorem lMeetings_walk (x : List Int) (v : Value) (y : List Int) (u : Value) (w : World) (r : ∃ A c, v = .slice A x.length c ∧ RdB w w.heap.size A x) (nx : x.length ≤ 9223372036854775807) (fx : ∀ z ∈ x, 0 ≤ z ∧ z ≤ 255) (r2 : ∃ A c, u = .slice A y.length c ∧ RdB w w.heap.size A y) (ny : y.length ≤ 9223372036854775807) (fy : ∀ z ∈ y, 0 ≤ z ∧ z ≤ 255) :
    Calls Try.prog 3 #[v, u] w fun e w' => e = .returned (.bool true) ∧ Below w.heap.size w w' := by
  obtain ⟨A, c, rfl, r⟩ := r
  obtain ⟨A2, c2, rfl, r2⟩ := r2
  have HL := hide (a2Long_any x.length y.length A A2 c c2 w nx ny)
  by_cases hlong : 3000 < x.length ∨ 3000 < y.length
  · rw [decide_eq_true hlong] at HL
    clear hlong r r2
    go_enter Try.func3, Try.ntmps3
    go_wp2_with (go_at_call 11; refine (HL.out).mono ?_; rintro e w' ⟨rfl, rfl⟩)
    go_ret
    exact ⟨rfl, Below.refl _ _⟩
  rw [decide_eq_false hlong] at HL
  have HT := hide (a2Times_any x A c w ⟨by omega, fx⟩ r)
  have HW := hide fun n A3 c3 W (hW : Below w.heap.size w W) (hn : 1 ≤ n) (hn6 : n ≤ 1000) => a2Runs_any y A2 c2 A3 n c3 W ⟨by omega, fy⟩ hn hn6 ((r2.below hW).more hW.size)
  clear hlong r r2 fx fy nx ny
  go_enter Try.func3, Try.ntmps3
  go_wp2_with (first | (go_at_call 11; refine (HL.out).mono ?_; rintro e w' ⟨rfl, rfl⟩) | (go_at_call 12; refine (HT.out).mono ?_; rintro e w1 ⟨A3, c3, ts, rfl, o1, hts, b1⟩))
  have HTS := hide hts
  have hts1 := hts.1.1
  have hts6 := hts.1.2
  clear hts HT HL
  go_wp2_with (go_at_call 13; refine (HW.out _ _ _ _ b1 hts1 (by omega)).mono ?_; rintro e w2 ⟨A4, c4, l, rfl, o2, hl, b2⟩; obtain ⟨vv, hvv⟩ : ∃ q, Hid (q = Value.slice A4 l.length c4) := ⟨_, rfl⟩; rw [← hvv.out])
  obtain rfl := hvv.out
  have bw2 : Below w.heap.size w w2 := b1.trans (b2.mono b1.size)
  have HRUN := hide fun e (he : e ∈ l) => mdrawn_run HTS.out (hl.2 e he)
  have HTO := hide (mdrawn_times HTS.out)
  have hl4 := hl.1
  have o1' := o1.below b2 (Nat.le_refl _)
  have HRT := hide (show RdI w2 w2.heap.size A3 ts from by
    obtain ⟨A', c', e, h⟩ := o1'.r
    simp only [Value.slice.injEq] at e
    obtain ⟨rfl, _, _⟩ := e
    exact h)
  have HRN := hide (show RN 1 w2 w2.heap.size A4 l from by
    obtain ⟨A', c', e, h⟩ := o2.r
    simp only [Value.slice.injEq] at e
    obtain ⟨rfl, _, _⟩ := e
    exact h)
  have hcap : l.length ≤ c4 := by obtain ⟨_, _, h, _⟩ := o2; exact cap_of h _ _ _ rfl
  have HB2 := hide bw2
  have HFI := hide (firstMeeting_any ts l A3 c3 A4 c4 w2 HTO.out (by omega) (fun e he => by have := HRUN.out e he; exact ⟨this.1, by omega, by omega⟩) hcap HRT.out HRN.out)
  have HSI := hide fun (way : List Int) (f : Int) Aw cw W (hW : Below w2.heap.size w2 W) (hw : OkWay ts way) (hf : 0 ≤ f) (hf' : f ≤ 100000) (h : RdI W W.heap.size Aw way) => implSpansOf_any ts way f A3 c3 Aw cw W HTO.out hw hf hf' ((HRT.out.below hW).more hW.size) h
  have HSS := hide fun (way : List Int) (f : Int) Aw cw W (hW : Below w2.heap.size w2 W) (hw : OkWay ts way) (hf : 0 ≤ f) (hf' : f ≤ 100000) (h : RdI W W.heap.size Aw way) => specSpansOf_any ts way f A3 c3 Aw cw W HTO.out hw hf hf' ((HRT.out.below hW).more hW.size) h
  have HEN := hide fun (way : List Int) (f : Int) Aw cw W (hW : Below w2.heap.size w2 W) (hw : OkWay ts way) (hf : 0 ≤ f) (hf' : f ≤ 100000) (h : RdI W W.heap.size Aw way) => implEndOfRun_any ts way f A3 c3 Aw cw W HTO.out hw hf hf' ((HRT.out.below hW).more hW.size) h
  obtain ⟨fi, fk, ft, fc, hfv, hf1, hf2⟩ := fmV_shape (fmGo ts l l 0)
  rw [hfv] at HFI
  have HFM := hide hf1
  have HFZ := hide hf2
  clear hl o1 o2 o1' HW b1 b2 bw2 hfv hf1 hf2
  go_wp2_with (go_at_call 14; refine (HFI.out).mono ?_; rintro e w3 ⟨rfl, b3⟩)
  have HB3 := hide b3
  clear b3 HFI
  go_loopg [11] l.length (fun g i wr => ∃ k : Nat, k ≤ l.length ∧ Hid (g = l.length - k) ∧ i = .int .i64 k ∧ Hid (fmGo ts l l 0 = fmGo ts l (l.drop k) k) ∧ Below w2.heap.size w2 wr)
  case atStart => exact ⟨0, by omega, by simp [Hid], rfl, by simp [Hid], HB3.out⟩
  case round =>
    obtain ⟨x1, hx, hgx, rfl, HF, hb⟩ := hrel
    by_cases hlt : x1 < l.length
    · obtain ⟨xb, xo, ex, Ax, cx, rfl, hxb, hex, hrx, hx0', hx1', _⟩ := HRN.out.at_ (by omega) hlt
      obtain ⟨hox, hpx0, hpx1⟩ := HRUN.out ex (List.mem_of_getElem? hex)
      have hx0 := (hb.cell (p := ⟨xb, xo + x1 * 2, none⟩) hxb).trans hx0'
      have hx1 := (hb.cell (p := ⟨xb, xo + x1 * 2 + 1, none⟩) hxb).trans (hx1' (by omega))
      have HX0 := hide hx0'
      have HX1 := hide (hx1' (by omega))
      have HRX := hide hrx
      have HF' := HF.out
      rw [fmGo_drop hex] at HF'
      have HQ := hide HF'
      have HC1 := hide (HSI.out ex.way ex.p Ax cx wr hb hox hpx0 (by omega) ((hrx.below hb).more hb.size))
      have HC2 := hide fun W (hW : Below w2.heap.size w2 W) => HEN.out ex.way ex.p Ax cx W hW hox hpx0 (by omega) ((hrx.below hW).more hW.size)
      have hlx := spGo_len ts ex.way ex.p
      have hxw := hox.1.2
      have HOX := hide hox
      have HSB := hide (fun s hs => spGo_ge HTO.out hox.2 (f := ex.p) s hs)
      have HSA := hide (fun s hs => spGo_a (ts := ts) (way := ex.way) (f := ex.p) (fun t ht => (hox.2 t ht).1) s hs)
      have HBX := hide hb
      have hb0 : (xb < wr.heap.size) := Nat.lt_of_lt_of_le hxb hb.size
      clear HF HF' hex hrx hx0' hx1' hb hox
      go_wp2_with (first | (go_at_call 15; refine (HC1.out).mono ?_; rintro e w4 ⟨A5, c5, rfl, r5, b4⟩; have bw4 := HBX.out.trans (b4.mono HBX.out.size); have y0 := (bw4.cell (p := ⟨xb, xo + x1 * 2, none⟩) hxb).trans HX0.out; have y1 := (bw4.cell (p := ⟨xb, xo + x1 * 2 + 1, none⟩) hxb).trans HX1.out) | (go_at_call 16; refine (HC2.out _ bw4).mono ?_; rintro e w5 ⟨rfl, b5⟩; have bw5 := bw4.trans (b5.mono bw4.size); have z0 := (bw5.cell (p := ⟨xb, xo + x1 * 2, none⟩) hxb).trans HX0.out; have z1 := (bw5.cell (p := ⟨xb, xo + x1 * 2 + 1, none⟩) hxb).trans HX1.out))
      have HS5 := hide ((r5.below b5).more b5.size)
      have HB5 := hide bw5
      have HEG := hide (show endGo ts ex.p ex.way = endGo ts ex.p (ex.way.drop 0) by rw [List.drop_zero])
      generalize hen : endGo ts ex.p ex.way = en at *
      have hsl1 : (spGo ts ex.p ex.way).length ≤ ex.way.length := by omega
      have hsl2 : ex.way.length ≤ (spGo ts ex.p ex.way).length := by omega
      clear y0 y1 b4 b5 bw4 bw5 r5 hx0 hx1 HC1 HC2 hen hlx z0 z1
      go_loopg [16, 17] ex.way.length (fun g a j wr => ∃ (k : Nat) (at_ : Int), k ≤ ex.way.length ∧ Hid (g = ex.way.length - k) ∧ j = .int .i64 k ∧ a = .int .i64 at_ ∧ 0 ≤ at_ ∧ at_ ≤ 49 + 1000 * k ∧ Hid (en = endGo ts at_ (ex.way.drop k)) ∧ Hid ((spGo ts ex.p ex.way).drop k = spGo ts at_ (ex.way.drop k)) ∧ Below w5.heap.size w5 wr)
      case atStart => exact ⟨0, ex.p, by omega, by simp [Hid], rfl, rfl, by omega, by omega, HEG.out, by simp [Hid], Below.refl _ _⟩
      case round =>
        obtain ⟨j1, at_, hj, hgj, rfl, rfl, ha0, ha1, HE, HD, hb4⟩ := hrel
        have bwr := HB5.out.trans (hb4.mono HB5.out.size)
        by_cases hlt2 : j1 < ex.way.length
        · obtain ⟨pb, po, s, pb', po', pc, rfl, hpb, hpb', hs, hs0, hs1, hs2, hs3⟩ := spans_at (HS5.out.below hb4) (show j1 < (spGo ts ex.p ex.way).length by omega)
          obtain ⟨wb, wo, t1, rfl, hwb, ht, hwc⟩ := (HRX.out.below bwr).at_ hlt2
          obtain ⟨ht0, ht9⟩ := HOX.out.2 t1 (List.mem_of_getElem? ht)
          obtain ⟨n1, rfl⟩ := Int.eq_ofNat_of_zero_le ht0
          obtain ⟨tb, to, tv, rfl, htb, htv, htc⟩ := (HRT.out.below bwr).at_ (show n1 < ts.length by omega)
          have htv9 := HTS.out.2 tv (List.mem_of_getElem? htv)
          have hx0 := (bwr.cell (p := ⟨xb, xo + x1 * 2, none⟩) hxb).trans HX0.out
          have hx1 := (bwr.cell (p := ⟨xb, xo + x1 * 2 + 1, none⟩) hxb).trans HX1.out
          have hD := HD.out
          rw [drop_cons hs, spGo_drop ht, tm_get htv] at hD
          injection hD with hD1 hD2
          have hE := HE.out
          rw [endGo_drop ht, tm_get htv] at hE
          have HD2 := hide hD2
          have HE2 := hide hE
          subst hD1
          have hn0 : (0 : Int) ≤ (n1 : Int) := by omega
          have hn9 : (n1 : Int) < ts.length := by omega
          have hj0 : (0 : Int) ≤ (j1 : Int) := by omega
          have hj9 : (j1 : Int) < ex.way.length := by omega
          have hi0 : (0 : Int) ≤ (x1 : Int) := by omega
          have hi9 : (x1 : Int) < l.length := by omega
          obtain ⟨htv1, htv2⟩ := htv9
          have HBR := hide hb4
          dsimp only at hs1 hs2 hs3
          clear hD2 hE HD HE hs ht htv hb4 bwr
          have hq1 : IntKind.i64.wrap (at_ + tv) = at_ + tv := by rw [IntKind.wrap_i64] <;> omega
          have HQ1 := hide hq1
          as_aux_lemma =>
            go_wp2_with fail
            go_quiet (fail)
            clear hq1
            go_wp2_with fail
            go_roundg (ex.way.length - (j1 + 1))
            case measure => have := hgj.out; omega
            case rel => exact ⟨j1 + 1, at_ + tv, by omega, rfl, by go_num, rfl, by omega, by omega, HE2.out, HD2.out, bdn HBR.out _⟩
        · have hend : en = at_ := by rw [HE.out, List.drop_eq_nil_of_le (by omega)]; rfl
          subst hend
          have HB9 := hide bwr
          have hb45 := hb4
          have HS9 := hide ((HS5.out.below hb4).more hb4.size)
          have hlen1 : decide (j1 < ex.way.length) = false := decide_eq_false hlt2
          obtain ⟨wA, hwA⟩ : ∃ q, q = wr := ⟨wr, rfl⟩
          subst hwA
          clear HE HD hb4 hb45 HEG bwr
          go_wp2_with fail
          go_loopg [18] x1 (fun g i wr => ∃ y1 : Nat, y1 ≤ x1 ∧ Hid (g = x1 - y1) ∧ i = .int .i64 y1 ∧ Hid (fmRow ts ex (l.take x1) 0 = fmRow ts ex ((l.take x1).drop y1) y1) ∧ Below wA.heap.size wA wr)
          case atStart => exact ⟨0, by omega, by simp [Hid], rfl, by simp [Hid], Below.refl _ _⟩
          case round =>
            obtain ⟨y1, hy, hgy, rfl, HR, hb3⟩ := hrel
            have bw := HB9.out.trans (hb3.mono HB9.out.size)
            by_cases hyt : y1 < x1
            · obtain ⟨ob, oo, eo, Ao, co, hoA, hob, heo, hro, ho0', ho1', _⟩ := HRN.out.at_ (by omega) (show y1 < l.length by omega)
              cases hoA
              have ho0 := (bw.cell (p := ⟨xb, xo + y1 * 2, none⟩) hxb).trans ho0'
              have ho1 := (bw.cell (p := ⟨xb, xo + y1 * 2 + 1, none⟩) hxb).trans (ho1' (by omega))
              obtain ⟨hoo, hpo0, hpo1⟩ := HRUN.out eo (List.mem_of_getElem? heo)
              have HR' := HR.out
              rw [fmRow_drop (o := eo) (by rw [List.getElem?_take_of_lt hyt]; exact heo)] at HR'
              have HRQ := hide HR'
              have HC := hide (HSS.out eo.way eo.p Ao co wr bw hoo hpo0 (by omega) ((hro.below bw).more bw.size))
              have HTB := hide (fun s hs => spGo_ge HTO.out hoo.2 (f := eo.p) s hs)
              have hle := spGo_len ts eo.way eo.p
              have hlx := spGo_len ts ex.way ex.p
              have how := hoo.1.2
              have HB3' := hide hb3
              have hy0 : (0 : Int) ≤ (y1 : Int) := by omega
              have hy9 : (y1 : Int) < l.length := by omega
              clear HR HR' heo hro ho0' ho1' hoo hb3 bw
              generalize spGo ts eo.p eo.way = tt at *
              generalize spGo ts ex.p ex.way = ss at *
              have hl1 : ss.length ≤ ex.way.length := by omega
              have hl2 : ex.way.length ≤ ss.length := by omega
              have hl3 : tt.length ≤ eo.way.length := by omega
              have hl4' : eo.way.length ≤ tt.length := by omega
              clear hle hlx
              go_wp2_with (go_at_call 17; refine (HC.out).mono ?_; rintro e w6 ⟨A6, c6, rfl, r6, b6⟩)
              have b96 := HB3'.out.trans (b6.mono HB3'.out.size)
              have T6 := hide r6
              have S6 := hide ((HS9.out.below b96).more b96.size)
              have HB6 := hide b96
              clear b6 b96 r6
              go_loopg [19, 22] ex.way.length (fun g mm i wr => ∃ (m : Nat) (mv : Int), m ≤ ex.way.length ∧ Hid (g = ex.way.length - m) ∧ i = .int .i64 m ∧ mm = .int .i64 mv ∧ Hid ((mv = -1 ∧ meetT ss tt = meetT (ss.drop m) tt) ∨ (0 ≤ mv ∧ meetT ss tt = mv)) ∧ Below w6.heap.size w6 wr)
              case atStart => exact ⟨0, -1, by omega, by simp [Hid], rfl, rfl, hide (.inl ⟨rfl, by rw [List.drop_zero]⟩), Below.refl _ _⟩
              case round =>
                obtain ⟨m, mv, hm, hgm, rfl, rfl, HM, hb6⟩ := hrel
                have hb7 := HB6.out.trans (hb6.mono HB6.out.size)
                by_cases hmt : m < ex.way.length
                · by_cases hm0 : 0 ≤ mv
                  · have HMV : meetT ss tt = mv := by
                      rcases HM.out with h | h
                      · omega
                      · exact h.2
                    have hlt4 : decide (mv < 0) = false := decide_eq_false (by omega)
                    have HFIN := hide (show (meetT ss tt = mv) from HMV)
                    have hmv := hm0
                    have HRN := hide (show fmRow ts ex (l.take x1) 0 = some (y1, mv) by rw [HRQ.out, HFIN.out, if_pos hmv])
                    have HFN := hide (show fmGo ts l l 0 = some (x1, y1, mv) by rw [HQ.out, HRN.out]; rfl)
                    obtain ⟨e1, e2, e3, e4⟩ := HFM.out x1 y1 mv HFN.out
                    have hge : decide (0 ≤ mv) = true := decide_eq_true hmv
                    subst e1 e2 e3 e4
                    have bend := HB2.out.trans ((HB9.out.trans (hb7.mono HB9.out.size)).mono HB2.out.size)
                    clear hlt4
                    as_aux_lemma =>
                      go_wp2_with fail
                      go_ret
                      exact ⟨rfl, bend⟩
                  · have hm1 := HM.out
                    have hmv1 : mv = -1 := by omega
                    subst hmv1
                    obtain ⟨sb, so, s, sb', so', sc, rfl, hsb, hsb', hs, ha0, ha1, ha2, ha3⟩ := spans_at (S6.out.below hb6) (show m < ss.length by omega)
                    have HMQ := hide (show meetT ss tt = if tt.any (meet s) = true then s.a else meetT (ss.drop (m + 1)) tt by
                      rcases hm1 with h | h
                      · rw [h.2, meetT_drop hs]
                      · omega)
                    obtain ⟨hs1, hs2, _⟩ := HSB.out s (List.mem_of_getElem? hs)
                    have hsa := HSA.out s (List.mem_of_getElem? hs)
                    have hm0' : (0 : Int) ≤ (m : Int) := by omega
                    have hm9 : (m : Int) < ex.way.length := by omega
                    have HB7 := hide hb7
                    have T7 := hide ((T6.out.below hb6).more hb6.size)
                    obtain ⟨wB, hwB⟩ : ∃ q, q = wr := ⟨wr, rfl⟩
                    subst hwB
                    have HB6w := hide hb6
                    clear hm1 HM hs hb7 hb6
                    go_wp2_with fail
                    go_loopg [19, 23] eo.way.length (fun g mm i wr => ∃ (k1 : Nat) (mv2 : Int), k1 ≤ eo.way.length ∧ Hid (g = eo.way.length - k1) ∧ i = .int .i64 k1 ∧ mm = .int .i64 mv2 ∧ Hid (mv2 = if (tt.take k1).any (meet s) = true then s.a else -1) ∧ Below wB.heap.size wB wr)
                    case atStart => exact ⟨0, -1, by omega, by simp [Hid], rfl, rfl, hide (by simp), Below.refl _ _⟩
                    case round =>
                      obtain ⟨k1, mv2, hk, hgk, rfl, rfl, HV, hbk⟩ := hrel
                      by_cases hkt : k1 < eo.way.length
                      · obtain ⟨qb, qo, t, qb', qo', qc, rfl, hqb, hqb', ht, hc0, hc1, hc2, hc3⟩ := spans_at (T7.out.below hbk) (show k1 < tt.length by omega)
                        obtain ⟨hu1, hu2, _⟩ := HTB.out t (List.mem_of_getElem? ht)
                        have HT := hide ht
                        have hd0 := (hbk.cell (p := ⟨sb, so + m, none⟩) (Nat.lt_of_lt_of_le hsb HB6w.out.size)).trans ha0
                        have hd1 := (hbk.cell (p := ⟨sb', so', none⟩) (Nat.lt_of_lt_of_le hsb' HB6w.out.size)).trans ha1
                        have hd2 := (hbk.cell (p := ⟨sb', so' + 1, none⟩) (Nat.lt_of_lt_of_le hsb' HB6w.out.size)).trans ha2
                        have hd3 := (hbk.cell (p := ⟨sb', so' + 2, none⟩) (Nat.lt_of_lt_of_le hsb' HB6w.out.size)).trans ha3
                        have hk0 : (0 : Int) ≤ (k1 : Int) := by omega
                        have hk9 : (k1 : Int) < eo.way.length := by omega
                        have HBK := hide hbk
                        clear ht hbk
                        by_cases e1 : s.a = t.a
                        case neg =>
                          have hB : (s.a == t.a) = false := by simp [e1]
                          have HMT := hide (show meet s t = false from by simp [meet, e1])
                          have HVN := hide (show (mv2 : Int) = if (tt.take (k1 + 1)).any (meet s) = true then s.a else -1 by rw [take_any HT.out, HMT.out]; rw [Bool.or_false]; exact HV.out)
                          have E1 := hide e1; clear e1
                          as_aux_lemma =>
                            go_wp2_with fail
                            go_quiet (fail)
                            go_wp2_with fail
                            go_roundg (eo.way.length - (k1 + 1))
                            case measure => have := hgk.out; omega
                            case rel => exact ⟨k1 + 1, mv2, by omega, rfl, by go_num, rfl, HVN, bdn HBK.out _⟩
                        have hB : (s.a == t.a) = true := by simp [e1]
                        obtain ⟨mx, hmx⟩ : ∃ q, (if s.b < t.b then t.b else s.b) = q := ⟨_, rfl⟩
                        obtain ⟨mn, hmn⟩ : ∃ q, (if t.c < s.c then t.c else s.c) = q := ⟨_, rfl⟩
                        have hcm : meet s t = decide (mx < mn) := by
                          rw [← hmx, ← hmn, Bool.eq_iff_iff, meet_iff, decide_eq_true_eq]
                          split <;> split <;> omega
                        have HCM := hide hcm
                        clear hcm
                        by_cases h5 : mx < mn
                        · have HMT := hide (show meet s t = true from by rw [HCM.out]; exact decide_eq_true h5)
                          have HVN := hide (show (s.a : Int) = if (tt.take (k1 + 1)).any (meet s) = true then s.a else -1 by rw [take_any HT.out, HMT.out]; rw [Bool.or_true]; rfl)
                          have E1 := hide e1; clear e1
                          as_aux_lemma =>
                            go_wp2_with fail
                            go_quiet (fail)
                            go_wp2_with fail
                            go_roundg (eo.way.length - (k1 + 1))
                            case measure => have := hgk.out; omega
                            case rel => exact ⟨k1 + 1, s.a, by omega, rfl, by go_num, rfl, HVN, bdn HBK.out _⟩
                        · have h5' : decide (mx < mn) = false := decide_eq_false h5
                          have HMT := hide (show meet s t = false from by rw [HCM.out]; exact h5')
                          have HVN := hide (show (mv2 : Int) = if (tt.take (k1 + 1)).any (meet s) = true then s.a else -1 by rw [take_any HT.out, HMT.out]; rw [Bool.or_false]; exact HV.out)
                          have E1 := hide e1; clear e1
                          as_aux_lemma =>
                            go_wp2_with fail
                            go_quiet (fail)
                            go_wp2_with fail
                            go_roundg (eo.way.length - (k1 + 1))
                            case measure => have := hgk.out; omega
                            case rel => exact ⟨k1 + 1, mv2, by omega, rfl, by go_num, rfl, HVN, bdn HBK.out _⟩
                      · have HAV := hide (show mv2 = if tt.any (meet s) = true then s.a else -1 by rw [HV.out, List.take_of_length_le (by omega)])
                        have HNEW := hide (show ((mv2 = -1 ∧ meetT ss tt = meetT (ss.drop (m + 1)) tt) ∨ (0 ≤ mv2 ∧ meetT ss tt = mv2)) by
                          rw [HMQ.out, HAV.out]
                          cases tt.any (meet s)
                          · left; simp
                          · right; simp; exact hsa)
                        have bnew := HB6w.out.trans (hbk.mono HB6w.out.size)
                        as_aux_lemma =>
                          go_wp2_with fail
                          go_roundg (ex.way.length - (m + 1))
                          case measure => have := hgm.out; omega
                          case rel => exact ⟨m + 1, mv2, by omega, rfl, by go_num, rfl, HNEW, bnew⟩
                · have HMV : meetT ss tt = mv := by
                    rcases HM.out with h | h
                    · rw [h.2, List.drop_eq_nil_of_le (by omega), h.1]; rfl
                    · exact h.2
                  have hlt4 : decide (m < ex.way.length) = false := decide_eq_false hmt
                  have HFIN := hide (show (meetT ss tt = mv) from HMV)
                  by_cases hmv : 0 ≤ mv
                  · have HRN := hide (show fmRow ts ex (l.take x1) 0 = some (y1, mv) by rw [HRQ.out, HFIN.out, if_pos hmv])
                    have HFN := hide (show fmGo ts l l 0 = some (x1, y1, mv) by rw [HQ.out, HRN.out]; rfl)
                    obtain ⟨e1, e2, e3, e4⟩ := HFM.out x1 y1 mv HFN.out
                    have hge : decide (0 ≤ mv) = true := decide_eq_true hmv
                    subst e1 e2 e3 e4
                    have bend := HB2.out.trans ((HB9.out.trans (hb7.mono HB9.out.size)).mono HB2.out.size)
                    clear hlt4
                    as_aux_lemma =>
                      go_wp2_with fail
                      go_ret
                      exact ⟨rfl, bend⟩
                  · have HRN := hide (show fmRow ts ex (l.take x1) 0 = fmRow ts ex ((l.take x1).drop (y1 + 1)) (y1 + 1) by rw [HRQ.out, HFIN.out, if_neg hmv])
                    have hge : decide (0 ≤ mv) = false := decide_eq_false hmv
                    have bend := hb7
                    clear hlt4
                    as_aux_lemma =>
                      go_wp2_with fail
                      go_roundg (x1 - (y1 + 1))
                      case measure => have := hgy.out; omega
                      case rel => exact ⟨y1 + 1, by omega, rfl, by go_num, HRN, bend⟩
            · have HRN2 := hide (show fmRow ts ex (l.take x1) 0 = none by rw [HR.out, List.drop_eq_nil_of_le (by rw [List.length_take]; omega)]; rfl)
              have HFN := hide (show fmGo ts l l 0 = fmGo ts l (l.drop (x1 + 1)) (x1 + 1) by rw [HQ.out, HRN2.out]; rfl)
              as_aux_lemma =>
                go_wp2_with fail
                go_roundg (l.length - (x1 + 1))
                case measure => have := hgx.out; omega
                case rel => exact ⟨x1 + 1, by omega, rfl, by go_num, HFN, bw⟩
    · have HN := hide (HFZ.out (by rw [HF.out, List.drop_eq_nil_of_le (by omega)]; rfl))
      have hfc := HN.out
      subst hfc
      as_aux_lemma =>
        go_wp2_with fail
        go_ret
        exact ⟨rfl, HB2.out.trans (hb.mono HB2.out.size)⟩
theorem fnMeetings_own : ownKnob Try.prog.godebug = none := by kernel_rfl
theorem fnMeetings_laid : laidOutB Try.prog = true := by kernel_rfl
set_option maxRecDepth 100000 in
theorem fnMeetings_lifted (os : Os) (started : os.Started) (H : Type) (enc : TypeId × Value → H) :
    ReturnsInHanded {} Try.checked os 3 .any (Rows.fnMeetingsSpec.pre6 enc Try.prog Try.f3 Rows.fnMeetingsRow.domain false) (Rows.fnMeetingsSpec.post enc Try.prog Try.f3 false true false false) := by
  refine returnsInHanded_of_change (C := Try.checked) fnMeetings_own started (by kernel_rfl) Try.func3
    (ChangeSpec.witness6 (enc := enc) (C := Try.checked) false ⟨#[], #[.slice none 0 0, .slice none 0 0], []⟩ 8 (by kernel_rfl) (by kernel_rfl) (by kernel_rfl) (by kernel_rfl)) ?_
  intro W base args ds gs before hval0 hW hcnd _
  have hval : ∀ (j : Nat) t v, Try.f3.params[j]? = some t → args[j]? = some v → Value.okWide Try.prog W .any base t v := hval0
  have hW' := hW
  obtain ⟨p, q, hA0, hV, rfl, hfz, hnd⟩ := hW
  have hA : DataW.TrodAll enc Try.prog W 0 (fun _ => true) true Try.f3.params.toList args.toList ds p := hA0
  rw [Try.params3] at hA hval
  obtain ⟨v0, vs0, d0, ds0, p0, q0, hargs, rfl, rfl, h0, r0⟩ := trodAll_cons hA
  obtain ⟨v1, vs1, d1, ds1, p1, q1, rfl, rfl, rfl, h1, r1⟩ := trodAll_cons r0
  obtain ⟨rfl, rfl, rfl⟩ := trodAll_nil r1
  obtain rfl : args = #[v0, v1] := by cases args; simp_all
  obtain ⟨rfl, rfl⟩ := trodVars_none hV
  have k0 := h0
  have lt0 : ∀ x ∈ p0, x.block < W.heap.size := by obtain ⟨m, hm⟩ := k0; exact DataW.trod_lt m _ _ _ hm
  obtain ⟨A0, c0, zs0, rfl, rd0, len0, bd0⟩ := open_B Try.underlying22 Try.underlying5 (by kernel_rfl) (hval 0 22 v0 rfl rfl) h0
  have k1 := h1
  have lt1 : ∀ x ∈ p1, x.block < W.heap.size := by obtain ⟨m, hm⟩ := k1; exact DataW.trod_lt m _ _ _ hm
  obtain ⟨A1, c1, zs1, rfl, rd1, len1, bd1⟩ := open_B Try.underlying22 Try.underlying5 (by kernel_rfl) (hval 1 22 v1 rfl rfl) h1
  clear hA0 hval0
  refine (lMeetings_walk zs0 (.slice A0 zs0.length c0) zs1 (.slice A1 zs1.length c1) W ⟨A0, c0, rfl, rd0⟩ len0 bd0 ⟨A1, c1, rfl, rd1⟩ len1 bd1).mono fun e W' ⟨he, bel⟩ => ?_
  subst he
  exact ⟨_, rfl, _, _, _, [], _, [], hW', trodAll_mk1 (shut_bool Try.underlying4 _), (trodAll_cons_mk (Below.trod fnMeetings_laid (by kernel_rfl) (of_decide_eq_true (by kernel_rfl)) k0 bel lt0) (trodAll_cons_mk (Below.trod fnMeetings_laid (by kernel_rfl) (of_decide_eq_true (by kernel_rfl)) k1 bel lt1) trodAll_mk0)), rfl, bel.frame _, fun h => by cases h⟩
theorem fnMeetings_holds : Rows.FnMeetingsSaid :=
  OpenClaim.holds_of_wide 3 Try.f3 rfl rfl rfl rfl rfl rfl rfl ⟨rfl, rfl, rfl, rfl, rfl⟩ rfl rfl rfl rfl rfl (by kernel_rfl) Try.func3 (by kernel_rfl)
    (of_decide_eq_true (by kernel_rfl)) (by unfold Func.isWrapper; first | (rw [if_pos (by decide +kernel)]; kernel_rfl) | (rw [if_neg (by decide +kernel)]; exact ⟨rfl, rfl⟩))
    (fun os started H enc _ => fnMeetings_lifted os started H enc)
#print axioms fnMeetings_holds
end Go.Proofs.Ytfhociekhffjhaa
