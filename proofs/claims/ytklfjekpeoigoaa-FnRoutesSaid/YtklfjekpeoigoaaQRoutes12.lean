/-
  Settings and ways in the program: a way is set, routes, where carriers stop, circles.
-/
import Derived.Test.YtklfjekpeoigoaaQRoutes11
namespace Go.Proofs.Ytklfjekpeoigoaa
open Go.RowKit
theorem setW_len {tb : List T3} : ∀ {p st : List Int}, (setW tb p st).length = st.length := by
  intro p
  induction p with
  | nil => intro st; rfl
  | cons i p ih => intro st; rw [setW, ih, List.length_set]
theorem rdI_at {w : World} {A : Option Addr} {xs : List Int} (h : RdI w w.heap.size A xs) {k : Nat} (hk : k < xs.length) : ∃ b o z, A = some ⟨b, o, none⟩ ∧ b < w.heap.size ∧ xs[k]? = some z ∧ w.cell? ⟨b, o + k, none⟩ = some (.int .i64 z) := h.at_ hk
set_option maxRecDepth 100000 in
set_option maxHeartbeats 4000000 in
theorem setWay_any (n : Nat) (tb : List T3) (st p : List Int) (v u : Int) (A : Option Addr) (c : Nat) (w : World) (h : OkNet n tb) (hr : Rd3 w w.heap.size A tb) (As : Option Addr) (cs : Nat) (hs : OkSet n tb st) (hst : RdI w w.heap.size As st) (Ap : Option Addr) (cp : Nat) (hw : wk tb (-1) p v u) (hnd : (begins tb p ++ [u]).Nodup) (hpl : p.length ≤ 1000) (hp : RdI w w.heap.size Ap p) :
    Calls Try.prog 53 #[.agg #[.int .i64 n, .slice A tb.length c], .slice As st.length cs, .slice Ap p.length cp] w fun e w' => ∃ A' c', e = .returned (.tuple #[.slice A' (setW tb p st).length c', .int .i64 0]) ∧ RdI w' w'.heap.size A' (setW tb p st) ∧ Below w.heap.size w w' := by
  have hn2 := h.1.1
  have hn10 := h.1.2
  have hsl := hs.1
  have HOK := hide (okTubes_of h)
  have b0 : Below w.heap.size w (w.alloc (.cells #[.int .i64 n, .slice A tb.length c] 59)) := (by repeat (first | exact Below.refl _ _ | assumption | (refine Below.alloc ?_ (by simp <;> omega) _) | refine Below.drew ?_ | refine bdn ?_ _))
  have X0 := hide (BoxN.new w #[.int .i64 n, .slice A tb.length c] 59)
  have z0 : w.heap.size < (w.alloc (.cells #[.int .i64 n, .slice A tb.length c] 59)).heap.size := by simp
  have x0 : (w.alloc (.cells #[.int .i64 n, .slice A tb.length c] 59)).cell? ⟨w.heap.size, 0, none⟩ = some (.int .i64 n) := X0.out.cell 0
  have x1 : (w.alloc (.cells #[.int .i64 n, .slice A tb.length c] 59)).cell? ⟨w.heap.size, 1, none⟩ = some (.slice A tb.length c) := X0.out.cell 1
  have HN := hide fun W (hW : Below w.heap.size w W) => ((hr.below hW).more hW.size)
  have Hst := hide fun W (hW : Below w.heap.size w W) => RdI.more (RdI.below hst hW) hW.size
  have Hp := hide fun W (hW : Below w.heap.size w W) => RdI.more (RdI.below hp hW) hW.size
  have HV := hide (wayCode_any n tb st p v u A c (w.alloc (.cells #[.int .i64 n, .slice A tb.length c] 59)) h (HN.out _ b0) As cs hs (Hst.out _ b0) Ap cp hw hnd hpl (Hp.out _ b0))
  have HC := hide fun W (hW : Below w.heap.size w W) => cloneI_any st As cs W (by omega) (Hst.out W hW)
  have HWK := hide hw
  have hsl2 : 2 ≤ st.length := by omega
  have HSL := hide hsl
  clear h hr hst hs hw hnd hp hsl
  go_enter Try.func53, Try.ntmps53
  go_upto_region 1 with fail
  generalize (w.alloc (.cells #[.int .i64 n, .slice A tb.length c] 59)) = w0 at *
  go_upto_region 5 with (first
    | (go_at_call 161; (with_reducible refine (HV.out).mono ?_); rintro e w1 ⟨rfl, b1⟩; have q0 := (b1.cell (p := ⟨w.heap.size, 0, none⟩) z0).trans x0; have q1 := (b1.cell (p := ⟨w.heap.size, 1, none⟩) z0).trans x1; have bw1 := b0.trans (b1.mono b0.size))
    | (go_at_call 142; (with_reducible refine (HC.out _ bw1).mono ?_); rintro e w2 ⟨A2, c2, rfl, hown2, b2⟩))
  obtain ⟨gb, rfl, hgb1, hgb2⟩ := own_pos' hown2 (by omega)
  have z1 := Nat.lt_of_lt_of_le z0 b1.size
  have HR2 := hide (own_base hown2 (base' := w.heap.size + 1) z1)
  have X2 := hide ((X0.out.only (lo := w0.heap.size) (hi := w0.heap.size) (only_of_below b1) (.inl z0)).only (lo := w1.heap.size) (hi := w1.heap.size) (only_of_below b2) (.inl z1))
  have HB2 := hide (bw1.trans (b2.mono bw1.size))
  have hgn : gb ≠ w.heap.size := by omega
  have hgw : w.heap.size ≤ gb := by omega
  clear hown2 b1 b2 bw1 q0 q1 x0 x1 X0 HV HC
  go_wp2_with fail
  go_loopg [23] p.length (fun g i wr => ∃ (j : Nat) (L : List Int), j ≤ p.length ∧ Hid (g = p.length - j) ∧ i = .int .i64 j ∧ Hid (L.length = st.length) ∧ Hid (wr.ownsRow (w.heap.size + 1) 2 1 (.slice (some ⟨gb, 0, none⟩) st.length c2) st.length (L.map (Value.int .i64))) ∧ Hid (setW tb p st = setW tb (p.drop j) L) ∧ Hid (BoxN wr w.heap.size #[.int .i64 n, .slice A tb.length c] 59) ∧ Hid (Below w.heap.size w wr))
  case atStart => exact ⟨0, st, by omega, by simp [Hid], rfl, rfl, HR2.out, by simp [Hid], X2, HB2⟩
  case round =>
    obtain ⟨j, L, hj, hgj, rfl, HLL, HOW, HS, HX, HB⟩ := hrel
    clear HR2 X2 HB2
    have x0 := HX.out.cell 0
    have x1 := HX.out.cell 1
    by_cases hjt : j < p.length
    · obtain ⟨b3, o3, z, rfl, _, hz, hc⟩ := (Hp.out wr HB.out).at_ hjt
      obtain ⟨hz0, t, ht⟩ := wk_get HWK.out hz
      have hS := HS.out
      rw [setW_drop hz, tubeAt_get ht] at hS
      obtain ⟨zn, rfl⟩ := Int.eq_ofNat_of_zero_le hz0
      rw [Int.toNat_natCast] at ht
      have hzt : zn < tb.length := lt_of_get ht
      have hbt := HOK.out t (List.mem_of_getElem? ht)
      obtain ⟨tn, htn⟩ : ∃ tn : Nat, t.a = (tn : Int) := ⟨t.a.toNat, by omega⟩
      have htl : tn < st.length := by have := HSL.out; omega
      have hLt : L[tn]? = some (dAt L (tn : Int)) := by have hl := HLL.out; simp [dAt, List.getElem?_eq_getElem (show tn < L.length by omega)]
      have hca := own_int_at HOW.out hLt
      have hfa := HOW.out.frozenAt tn
      obtain ⟨b4, o4, t', rfl, _, ht', c0, c1, c2'⟩ := (HN.out wr HB.out).at_ hzt
      obtain rfl := Option.some.inj (ht.symm.trans ht')
      have hzi : (zn : Int) < (tb.length : Int) := by omega
      have htl2 : (tn : Int) < (st.length : Int) := by omega
      rw [htn] at c0 hS
      rw [Int.toNat_natCast] at hS
      have HS2 := hide hS
      have HST := hide (own_int_set HOW.out tn (zn : Int))
      have HX2 := hide (HX.out.other (b' := gb) hgn tn (.int .i64 (zn : Int)))
      have HB2 := hide (HB.out.setCell (p := ⟨gb, tn, none⟩) hgw (.int .i64 (zn : Int)))
      clear hz ht ht' hbt hS hLt c1 c2'
      go_wp2_with fail
      go_roundg (p.length - (j + 1))
      case measure => have := hgj.out; omega
      case rel => exact ⟨j + 1, L.set tn (zn : Int), by omega, rfl, by go_num, by have := HLL.out; unfold Hid; rw [List.length_set]; exact this, HST.out.1, HS2.out, HX2, HB2⟩
    · have hS := HS.out
      rw [setW_end (by omega)] at hS
      have HS2 := hide hS
      clear hS
      go_wp2_with fail
      go_ret2
      have hl := HLL.out
      rw [HS2.out]
      exact ⟨some ⟨gb, 0, none⟩, ⟨c2, by rw [hl]; rfl⟩, Rd.of_own HOW.out, HB.out⟩
set_option maxRecDepth 100000 in
set_option maxHeartbeats 4000000 in
theorem stopOf_any (n : Nat) (tb : List T3) (st : List Int) (v : Int) (A : Option Addr) (c : Nat) (w : World) (h : OkNet n tb) (hr : Rd3 w w.heap.size A tb) (As : Option Addr) (cs : Nat) (hs : OkSet n tb st) (hst : RdI w w.heap.size As st) (hv : 0 ≤ v ∧ v ≤ (n : Int) - 1) :
    Calls Try.prog 169 #[.agg #[.int .i64 n, .slice A tb.length c], .slice As st.length cs, .int .i64 v] w fun e w' => e = .returned (.int .i64 (stopN tb st n v)) ∧ Below w.heap.size w w' := by
  have hn2 := h.1.1
  have hn10 := h.1.2
  have hl24 := h.2.1
  have HOK := hide (okTubes_of h)
  have b0 : Below w.heap.size w (w.alloc (.cells #[.int .i64 n, .slice A tb.length c] 59)) := (by repeat (first | exact Below.refl _ _ | assumption | (refine Below.alloc ?_ (by simp <;> omega) _) | refine Below.drew ?_ | refine bdn ?_ _))
  have X0 := hide (BoxN.new w #[.int .i64 n, .slice A tb.length c] 59)
  have z0 : w.heap.size < (w.alloc (.cells #[.int .i64 n, .slice A tb.length c] 59)).heap.size := by simp
  have x0 : (w.alloc (.cells #[.int .i64 n, .slice A tb.length c] 59)).cell? ⟨w.heap.size, 0, none⟩ = some (.int .i64 n) := X0.out.cell 0
  have x1 : (w.alloc (.cells #[.int .i64 n, .slice A tb.length c] 59)).cell? ⟨w.heap.size, 1, none⟩ = some (.slice A tb.length c) := X0.out.cell 1
  have HN := hide fun W (hW : Below w.heap.size w W) => ((hr.below hW).more hW.size)
  have Hst := hide fun W (hW : Below w.heap.size w W) => RdI.more (RdI.below hst hW) hW.size
  have HS := hide hs
  clear h hr hst hs
  go_enter Try.func169, Try.ntmps169
  go_upto_region 1 with fail
  generalize (w.alloc (.cells #[.int .i64 n, .slice A tb.length c] 59)) = w0 at *
  go_wp2_with fail
  go_loopg [9, 2] n (fun g i f wr => ∃ (j xn : Nat), j ≤ n ∧ Hid (g = n - j) ∧ i = .int .i64 j ∧ f = .int .i64 xn ∧ xn < n ∧ Hid (stopN tb st n v = stopN tb st (n - j) xn) ∧ Hid (Below w0.heap.size w0 wr))
  case atStart => exact ⟨0, v.toNat, by omega, by simp [Hid], rfl, by rw [Int.toNat_of_nonneg hv.1], by omega, by unfold Hid; rw [Int.toNat_of_nonneg hv.1, Nat.sub_zero], Below.refl _ _⟩
  case round =>
    obtain ⟨j, xn, hj, hgj, rfl, rfl, hxn, HT, HB⟩ := hrel
    have r0 := (HB.out.cell (p := ⟨w.heap.size, 0, none⟩) z0).trans x0
    have r1 := (HB.out.cell (p := ⟨w.heap.size, 1, none⟩) z0).trans x1
    have hbw := b0.trans (HB.out.mono b0.size)
    clear x0 x1
    by_cases hjt : j < n
    · have hxs : xn < st.length := by have := HS.out.1; omega
      obtain ⟨b3, o3, z, rfl, _, hz, hc⟩ := (Hst.out wr hbw).at_ hxs
      have hT := HT.out
      rw [show n - j = (n - (j + 1)) + 1 by omega, stopN] at hT
      have hdz : dAt st (xn : Int) = z := by simp [dAt, hz]
      rw [hdz] at hT
      have hxi : (xn : Int) < (st.length : Int) := by omega
      rcases HS.out.2 xn z hz with hz1 | ⟨hz0, t, ht, hta⟩
      · subst hz1
        rw [if_pos (by omega)] at hT
        have HT2 := hide hT
        clear hz hT hdz
        go_wp2_with fail
        go_ret
        exact ⟨ret_i HT2.out.symm, hbw⟩
      · obtain ⟨zn, rfl⟩ := Int.eq_ofNat_of_zero_le hz0
        rw [if_neg (by omega), tubeAt_get ht] at hT
        rw [Int.toNat_natCast] at ht
        have hzt : zn < tb.length := lt_of_get ht
        have hbt := HOK.out t (List.mem_of_getElem? ht)
        obtain ⟨tn, htn⟩ : ∃ tn : Nat, t.b = (tn : Int) := ⟨t.b.toNat, by omega⟩
        have htl : tn < n := by omega
        obtain ⟨b4, o4, t', rfl, _, ht', c0, c1, c2⟩ := (HN.out wr hbw).at_ hzt
        obtain rfl := Option.some.inj (ht.symm.trans ht')
        have hzi : (zn : Int) < (tb.length : Int) := by omega
        rw [htn] at c1 hT
        have HT2 := hide hT
        clear hz ht ht' hbt hT hdz c0 c2 hbw
        go_wp2_with fail
        go_quiet (fail)
        go_wp2_with fail
        go_roundg (n - (j + 1))
        case measure => have := hgj.out; omega
        case rel => exact ⟨j + 1, tn, by omega, rfl, by go_num, rfl, htl, HT2, bdn HB.out _⟩
    · have hT := HT.out
      rw [show n - j = 0 by omega, stopN] at hT
      go_wp2_with fail
      go_ret
      exact ⟨ret_i hT.symm, hbw⟩
set_option maxRecDepth 100000 in
set_option maxHeartbeats 4000000 in
theorem endOfS_any (n : Nat) (tb : List T3) (st : List Int) (v : Int) (A : Option Addr) (c : Nat) (w : World) (h : OkNet n tb) (hr : Rd3 w w.heap.size A tb) (As : Option Addr) (cs : Nat) (hs : OkSet n tb st) (hst : RdI w w.heap.size As st) (hv : 0 ≤ v ∧ v ≤ (n : Int) - 1) :
    Calls Try.prog 59 #[.agg #[.int .i64 n, .slice A tb.length c], .slice As st.length cs, .int .i64 v] w fun e w' => e = .returned (if stopN tb st n v < 0 then .tuple #[.int .i64 0, .int .i64 9] else .tuple #[.int .i64 (stopN tb st n v), .int .i64 0]) ∧ Below w.heap.size w w' := by
  have b0 : Below w.heap.size w (w.alloc (.cells #[.int .i64 n, .slice A tb.length c] 59)) := (by repeat (first | exact Below.refl _ _ | assumption | (refine Below.alloc ?_ (by simp <;> omega) _) | refine Below.drew ?_ | refine bdn ?_ _))
  have X0 := hide (BoxN.new w #[.int .i64 n, .slice A tb.length c] 59)
  have z0 : w.heap.size < (w.alloc (.cells #[.int .i64 n, .slice A tb.length c] 59)).heap.size := by simp
  have x0 : (w.alloc (.cells #[.int .i64 n, .slice A tb.length c] 59)).cell? ⟨w.heap.size, 0, none⟩ = some (.int .i64 n) := X0.out.cell 0
  have x1 : (w.alloc (.cells #[.int .i64 n, .slice A tb.length c] 59)).cell? ⟨w.heap.size, 1, none⟩ = some (.slice A tb.length c) := X0.out.cell 1
  have HN := hide fun W (hW : Below w.heap.size w W) => ((hr.below hW).more hW.size)
  have Hst := hide fun W (hW : Below w.heap.size w W) => RdI.more (RdI.below hst hW) hW.size
  have hbd := stopN_bd (okTubes_of h) hs n hv.1 (by omega)
  have hn10 := h.1.2
  have W2 : Below w.heap.size w ((w.alloc (.cells #[.int .i64 n, .slice A tb.length c] 59)).alloc (.cells #[.int .i64 v] 2)) := b0.alloc b0.size _
  have X2 := hide (X0.out.alloc (.cells #[.int .i64 v] 2))
  have hv9 : Calls Try.prog 151 #[.agg #[.int .i64 n, .slice A tb.length c], .slice As st.length cs, .slice (some ⟨(w.alloc (.cells #[.int .i64 n, .slice A tb.length c] 59)).heap.size, 0, none⟩) 1 1] ((w.alloc (.cells #[.int .i64 n, .slice A tb.length c] 59)).alloc (.cells #[.int .i64 v] 2)) fun e w' => e = .returned (.int .i64 0) ∧ Below ((w.alloc (.cells #[.int .i64 n, .slice A tb.length c] 59)).alloc (.cells #[.int .i64 v] 2)).heap.size ((w.alloc (.cells #[.int .i64 n, .slice A tb.length c] 59)).alloc (.cells #[.int .i64 v] 2)) w' := (settingCode_any n tb st [v] A c ((w.alloc (.cells #[.int .i64 n, .slice A tb.length c] 59)).alloc (.cells #[.int .i64 v] 2)) h (HN.out _ W2) As cs (some ⟨(w.alloc (.cells #[.int .i64 n, .slice A tb.length c] 59)).heap.size, 0, none⟩) 1 hs (Hst.out _ W2) (fun z hz => by simp at hz; subst hz; assumption) (by simp) (fun _ => ⟨(w.alloc (.cells #[.int .i64 n, .slice A tb.length c] 59)).heap.size, 0, rfl, by simp, fun j u hj => by
    match j, hj with
    | 0, hj => simp at hj; subst hj; simp [go_sem]
    | j + 1, hj => simp at hj⟩))
  have HV := hide hv9
  have HE := hide fun W (hW : Below w.heap.size w W) => stopOf_any n tb st v A c W h (HN.out W hW) As cs hs (Hst.out W hW) hv
  have hz2 : w.heap.size < ((w.alloc (.cells #[.int .i64 n, .slice A tb.length c] 59)).alloc (.cells #[.int .i64 v] 2)).heap.size := by simp; omega
  have y0 : ((w.alloc (.cells #[.int .i64 n, .slice A tb.length c] 59)).alloc (.cells #[.int .i64 v] 2)).cell? ⟨w.heap.size, 0, none⟩ = some (.int .i64 n) := X2.out.cell 0
  have y1 : ((w.alloc (.cells #[.int .i64 n, .slice A tb.length c] 59)).alloc (.cells #[.int .i64 v] 2)).cell? ⟨w.heap.size, 1, none⟩ = some (.slice A tb.length c) := X2.out.cell 1
  clear h hr hst hs hv hv9
  generalize stopN tb st n v = sv at *
  obtain ⟨hbd0, hbd1⟩ := hbd
  have hcases : sv < 0 ∨ 0 ≤ sv := by omega
  rcases hcases with hs0 | hs0
  · go_enter Try.func59, Try.ntmps59
    go_upto_region 1 with fail
    generalize (w.alloc (.cells #[.int .i64 n, .slice A tb.length c] 59)) = w0 at *
    go_wp2_with (first
      | (go_at_call 151; (with_reducible refine (HV.out).mono ?_); rintro e w1 ⟨rfl, b1⟩; have q0 := (b1.cell (p := ⟨w.heap.size, 0, none⟩) hz2).trans y0; have q1 := (b1.cell (p := ⟨w.heap.size, 1, none⟩) hz2).trans y1; have bw1 := W2.trans (b1.mono W2.size))
      | (go_at_call 169; (with_reducible refine (HE.out _ bw1).mono ?_); rintro e w2 ⟨rfl, b2⟩; have bw2 := bw1.trans (b2.mono bw1.size)))
    go_ret2
    exact ⟨rfl, bw2⟩
  · go_enter Try.func59, Try.ntmps59
    go_upto_region 1 with fail
    generalize (w.alloc (.cells #[.int .i64 n, .slice A tb.length c] 59)) = w0 at *
    go_wp2_with (first
      | (go_at_call 151; (with_reducible refine (HV.out).mono ?_); rintro e w1 ⟨rfl, b1⟩; have q0 := (b1.cell (p := ⟨w.heap.size, 0, none⟩) hz2).trans y0; have q1 := (b1.cell (p := ⟨w.heap.size, 1, none⟩) hz2).trans y1; have bw1 := W2.trans (b1.mono W2.size))
      | (go_at_call 169; (with_reducible refine (HE.out _ bw1).mono ?_); rintro e w2 ⟨rfl, b2⟩; have bw2 := bw1.trans (b2.mono bw1.size)))
    go_ret2
    exact ⟨rfl, bw2⟩
set_option maxRecDepth 100000 in
set_option maxHeartbeats 4000000 in
theorem routeOf_any (n : Nat) (tb : List T3) (st p : List Int) (v u : Int) (A : Option Addr) (c : Nat) (w : World) (h : OkNet n tb) (hr : Rd3 w w.heap.size A tb) (As : Option Addr) (cs : Nat) (hs : OkSet n tb st) (hst : RdI w w.heap.size As st) (hrun : runP tb st p v u) (hpn : p.length ≤ n) (hv : 0 ≤ v ∧ v ≤ (n : Int) - 1) (hu : 0 ≤ u ∧ u ≤ (n : Int) - 1) :
    Calls Try.prog 55 #[.agg #[.int .i64 n, .slice A tb.length c], .slice As st.length cs, .int .i64 v, .int .i64 u] w fun e w' => ∃ A' c', e = .returned (.tuple #[.slice A' p.length c', .int .i64 0]) ∧ RdI w' w'.heap.size A' p ∧ Below w.heap.size w w' := by
  obtain ⟨i0, hi0, hz0, hs0, hb0⟩ := info_parts int64_info
  have hn2 := h.1.1
  have hn10 := h.1.2
  have HOK := hide (okTubes_of h)
  have b0 : Below w.heap.size w (w.alloc (.cells #[.int .i64 n, .slice A tb.length c] 59)) := (by repeat (first | exact Below.refl _ _ | assumption | (refine Below.alloc ?_ (by simp <;> omega) _) | refine Below.drew ?_ | refine bdn ?_ _))
  have X0 := hide (BoxN.new w #[.int .i64 n, .slice A tb.length c] 59)
  have z0 : w.heap.size < (w.alloc (.cells #[.int .i64 n, .slice A tb.length c] 59)).heap.size := by simp
  have x0 : (w.alloc (.cells #[.int .i64 n, .slice A tb.length c] 59)).cell? ⟨w.heap.size, 0, none⟩ = some (.int .i64 n) := X0.out.cell 0
  have x1 : (w.alloc (.cells #[.int .i64 n, .slice A tb.length c] 59)).cell? ⟨w.heap.size, 1, none⟩ = some (.slice A tb.length c) := X0.out.cell 1
  have HN := hide fun W (hW : Below w.heap.size w W) => ((hr.below hW).more hW.size)
  have Hst := hide fun W (hW : Below w.heap.size w W) => RdI.more (RdI.below hst hW) hW.size
  have W2 : Below w.heap.size w ((w.alloc (.cells #[.int .i64 n, .slice A tb.length c] 59)).alloc (.cells #[.int .i64 v, .int .i64 u] 2)) := b0.alloc b0.size _
  have X2 := hide (X0.out.alloc (.cells #[.int .i64 v, .int .i64 u] 2))
  have hv9 : Calls Try.prog 151 #[.agg #[.int .i64 n, .slice A tb.length c], .slice As st.length cs, .slice (some ⟨(w.alloc (.cells #[.int .i64 n, .slice A tb.length c] 59)).heap.size, 0, none⟩) 2 2] ((w.alloc (.cells #[.int .i64 n, .slice A tb.length c] 59)).alloc (.cells #[.int .i64 v, .int .i64 u] 2)) fun e w' => e = .returned (.int .i64 0) ∧ Below ((w.alloc (.cells #[.int .i64 n, .slice A tb.length c] 59)).alloc (.cells #[.int .i64 v, .int .i64 u] 2)).heap.size ((w.alloc (.cells #[.int .i64 n, .slice A tb.length c] 59)).alloc (.cells #[.int .i64 v, .int .i64 u] 2)) w' := (settingCode_any n tb st [v, u] A c ((w.alloc (.cells #[.int .i64 n, .slice A tb.length c] 59)).alloc (.cells #[.int .i64 v, .int .i64 u] 2)) h (HN.out _ W2) As cs (some ⟨(w.alloc (.cells #[.int .i64 n, .slice A tb.length c] 59)).heap.size, 0, none⟩) 2 hs (Hst.out _ W2) (fun z hz => by simp at hz; rcases hz with rfl | rfl <;> assumption) (by simp) (fun _ => ⟨(w.alloc (.cells #[.int .i64 n, .slice A tb.length c] 59)).heap.size, 0, rfl, by simp, fun j u hj => by
    match j, hj with
    | 0, hj => simp at hj; subst hj; simp [go_sem]
    | 1, hj => simp at hj; subst hj; simp [go_sem]
    | j + 2, hj => simp at hj⟩))
  have HV := hide hv9
  have hz2 : w.heap.size + 1 ≤ ((w.alloc (.cells #[.int .i64 n, .slice A tb.length c] 59)).alloc (.cells #[.int .i64 v, .int .i64 u] 2)).heap.size := by simp <;> omega
  have HS := hide hs
  have HRUN := hide hrun
  clear hv9 hrun hs
  go_enter Try.func55, Try.ntmps55
  go_upto_region 1 with fail
  generalize (w.alloc (.cells #[.int .i64 n, .slice A tb.length c] 59)) = w0 at *
  go_upto_region 4 with (go_at_call 151; (with_reducible refine (HV.out).mono ?_); rintro e w2 ⟨rfl, b2⟩)
  have X3 := hide (X2.out.only (lo := (w0.alloc (.cells #[.int .i64 v, .int .i64 u] 2)).heap.size) (hi := (w0.alloc (.cells #[.int .i64 v, .int .i64 u] 2)).heap.size) (only_of_below b2) (.inl X2.out.lt))
  have HB2 := hide (W2.trans (b2.mono W2.size))
  have hz3 : w.heap.size + 1 ≤ w2.heap.size := Nat.le_trans hz2 b2.size
  have ho2 := own_new0 w2 (w.heap.size + 1) 2 1 hz3
  have HB3 := hide (HB2.out.alloc HB2.out.size (.cells #[] 2))
  have X4 := hide (X3.out.alloc (.cells #[] 2))
  clear x0 x1 X0 X2 W2 b2 HV HB2 X3 b0
  go_upto_region 5 with fail
  generalize w2.alloc (.cells #[] 2) = wz at *
  generalize w2.heap.size = g1 at *
  go_loopg [11, 2] p.length (fun g s f wr => ∃ (j xn : Nat) (A' : Option Addr) (c' : Nat), j ≤ p.length ∧ Hid (g = p.length - j) ∧ s = .slice A' j c' ∧ f = .int .i64 xn ∧ xn < n ∧ Hid (runP tb st (p.drop j) xn u) ∧ Hid (wr.ownsRow (w.heap.size + 1) 2 1 (.slice A' j c') j ((p.take j).map (Value.int .i64))) ∧ Hid (BoxN wr w.heap.size #[.int .i64 n, .slice A tb.length c] 59) ∧ Hid (Below w.heap.size w wr))
  case atStart => exact ⟨0, v.toNat, some ⟨g1, 0, none⟩, 0, by omega, by simp [Hid], rfl, by rw [Int.toNat_of_nonneg hv.1], by omega, by unfold Hid; rw [Int.toNat_of_nonneg hv.1]; exact HRUN.out, ho2, X4, HB3⟩
  case round =>
    obtain ⟨j, xn, A', c', hj, hgj, rfl, rfl, hxn, HR, HOW, HX, HB⟩ := hrel
    clear ho2 X4 HB3
    have r0 := HX.out.cell 0
    have r1 := HX.out.cell 1
    by_cases hjt : j < p.length
    · obtain ⟨z, hz⟩ : ∃ z, p[j]? = some z := ⟨_, List.getElem?_eq_getElem hjt⟩
      have hd := HR.out
      rw [drop_cons hz] at hd
      obtain ⟨hne, hzz0, hdz, hrest⟩ := hd
      have hxs : xn < st.length := by have := HS.out.1; omega
      obtain ⟨b3, o3, z', rfl, hb3, hz', hc⟩ := rdI_at hst hxs
      have hzz : z' = z := by rw [← hdz]; simp [dAt, hz']
      subst hzz
      rcases HS.out.2 xn z' hz' with hz1 | ⟨_, t, ht, hta⟩
      · omega
      · obtain ⟨zn, rfl⟩ := Int.eq_ofNat_of_zero_le hzz0
        rw [tubeAt_get ht] at hrest
        rw [Int.toNat_natCast] at ht
        have hzt : zn < tb.length := lt_of_get ht
        have hbt := HOK.out t (List.mem_of_getElem? ht)
        obtain ⟨tn, htn⟩ : ∃ tn : Nat, t.b = (tn : Int) := ⟨t.b.toNat, by omega⟩
        have htl : tn < n := by omega
        obtain ⟨b4, o4, t', rfl, hb4, ht', c0, c1, c2⟩ := hr.at_ hzt
        obtain rfl := Option.some.inj (ht.symm.trans ht')
        have hzi : (zn : Int) < (tb.length : Int) := by omega
        have hxi : (xn : Int) < (st.length : Int) := by omega
        rw [htn] at c1 hrest
        have hBne : ((xn : Int) != u) = true := by simp [hne]
        have d3 := (HB.out.cell (p := ⟨b3, o3 + xn, none⟩) hb3).trans hc
        have HR2 := hide hrest
        have HTK := hide (show p.take (j + 1) = p.take j ++ [(zn : Int)] by rw [List.take_add_one, hz]; rfl)
        have HNE := hide hne
        have hjn : (j : Int) ≤ (n : Int) := by omega
        have hown5 := HOW.out
        have hz5 : w.heap.size + 1 ≤ wr.heap.size := HX.out.lt
        have hwl : wr.heap.size + 1 ≤ wr.heap.size + 1 := Nat.le_refl _
        clear hz ht ht' hbt hdz hrest c0 c2 hz' hne
        go_upto_region 11 with (at_builtin; go_must (refine wp_app _ rfl _ _ 22 rfl (w.heap.size + 1) 2 i0 (.int .i64 0) 1 8 Try.underlying22 hi0 hz0 hs0 hb0 rfl (by decide) _ _ _ rfl (hown5.alloc _) _ _ 1 1 [.int .i64 (zn : Int)] rfl rfl (rd_new _ _ _ _ (by first | rfl | simp)) (int_one _) (by omega) (by decide) (by first | omega | (simp <;> omega) | (simp; omega)) ?_); intro v6 w6 hown6 hgrow6 hat6)
        have hb6 := app_below (HB.out.alloc HB.out.size (.cells #[.int .i64 (zn : Int)] 2)) (hown5.alloc (.cells #[.int .i64 (zn : Int)] 2)) hgrow6 (Nat.le_succ _) (by simp <;> omega)
        have hx6 : BoxN w6 w.heap.size #[.int .i64 n, .slice (some ⟨b4, o4, none⟩) tb.length c] 59 := by
          have h := HX.out.alloc (.cells #[.int .i64 (zn : Int)] 2)
          exact (hgrow6.block _ h.lt (fun e => by have := (hown5.lt _ e.symm).1; omega)).trans h
        obtain ⟨A9, c9, rfl, _⟩ := own_shape hown6
        have e0 := hx6.cell 0
        have e1 := hx6.cell 1
        have e3 := (hb6.cell (p := ⟨b3, o3 + xn, none⟩) hb3).trans hc
        have e4 := (hb6.cell (p := ⟨b4, o4 + zn * 3 + 1, none⟩) hb4).trans c1
        have HOW6 := hide hown6
        have HX6 := hide hx6
        have HB6 := hide hb6
        clear r0 r1 d3 hown5 hown6 hgrow6 hat6 hx6 hb6 HOW HX HB hc c1 hr hst
        go_wp2_with fail
        go_quiet (fail)
        go_wp2_with fail
        go_roundg (p.length - (j + 1))
        case measure => have := hgj.out; omega
        case rel => exact ⟨j + 1, tn, A9, c9, by omega, rfl, rfl, rfl, htl, HR2, by rw [HTK.out, List.map_append]; exact HOW6.out, HX6.out, bdn HB6.out _⟩
    · have hd := HR.out
      rw [List.drop_eq_nil_of_le (by omega)] at hd
      have hd2 : (xn : Int) = u := hd
      have hj2 : j = p.length := by omega
      subst hj2
      subst hd2
      clear hd
      go_wp2_with fail
      go_ret2
      exact ⟨A', ⟨c', rfl⟩, by have h9 := Rd.of_own HOW.out; rw [List.take_length] at h9; exact h9, HB.out⟩
set_option maxRecDepth 100000 in
set_option maxHeartbeats 4000000 in
theorem circle_any (n : Nat) (tb : List T3) (st : List Int) (A : Option Addr) (c : Nat) (w : World) (h : OkNet n tb) (hr : Rd3 w w.heap.size A tb) (As : Option Addr) (cs : Nat) (hs : OkSet n tb st) (hst : RdI w w.heap.size As st) :
    Calls Try.prog 57 #[.agg #[.int .i64 n, .slice A tb.length c], .slice As st.length cs] w fun e w' => ∃ A' c', e = .returned (.tuple #[.slice A' (circL n tb st).length c', .int .i64 0]) ∧ RdI w' w'.heap.size A' (circL n tb st) ∧ Below w.heap.size w w' := by
  obtain ⟨i0, hi0, hz0, hs0, hb0⟩ := info_parts int64_info
  have hn2 := h.1.1
  have hn10 := h.1.2
  have b0 : Below w.heap.size w (w.alloc (.cells #[.int .i64 n, .slice A tb.length c] 59)) := (by repeat (first | exact Below.refl _ _ | assumption | (refine Below.alloc ?_ (by simp <;> omega) _) | refine Below.drew ?_ | refine bdn ?_ _))
  have X0 := hide (BoxN.new w #[.int .i64 n, .slice A tb.length c] 59)
  have z0 : w.heap.size < (w.alloc (.cells #[.int .i64 n, .slice A tb.length c] 59)).heap.size := by simp
  have x0 : (w.alloc (.cells #[.int .i64 n, .slice A tb.length c] 59)).cell? ⟨w.heap.size, 0, none⟩ = some (.int .i64 n) := X0.out.cell 0
  have x1 : (w.alloc (.cells #[.int .i64 n, .slice A tb.length c] 59)).cell? ⟨w.heap.size, 1, none⟩ = some (.slice A tb.length c) := X0.out.cell 1
  have HN := hide fun W (hW : Below w.heap.size w W) => ((hr.below hW).more hW.size)
  have Hst := hide fun W (hW : Below w.heap.size w W) => RdI.more (RdI.below hst hW) hW.size
  have hv9 : Calls Try.prog 151 #[.agg #[.int .i64 n, .slice A tb.length c], .slice As st.length cs, .slice none 0 0] (w.alloc (.cells #[.int .i64 n, .slice A tb.length c] 59)) fun e w' => e = .returned (.int .i64 0) ∧ Below (w.alloc (.cells #[.int .i64 n, .slice A tb.length c] 59)).heap.size (w.alloc (.cells #[.int .i64 n, .slice A tb.length c] 59)) w' := (settingCode_any n tb st [] A c (w.alloc (.cells #[.int .i64 n, .slice A tb.length c] 59)) h (HN.out _ b0) As cs none 0 hs (Hst.out _ b0) (fun z hz => (by cases hz)) (by simp) (Rd.nil _ _ _))
  have HV := hide hv9
  have HE := hide fun (v : Nat) (hv : v < n) W (hW : Below w.heap.size w W) => stopOf_any n tb st v A c W h (HN.out W hW) As cs hs (Hst.out W hW) (by omega)
  have bw0 := hide b0
  clear h hr hst hs hv9
  go_enter Try.func57, Try.ntmps57
  go_upto_region 1 with fail
  generalize (w.alloc (.cells #[.int .i64 n, .slice A tb.length c] 59)) = w0 at *
  go_upto_region 4 with (go_at_call 151; (with_reducible refine (HV.out).mono ?_); rintro e w2 ⟨rfl, b2⟩)
  have X2 := hide (X0.out.only (lo := w0.heap.size) (hi := w0.heap.size) (only_of_below b2) (.inl z0))
  have HB2 := hide (bw0.out.trans (b2.mono bw0.out.size))
  have hz3 : w.heap.size + 1 ≤ w2.heap.size := X2.out.lt
  have ho2 := own_new0 w2 (w.heap.size + 1) 2 1 hz3
  have HB3 := hide (HB2.out.alloc HB2.out.size (.cells #[] 2))
  have X3 := hide (X2.out.alloc (.cells #[] 2))
  have y0 : (w2.alloc (.cells #[] 2)).cell? ⟨w.heap.size, 0, none⟩ = some (.int .i64 n) := X3.out.cell 0
  clear x0 x1 X0 X2 b2 HV HB2 b0
  go_upto_region 5 with fail
  generalize w2.alloc (.cells #[] 2) = wz at *
  generalize w2.heap.size = g1 at *
  go_wp2_with fail
  go_loopg [7, 18] n (fun g s' i wr => ∃ (k : Nat) (acc : List Int), k ≤ n ∧ Hid (g = n - k) ∧ i = .int .i64 k ∧ acc.length ≤ k ∧ Hid (wr.ownsRow (w.heap.size + 1) 2 1 s' acc.length (acc.map (Value.int .i64))) ∧ Hid (circL n tb st = acc ++ idxFrom (circP n tb st) ((List.range n).drop k) k) ∧ Hid (BoxN wr w.heap.size #[.int .i64 n, .slice A tb.length c] 59) ∧ Hid (Below w.heap.size w wr))
  case atStart => exact ⟨0, [], by omega, by simp [Hid], rfl, by simp, ho2, by simp [Hid, circL], X3.out, HB3.out⟩
  case round =>
    obtain ⟨k, acc, hk, hg, rfl, hal, HOW, HS, HX, HB⟩ := hrel
    clear ho2 HB3 X3 y0
    have x0 : wr.cell? ⟨w.heap.size, 0, none⟩ = some (.int .i64 n) := HX.out.cell 0
    have x1 : wr.cell? ⟨w.heap.size, 1, none⟩ = some (.slice A tb.length c) := HX.out.cell 1
    by_cases hkn : k < n
    · have hkn' : (k : Int) < (n : Int) := by omega
      have HC := hide (HE.out k hkn wr HB.out)
      have hS := HS.out
      rw [drop_cons (range_get hkn)] at hS
      have HXL := hide HX.out.lt
      clear HS
      have hcr : stopN tb st n k < 0 ∨ 0 ≤ stopN tb st n k := by omega
      rcases hcr with hcr | hcr
      · have HS2 : Hid (circL n tb st = (acc ++ [(k : Int)]) ++ idxFrom (circP n tb st) ((List.range n).drop (k + 1)) (k + 1)) := by
          have hcp : circP n tb st k = true := by unfold circP; exact decide_eq_true hcr
          unfold Hid; rw [hS]; simp only [idxFrom, hcp]; simp
        generalize stopN tb st n k = sv at *
        clear hS
        go_wp2_with (first | (go_at_call 169; (with_reducible refine (HC.out).mono ?_); rintro e w4 ⟨rfl, b4⟩; have HX4 := hide (HX.out.only (lo := wr.heap.size) (hi := wr.heap.size) (only_of_below b4) (.inl HXL.out)); have HB4 := hide (HB.out.trans (b4.mono HB.out.size)); have hown2 := own_below HOW.out b4 (Nat.le_refl _); have hz4 := HB4.out.size; have hz4' : w.heap.size + 1 ≤ w4.heap.size := HX4.out.lt) | (at_builtin; go_must (refine wp_app _ rfl _ _ 22 rfl (w.heap.size + 1) 2 i0 (.int .i64 0) 1 8 Try.underlying22 hi0 hz0 hs0 hb0 rfl (by decide) _ _ _ rfl (hown2.alloc _) _ _ 1 1 [.int .i64 (k : Int)] rfl rfl (rd_new _ _ _ _ (by first | rfl | simp)) (int_one _) (by omega) (by decide) (by first | omega | (simp <;> omega) | (simp; omega)) ?_); intro v4 w6 hown4 hgrow4 hat4))
        have hb6 := app_below (HB4.out.alloc HB4.out.size (.cells #[.int .i64 (k : Int)] 2)) (hown2.alloc (.cells #[.int .i64 (k : Int)] 2)) hgrow4 (Nat.le_succ _) (by simp <;> omega)
        have hx6 : BoxN w6 w.heap.size #[.int .i64 n, .slice A tb.length c] 59 := by
          have h := HX4.out.alloc (.cells #[.int .i64 (k : Int)] 2)
          exact (hgrow4.block _ h.lt (fun e => by have := (hown2.lt _ e.symm).1; omega)).trans h
        go_roundg (n - (k + 1))
        case measure => have := hg.out; omega
        case rel => exact ⟨k + 1, acc ++ [(k : Int)], by omega, rfl, by go_num, by simp; omega, by simpa [Hid] using hown4, HS2, hx6, hb6⟩
      · have HS2 : Hid (circL n tb st = acc ++ idxFrom (circP n tb st) ((List.range n).drop (k + 1)) (k + 1)) := by
          have hcp : circP n tb st k = false := by unfold circP; exact decide_eq_false (by omega)
          unfold Hid; rw [hS]; simp only [idxFrom, hcp]; rfl
        generalize stopN tb st n k = sv at *
        clear hS
        go_wp2_with (go_at_call 169; (with_reducible refine (HC.out).mono ?_); rintro e w4 ⟨rfl, b4⟩; have HX4 := hide (HX.out.only (lo := wr.heap.size) (hi := wr.heap.size) (only_of_below b4) (.inl HXL.out)); have HB4 := hide (HB.out.trans (b4.mono HB.out.size)); have hown2 := hide (own_below HOW.out b4 (Nat.le_refl _)))
        go_roundg (n - (k + 1))
        case measure => have := hg.out; omega
        case rel => exact ⟨k + 1, acc, by omega, rfl, by go_num, by omega, hown2, HS2, HX4, HB4⟩
    · have hS := HS.out
      rw [List.drop_eq_nil_of_le (by simp; omega)] at hS
      simp only [idxFrom, List.append_nil] at hS
      have HS2 := hide hS
      have hown := HOW.out
      obtain ⟨A9, c9, hsh, _⟩ := own_shape hown
      subst hsh
      clear hS hown
      go_wp2_with fail
      go_ret2
      rw [HS2.out]
      exact ⟨A9, c9, rfl, Rd.of_own HOW.out, HB.out⟩
end Go.Proofs.Ytklfjekpeoigoaa
