/-
  Networks in the reference: strong ones.
-/
import Derived.Test.YtflbddfmhjlknaaNet11
import Derived.Test.YtflbddfmhjlknaaNetQ
import Derived.Test.YtflbddfmhjlknaaCarS
namespace Go.Proofs.Ytflbddfmhjlknaa
open Go.RowKit
set_option maxRecDepth 100000 in
set_option maxHeartbeats 2000000 in
theorem l02Tube_any (n : Int) (t : T3) (w : World) (hn : 1 ≤ n ∧ n ≤ 10) (ht : OkTube n t) :
    Calls Try.prog 160 #[.agg #[.int .i64 t.a, .int .i64 t.b, .int .i64 t.c], .int .i64 n] w fun e w' => e = .returned (.bool true) ∧ Below w.heap.size w w' := by
  obtain ⟨⟨h1, h2⟩, ⟨h3, h4⟩, h5, h6, h7⟩ := ht
  obtain ⟨hn1, hn2⟩ := hn
  have hB : (t.a != t.b) = true := by simp [h5]
  have H5 := hide h5
  clear h5
  go_enter Try.func160, Try.ntmps160
  go_wp2_with (go_at_call 83; first | (refine (l00In_t _ _ _ _ (by omega)).mono ?_; rintro e w' ⟨rfl, rfl⟩) | (refine (l00In_f _ _ _ _ (by omega)).mono ?_; rintro e w' ⟨rfl, rfl⟩))
  go_ret
  exact ⟨rfl, (by repeat (first | exact Below.refl _ _ | assumption | (refine Below.alloc ?_ (by simp <;> omega) _) | refine Below.drew ?_ | refine bdn ?_ _))⟩
set_option maxRecDepth 100000 in
set_option maxHeartbeats 4000000 in
theorem l02Ok_any (n : Nat) (tb : List T3) (A : Option Addr) (c b : Nat) (w : World) (h : OkNet n tb) (hr : Rd3 w w.heap.size A tb) (hbx : BoxN w b #[.int .i64 n, .slice A tb.length c] 87) :
    Calls Try.prog 134 #[.pointer (some ⟨b, 0, none⟩)] w fun e w' => e = .returned (.bool true) ∧ Below w.heap.size w w' := by
  obtain ⟨⟨hn2, hn10⟩, hl, ht⟩ := h
  have hbl := hbx.lt
  have HTB := hide fun t W (ht' : t ∈ tb) => l02Tube_any n t W (by omega) (ht t ht')
  have HR := hide hr
  have X0 := hide hbx
  have k0 : w.cell? ⟨b, 0, none⟩ = some (.int .i64 n) := hbx.cell 0
  have k1 : w.cell? ⟨b, 1, none⟩ = some (.slice A tb.length c) := hbx.cell 1
  have hl24 : (tb.length : Int) ≤ 24 := by omega
  clear ht hr hbx
  go_enter Try.func134, Try.ntmps134
  go_wp2_with (go_at_call 83; first | (refine (l00In_t _ _ _ _ (by omega)).mono ?_; rintro e w' ⟨rfl, rfl⟩) | (refine (l00In_f _ _ _ _ (by omega)).mono ?_; rintro e w' ⟨rfl, rfl⟩))
  go_loopg [3] tb.length (fun g i wr => ∃ k : Nat, k ≤ tb.length ∧ Hid (g = tb.length - k) ∧ i = .int .i64 k ∧ Hid (Below w.heap.size w wr))
  case atStart => exact ⟨0, by omega, by simp [Hid], rfl, Below.refl _ _⟩
  case round =>
    obtain ⟨k, hk, hg, rfl, HB⟩ := hrel
    clear k0 k1
    have x0 : wr.cell? ⟨b, 0, none⟩ = some (.int .i64 n) := (HB.out.cell (p := ⟨b, 0, none⟩) hbl).trans (X0.out.cell 0)
    have x1 : wr.cell? ⟨b, 1, none⟩ = some (.slice A tb.length c) := (HB.out.cell (p := ⟨b, 1, none⟩) hbl).trans (X0.out.cell 1)
    by_cases hkt : k < tb.length
    · obtain ⟨pb, po, t, hA, _, htj, hta, htb, htc⟩ := (HR.out.below HB.out).at_ hkt
      subst hA
      have HC := hide fun W => HTB.out t W (List.mem_of_getElem? htj)
      have hkt' : (k : Int) < (tb.length : Int) := by omega
      clear htj
      go_wp2_with fail
      go_still_tail 11, (by kernel_rfl)
      change wpList _ _ _ _ _ wr.drew
      have HBD : Hid (Below w.heap.size w wr.drew) := HB.out.drew
      clear x0 x1 hta htb htc HB
      generalize wr.drew = wd at *
      go_wp2_with (go_at_call 160; (with_reducible refine (HC.out _).mono ?_); rintro e w2 ⟨rfl, b2⟩)
      have HB2 := hide (HBD.out.trans (b2.mono HBD.out.size))
      go_roundg (tb.length - (k + 1))
      case measure => have := hg.out; omega
      case rel => exact ⟨k + 1, by omega, rfl, by go_num, HB2⟩
    · go_wp2_with fail
      go_ret
      exact ⟨rfl, HB.out⟩
set_option maxRecDepth 100000 in
set_option maxHeartbeats 4000000 in
theorem l02Strong_any (n : Nat) (tb : List T3) (A : Option Addr) (c b : Nat) (w : World) (h : OkNet n tb) (hr : Rd3 w w.heap.size A tb) (hbx : BoxN w b #[.int .i64 n, .slice A tb.length c] 87) :
    Calls Try.prog 135 #[.pointer (some ⟨b, 0, none⟩), .int .i64 (-1)] w fun e w' => ∃ sv : Bool, e = .returned (.bool sv) ∧ (sv = true → strongB n tb (-1) = true) ∧ Below w.heap.size w w' := by
  obtain ⟨hn2, hn10⟩ := h.1
  have HOK := hide h
  have hbl := hbx.lt
  have X0 := hide hbx
  have HFAR := hide fun (td : Nat) W (htd : td < n) (hW : Below w.heap.size w W) => l02Far_any n tb td A c b W h htd ((hr.below hW).more hW.size) (hbx.below hW hbl)
  clear h hr hbx
  go_enter Try.func135, Try.ntmps135
  go_wp2_with fail
  go_loopg [5] n (fun g i wr => ∃ k : Nat, k ≤ n ∧ Hid (g = n - k) ∧ i = .int .i64 k ∧ Hid (∀ t v : Nat, t < k → v < n → ∃ p, wk tb (-1) p v t) ∧ Hid (Below w.heap.size w wr))
  case atStart => exact ⟨0, by omega, by simp [Hid], rfl, fun t v ht => by omega, Below.refl _ _⟩
  case round =>
    obtain ⟨k, hk, hg, rfl, HW, HB⟩ := hrel
    have x0 : wr.cell? ⟨b, 0, none⟩ = some (.int .i64 n) := (HB.out.cell (p := ⟨b, 0, none⟩) hbl).trans (X0.out.cell 0)
    by_cases hkn : k < n
    · have hkn' : (k : Int) < (n : Int) := by omega
      have HC := hide (HFAR.out k wr hkn HB.out)
      go_wp2_with (go_at_call 161; (with_reducible refine (HC.out).mono ?_); rintro e w2 ⟨g', d, rfl, hown, hfb, b2⟩)
      have HOW := hide hown
      have HFB := hide hfb
      have HB2 := hide (HB.out.trans (b2.mono HB.out.size))
      have hdl := hfb.1
      clear hown hfb b2 HC
      go_loopg [7] n (fun gm i wr => ∃ j : Nat, j ≤ n ∧ Hid (gm = n - j) ∧ i = .int .i64 j ∧ Hid (∀ v : Nat, v < j → ∃ p, wk tb (-1) p v k) ∧ Hid (Below w2.heap.size w2 wr))
      case atStart => exact ⟨0, by omega, by simp [Hid], rfl, fun v hv => by omega, Below.refl _ _⟩
      case round =>
        obtain ⟨j, hj, hgm, rfl, HV, HBJ⟩ := hrel
        clear x0
        by_cases hjn : j < n
        · obtain ⟨z, hz⟩ : ∃ z, d[j]? = some z := ⟨_, List.getElem?_eq_getElem (show j < d.length by omega)⟩
          have cz : wr.cell? ⟨g', j, none⟩ = some (.int .i64 z) := (HBJ.out.cell (p := ⟨g', j, none⟩) ((HOW.out.lt g' rfl).2)).trans (by rw [HOW.out.cellAt j (by omega), List.getElem?_map, hz]; rfl)
          have hjn' : (j : Int) < (n : Int) := by omega
          have HZ := hide hz
          clear hz
          by_cases hzn : z < 0
          · have HBE := hide (HB2.out.trans (HBJ.out.mono HB2.out.size))
            go_wp2_with fail
            go_ret
            exact ⟨false, rfl, (fun h => by cases h), HBE.out⟩
          · have HV2 := hide (show ∀ v : Nat, v < j + 1 → ∃ p, wk tb (-1) p v k from fun v hv => by
              rcases Nat.lt_or_ge v j with h1 | h1
              · exact HV.out v h1
              · obtain rfl : v = j := by omega
                have hs := HFB.out.2.2 (v : Int) (by omega)
                rw [dAt_get HZ.out] at hs
                rcases hs with hs | ⟨_, p, hp, _⟩
                · omega
                · exact ⟨p, hp⟩)
            go_wp2_with fail
            go_roundg (n - (j + 1))
            case measure => have := hgm.out; omega
            case rel => exact ⟨j + 1, by omega, rfl, by go_num, HV2, HBJ⟩
        · have HW2 := hide (show ∀ t v : Nat, t < k + 1 → v < n → ∃ p, wk tb (-1) p v t from fun t v ht hv => by
            rcases Nat.lt_or_ge t k with h1 | h1
            · exact HW.out t v h1 hv
            · obtain rfl : t = k := by omega
              exact HV.out v (by omega))
          have HBE := hide (HB2.out.trans (HBJ.out.mono HB2.out.size))
          go_wp2_with fail
          go_roundg (n - (k + 1))
          case measure => have := hg.out; omega
          case rel => exact ⟨k + 1, by omega, rfl, by go_num, HW2, HBE⟩
    · go_wp2_with fail
      go_ret
      refine ⟨true, rfl, fun _ => (strong_iff HOK.out).2 fun t v ht hv => ?_, HB.out⟩
      exact (dist_iff (ok_tubes HOK.out) (by omega) (by omega) (by omega)).2 (HW.out t v (by omega) hv)
set_option maxRecDepth 100000 in
set_option maxHeartbeats 4000000 in
theorem specIsStrongF_any (n : Nat) (tb : List T3) (A : Option Addr) (c : Nat) (w : World) (h : OkNet n tb) (hst : strongB n tb (-1) = false) (hr : Rd3 w w.heap.size A tb) :
    Calls Try.prog 74 #[.agg #[.int .i64 n, .slice A tb.length c]] w fun e w' => e = .returned (.tuple #[.bool false, .int .i64 0]) ∧ Below w.heap.size w w' := by
  have b0 : Below w.heap.size w (w.alloc (.cells #[.int .i64 n, .slice A tb.length c] 87)) := (by repeat (first | exact Below.refl _ _ | assumption | (refine Below.alloc ?_ (by simp <;> omega) _) | refine Below.drew ?_ | refine bdn ?_ _))
  have X0 := BoxN.new w #[.int .i64 n, .slice A tb.length c] 87
  have HO := hide (l02Ok_any n tb A c w.heap.size _ h ((hr.below b0).more b0.size) X0)
  have HS := hide fun W (hW : Below (w.alloc (.cells #[.int .i64 n, .slice A tb.length c] 87)).heap.size (w.alloc (.cells #[.int .i64 n, .slice A tb.length c] 87)) W) => l02Strong_any n tb A c w.heap.size W h ((hr.below (b0.trans (hW.mono b0.size))).more (b0.trans (hW.mono b0.size)).size) (X0.below hW X0.lt)
  have HF := hide hst
  have B0 := hide b0
  clear h hr hst X0 b0
  go_enter Try.func74, Try.ntmps74
  go_upto_region 1 with fail
  generalize w.alloc (.cells #[.int .i64 n, .slice A tb.length c] 87) = w0 at *
  go_wp2_with (first | (go_at_call 134; (with_reducible refine (HO.out).mono ?_); rintro e w1 ⟨rfl, b1⟩) | (go_at_call 135; (with_reducible refine (HS.out _ b1).mono ?_); rintro e w2 ⟨sv, rfl, hsv, b2⟩))
  go_ret2
  obtain rfl : sv = false := by
    cases sv
    · rfl
    · have h1 := hsv rfl
      rw [HF.out] at h1; cases h1
  have b01 := B0.out.trans (b1.mono B0.out.size)
  exact ⟨rfl, b01.trans (b2.mono b01.size)⟩
end Go.Proofs.Ytflbddfmhjlknaa
