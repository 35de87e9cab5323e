/-
  SpansIn and FreeAt, in the reference.
-/
import Derived.Test.YtflbddfmhjlknaaSpn4
import Derived.Test.YtflbddfmhjlknaaRunD
namespace Go.Proofs.Ytflbddfmhjlknaa
open Go.RowKit

/-- A list of spans as the reference's answer is read, with all that is read below a bound. -/
def Q_Int64SS (w : World) (_lo hi : Nat) (v : Value) (x : List TN) : Prop := R_Int64SS w hi v x ∧ hi ≤ w.heap.size
theorem Q_Int64SS.below {w w' : World} {lo hi B : Nat} {v : Value} {x : List TN} (h : Q_Int64SS w lo hi v x) (k : Below B w w') (hd : hi ≤ B) : Q_Int64SS w' lo hi v x := ⟨h.1.below (k.mono hd), Nat.le_trans h.2 k.size⟩
theorem Q_Int64SS.kept {w w' : World} {lo hi lo' hi' : Nat} {v : Value} {x : List TN} (h : Q_Int64SS w lo hi v x) (k : Only lo' hi' w w') (hd : hi ≤ lo') : Q_Int64SS w' lo hi v x := h.below (k.below hd h.2) (Nat.le_refl _)
theorem spIn_bd4 {ts : List Int} (hts : OkTimes ts) {l : List TN} (h : OkPlan ts l) {t : Int} : ∀ s ∈ spIn ts l t, 0 ≤ s.b ∧ s.b < s.c ∧ s.c ≤ 1012000 := fun s hs => by
  have h1 := (sortT_perm (inTube ts l t)).mem_iff.1 hs
  exact taken_bd hts h s (List.mem_filter.1 h1).1
set_option maxRecDepth 100000 in
set_option maxHeartbeats 4000000 in
theorem L_eqQ_Int64SS (x : List TN) (v1 v2 : Value) (lo1 hi1 lo2 hi2 : Nat) (w : World) (h1 : O_Int64SS w lo1 hi1 v1 x) (h2 : Q_Int64SS w lo2 hi2 v2 x) :
    Calls Try.prog 51 #[v1, v2] w fun e w' => e = .returned (.bool true) ∧ Below w.heap.size w w' := by
  have hs := h1.small
  have hxl : x.length ≤ 1048576 := by unfold SmallN at hs; omega
  obtain ⟨A, c, rfl, r1⟩ := h1.r
  obtain ⟨A2, c2, rfl, r2⟩ := h2.1.more h2.2
  have HX := hide r1; have HY := hide r2
  have Hs := hide hs
  have hB : ((x.length : Int) != x.length) = false := by simp
  clear h1 h2 r1 r2 hs
  go_enter Try.func51, Try.ntmps51
  go_wp2_with fail
  go_loopg [5] x.length (fun g i wr => ∃ k : Nat, k ≤ x.length ∧ Hid (g = x.length - k) ∧ i = .int .i64 k ∧ Below w.heap.size w wr)
  case atStart => exact ⟨0, by omega, by simp [Hid], rfl, Below.refl _ _⟩
  case round =>
    obtain ⟨k, hk, hg, rfl, hb⟩ := hrel
    by_cases hlt : k < x.length
    · obtain ⟨b1, o1, z1, Aw, cw, rfl, hb1, hz1, hrw, hc0, hc1, hc2⟩ := (HX.out.below hb).at_ (by omega) hlt
      obtain ⟨b2, o2, z2, Aw2, cw2, rfl, hb2, hz2, hrw2, hd0, hd1, hd2⟩ := (HY.out.below hb).at_ (by omega) hlt
      obtain rfl : z1 = z2 := by rw [hz1] at hz2; exact Option.some.inj hz2
      have hw1 := Hs.out.way hz1
      clear hz1 hz2
      rw [Nat.zero_add, Nat.mul_one] at hc0
      rw [Nat.zero_add, Nat.mul_one] at hd0
      clear hc1 hc2 hd1 hd2
      have HC := hide fun W (hW : Below w.heap.size wr W) => eqI_refl z1.way Aw Aw2 cw cw2 W (by omega) ((hrw.below hW).more (Nat.le_trans hb.size hW.size)) ((hrw2.below hW).more (Nat.le_trans hb.size hW.size))
      clear hrw hrw2
      go_wp2_with fail
      go_still_tail 8, (by kernel_rfl)
      change wpList _ _ _ _ _ wr.drew
      have hb3 : Below w.heap.size w wr.drew := hb.drew
      have hb4 : Below w.heap.size wr wr.drew := (Below.refl _ _).drew
      have HC2 := hide (HC.out _ hb4)
      generalize wr.drew = w2 at *
      go_wp2_with (go_at_call 52; refine (HC2.out).mono ?_; rintro e w1 ⟨rfl, hb1⟩)
      go_roundg (x.length - (k + 1))
      case measure => have := hg.out; omega
      case rel => exact ⟨k + 1, by omega, rfl, by go_num, hb3.trans (hb1.mono hb3.size)⟩
    · go_wp2_with fail
      go_ret
      exact ⟨rfl, hb⟩
set_option maxRecDepth 100000 in
set_option maxHeartbeats 4000000 in
theorem l06Tube_any (ts : List Int) (x : List TN) (t : Int) (A0 : Option Addr) (c0 : Nat) (A : Option Addr) (c : Nat) (w : World) (h0 : ts.length ≤ 1048576) (hs : SmallN x) (h1 : RdI w w.heap.size A0 ts) (h2 : RN 1 w w.heap.size A x) :
    Calls Try.prog 116 #[.slice A0 ts.length c0, .slice A x.length c, .int .i64 t] w fun e w' => e = .returned (.int .i64 (rcode ts x t)) ∧ w = w' := by
  have HV := hide (l06Ok_any ts x A0 c0 A c w h0 hs h1 h2)
  cases hv : vRuns ts x
  · rw [hv] at HV
    have HR := hide (show rcode ts x t = 1 by simp [rcode, hv])
    clear hv h1 h2
    go_enter Try.func116, Try.ntmps116
    go_wp2_with (go_at_call 146; refine (HV.out).mono ?_; rintro e w' ⟨rfl, rfl⟩)
    go_ret
    exact ⟨ret_i HR.out.symm, rfl⟩
  rw [hv] at HV
  have hts := (vRuns_iff.1 hv).1.1
  by_cases g : 0 ≤ t ∧ t ≤ (ts.length : Int) - 1
  · have HR := hide (show rcode ts x t = 0 by simp [rcode, hv, inB_t g])
    obtain ⟨g1, g2⟩ := g
    clear hv h1 h2 hts
    go_enter Try.func116, Try.ntmps116
    go_wp2_with (first | (go_at_call 146; refine (HV.out).mono ?_; rintro e w' ⟨rfl, rfl⟩) | (go_at_call 83; first | (refine (l00In_t _ _ _ _ (by omega)).mono ?_; rintro e w' ⟨rfl, rfl⟩) | (refine (l00In_f _ _ _ _ (by omega)).mono ?_; rintro e w' ⟨rfl, rfl⟩)))
    go_ret
    exact ⟨ret_i HR.out.symm, rfl⟩
  · have HR := hide (show rcode ts x t = 2 by simp [rcode, hv, inB_f (show t < 0 ∨ (ts.length : Int) - 1 < t by omega)])
    have g' : t < 0 ∨ (ts.length : Int) - 1 < t := by omega
    clear hv g h1 h2 hts
    go_enter Try.func116, Try.ntmps116
    go_wp2_with (first | (go_at_call 146; refine (HV.out).mono ?_; rintro e w' ⟨rfl, rfl⟩) | (go_at_call 83; first | (refine (l00In_t _ _ _ _ (by omega)).mono ?_; rintro e w' ⟨rfl, rfl⟩) | (refine (l00In_f _ _ _ _ (by omega)).mono ?_; rintro e w' ⟨rfl, rfl⟩)))
    go_ret
    exact ⟨ret_i HR.out.symm, rfl⟩
set_option maxRecDepth 100000 in
set_option maxHeartbeats 4000000 in
theorem S_SpansIn (ts : List Int) (v : Value) (x : List TN) (u : Value) (t : Int) (w : World) (h0 : ts.length ≤ 1048576) (_ : ∀ z ∈ ts, -9223372036854775808 ≤ z ∧ z ≤ 9223372036854775807) (h : R_Int64S w w.heap.size v ts) (hs : SmallN x) (_ : ∀ e ∈ x, e.Fits) (h2 : R_RunS w w.heap.size u x) (_ : -9223372036854775808 ≤ t) (_ : t ≤ 9223372036854775807) :
    Calls Try.prog 47 #[v, u, .int .i64 t] w fun e w' => ∃ r, e = .returned (.tuple #[r, .int .i64 (spansInV ts x t).2]) ∧ Q_Int64SS w' w.heap.size w'.heap.size r (spansInV ts x t).1 ∧ Below w.heap.size w w' := by
  obtain ⟨A0, c0, rfl, h1⟩ := h
  obtain ⟨A, c, rfl, h2⟩ := h2
  have HC := hide (l06Tube_any ts x t A0 c0 A c w h0 hs h1 h2)
  by_cases hcd : rcode ts x t = 0
  case neg =>
    have HR := hide (show spansInV ts x t = ([], rcode ts x t) by unfold spansInV; exact if_neg hcd)
    have hne : (rcode ts x t != 0) = true := by simp [hcd]
    generalize rcode ts x t = cd at *
    clear hcd h1 h2
    go_enter Try.func47, Try.ntmps47
    go_wp2_with (go_at_call 116; refine (HC.out).mono ?_; rintro e w' ⟨rfl, rfl⟩)
    go_ret2
    exact ⟨.slice none 0 0, by rw [HR.out]; rfl, by rw [HR.out]; exact ⟨(O_Int64SS.nil w 0 w.heap.size none 0).r, Nat.le_refl _⟩, Below.refl _ _⟩
  rw [hcd] at HC
  have HR := hide (show spansInV ts x t = ((spIn ts x t).map pairTN, 0) by unfold spansInV; exact if_pos hcd)
  obtain ⟨hv, ht0, ht1⟩ := rcode_ok hcd
  obtain ⟨hts, hl12, hlo⟩ := vRuns_iff.1 hv
  have HSI := hide (l06In_any ts x t A0 c0 A c w hts hl12 (fun e he => hlo e he) h1 h2)
  clear hcd hv hts hlo h1 h2
  generalize spIn ts x t = ss at *
  go_enter Try.func47, Try.ntmps47
  go_wp2_with (first | (go_at_call 116; refine (HC.out).mono ?_; rintro e w' ⟨rfl, rfl⟩) | (go_at_call 117; refine (HSI.out).mono ?_; rintro e w4 ⟨A4, c4, rfl, r4, b4⟩))
  go_ret2
  exact ⟨_, by rw [HR.out]; rfl, by rw [HR.out]; exact ⟨⟨A4, c4, by rw [List.length_map]; rfl, r4⟩, Nat.le_refl _⟩, b4⟩
set_option maxRecDepth 100000 in
set_option maxHeartbeats 4000000 in
theorem S_FreeAt (ts : List Int) (v : Value) (x : List TN) (u : Value) (t f k : Int) (w : World) (h0 : ts.length ≤ 1048576) (_ : ∀ z ∈ ts, -9223372036854775808 ≤ z ∧ z ≤ 9223372036854775807) (h : R_Int64S w w.heap.size v ts) (hs : SmallN x) (_ : ∀ e ∈ x, e.Fits) (h2 : R_RunS w w.heap.size u x) (_ : -9223372036854775808 ≤ t) (_ : t ≤ 9223372036854775807) (_ : -9223372036854775808 ≤ f) (_ : f ≤ 9223372036854775807) (_ : -9223372036854775808 ≤ k) (_ : k ≤ 9223372036854775807) :
    Calls Try.prog 58 #[v, u, .int .i64 t, .int .i64 f, .int .i64 k] w fun e w' => e = .returned (.tuple #[.bool (freeAtV ts x t f k).1, .int .i64 (freeAtV ts x t f k).2]) ∧ Below w.heap.size w w' := by
  obtain ⟨A0, c0, rfl, h1⟩ := h
  obtain ⟨A, c, rfl, h2⟩ := h2
  have HC := hide (l06Tube_any ts x t A0 c0 A c w h0 hs h1 h2)
  have HST := hide (l06Start_any f w)
  by_cases hcd : rcode ts x t = 0
  case neg =>
    have HR := hide (show freeAtV ts x t f k = (false, rcode ts x t) by
      have : fcode ts x t f k = rcode ts x t := by unfold fcode; exact if_neg hcd
      unfold freeAtV; rw [this, if_neg hcd])
    have hne : (rcode ts x t != 0) = true := by simp [hcd]
    have hne2 : (rcode ts x t == 0) = false := by simp [hcd]
    generalize rcode ts x t = cd at *
    clear hcd h1 h2
    go_enter Try.func58, Try.ntmps58
    go_wp2_with (go_at_call 116; refine (HC.out).mono ?_; rintro e w' ⟨rfl, rfl⟩)
    go_ret2
    exact ⟨by rw [HR.out]; rfl, Below.refl _ _⟩
  rw [hcd] at HC
  obtain ⟨hv, ht0, ht1⟩ := rcode_ok hcd
  obtain ⟨hts, hl12, hlo⟩ := vRuns_iff.1 hv
  by_cases g : (0 ≤ f ∧ f ≤ 100000) ∧ (f ≤ k ∧ k ≤ 200000)
  case neg =>
    have HR := hide (show freeAtV ts x t f k = (false, 2) by
      have : fcode ts x t f k = 2 := by
        unfold fcode
        rw [if_pos hcd, if_neg (fun h => g ⟨inB_iff.1 h.1, inB_iff.1 h.2⟩)]
      unfold freeAtV; rw [this, if_neg (by omega)])
    clear hcd hv hts hlo h1 h2
    by_cases g1 : 0 ≤ f ∧ f ≤ 100000
    · have g2 : k < f ∨ 200000 < k := by omega
      rw [inB_t g1] at HST
      obtain ⟨g3, g4⟩ := g1
      clear g
      go_enter Try.func58, Try.ntmps58
      go_wp2_with (first | (go_at_call 116; refine (HC.out).mono ?_; rintro e w' ⟨rfl, rfl⟩) | (go_at_call 123; refine (HST.out).mono ?_; rintro e w' ⟨rfl, rfl⟩) | (go_at_call 83; first | (refine (l00In_t _ _ _ _ (by omega)).mono ?_; rintro e w' ⟨rfl, rfl⟩) | (refine (l00In_f _ _ _ _ (by omega)).mono ?_; rintro e w' ⟨rfl, rfl⟩)))
      go_ret2
      exact ⟨by rw [HR.out]; rfl, Below.refl _ _⟩
    · rw [inB_f (show f < 0 ∨ 100000 < f by omega)] at HST
      clear g g1
      go_enter Try.func58, Try.ntmps58
      go_wp2_with (first | (go_at_call 116; refine (HC.out).mono ?_; rintro e w' ⟨rfl, rfl⟩) | (go_at_call 123; refine (HST.out).mono ?_; rintro e w' ⟨rfl, rfl⟩) | (go_at_call 83; first | (refine (l00In_t _ _ _ _ (by omega)).mono ?_; rintro e w' ⟨rfl, rfl⟩) | (refine (l00In_f _ _ _ _ (by omega)).mono ?_; rintro e w' ⟨rfl, rfl⟩)))
      go_ret2
      exact ⟨by rw [HR.out]; rfl, Below.refl _ _⟩
  obtain ⟨⟨g1, g2⟩, g3, g4⟩ := g
  rw [inB_t ⟨g1, g2⟩] at HST
  have HR := hide (show freeAtV ts x t f k = (!((spIn ts x t).any (hitT f k)), 0) by
    have : fcode ts x t f k = 0 := by
      unfold fcode
      rw [if_pos hcd, if_pos ⟨inB_t ⟨g1, g2⟩, inB_t ⟨g3, g4⟩⟩]
    unfold freeAtV; rw [this, if_pos rfl])
  have HSI := hide (l06In_any ts x t A0 c0 A c w hts hl12 (fun e he => hlo e he) h1 h2)
  have HBD := hide (spIn_bd4 hts ⟨by omega, fun e he => ⟨(hlo e he).1, (hlo e he).2.1, by have := (hlo e he).2.2; omega⟩⟩ (t := t))
  have hsl := spIn_len (ts := ts) (l := x) (t := t) (fun e he => (hlo e he).1.1.2)
  have hsm : (spIn ts x t).length ≤ 144 := by omega
  clear hcd hv hts hlo h1 h2 hsl
  generalize spIn ts x t = ss at *
  go_enter Try.func58, Try.ntmps58
  go_wp2_with (first | (go_at_call 116; refine (HC.out).mono ?_; rintro e w' ⟨rfl, rfl⟩) | (go_at_call 123; refine (HST.out).mono ?_; rintro e w' ⟨rfl, rfl⟩) | (go_at_call 83; first | (refine (l00In_t _ _ _ _ (by omega)).mono ?_; rintro e w' ⟨rfl, rfl⟩) | (refine (l00In_f _ _ _ _ (by omega)).mono ?_; rintro e w' ⟨rfl, rfl⟩)) | (go_at_call 117; refine (HSI.out).mono ?_; rintro e w4 ⟨A4, c4, rfl, r4, b4⟩))
  have HRS := hide r4
  have HB4 := hide b4
  clear r4 b4 HC HST HSI
  go_loopg [14] ss.length (fun g i wr => ∃ j : Nat, j ≤ ss.length ∧ Hid (g = ss.length - j) ∧ i = .int .i64 j ∧ Hid ((ss.take j).any (hitT f k) = false) ∧ Below w4.heap.size w4 wr)
  case atStart => exact ⟨0, by omega, by simp [Hid], rfl, by simp [Hid], Below.refl _ _⟩
  case round =>
    obtain ⟨j, hj, hgj, rfl, HNO, hb⟩ := hrel
    by_cases hjt : j < ss.length
    · obtain ⟨pb, po, s, pb', po', pc, rfl, hpb, hpb', hs', ha0, ha1, ha2⟩ := pairs_at' (HRS.out.below hb) hjt
      obtain ⟨hs0, hs1, hs2⟩ := HBD.out s (List.mem_of_getElem? hs')
      have hst : (ss.take (j + 1)).any (hitT f k) = ((ss.take j).any (hitT f k) || hitT f k s) := by
        obtain ⟨hk, rfl⟩ := List.getElem?_eq_some_iff.1 hs'
        rw [List.take_succ_eq_append_getElem hk, List.any_append]; simp
      rw [HNO.out, Bool.false_or] at hst
      have HSS := hide hs'
      clear hs'
      by_cases c1 : f < k
      case neg =>
        have HN := hide (show (ss.take (j + 1)).any (hitT f k) = false by rw [hst]; unfold hitT; exact decide_eq_false (by omega))
        clear hst
        go_wp2_with fail
        (try (go_quiet (fail)); try (go_wp2_with fail))
        go_roundg (ss.length - (j + 1))
        case measure => have := hgj.out; omega
        case rel => exact ⟨j + 1, by omega, rfl, by go_num, HN, by first | exact hb | exact bdn hb _⟩
      by_cases c2 : s.b < k
      case neg =>
        have HN := hide (show (ss.take (j + 1)).any (hitT f k) = false by rw [hst]; unfold hitT; exact decide_eq_false (by omega))
        clear hst
        go_wp2_with fail
        (try (go_quiet (fail)); try (go_wp2_with fail))
        go_roundg (ss.length - (j + 1))
        case measure => have := hgj.out; omega
        case rel => exact ⟨j + 1, by omega, rfl, by go_num, HN, by first | exact hb | exact bdn hb _⟩
      by_cases c3 : f < s.c
      case neg =>
        have HN := hide (show (ss.take (j + 1)).any (hitT f k) = false by rw [hst]; unfold hitT; exact decide_eq_false (by omega))
        clear hst
        go_wp2_with fail
        (try (go_quiet (fail)); try (go_wp2_with fail))
        go_roundg (ss.length - (j + 1))
        case measure => have := hgj.out; omega
        case rel => exact ⟨j + 1, by omega, rfl, by go_num, HN, by first | exact hb | exact bdn hb _⟩
      have HA := hide (show ss.any (hitT f k) = true by
        rw [List.any_eq_true]
        exact ⟨s, List.mem_of_getElem? HSS.out, by unfold hitT; exact decide_eq_true (by omega)⟩)
      clear hst
      go_wp2_with fail
      (try (go_quiet (fail)); try (go_wp2_with fail))
      go_ret2
      exact ⟨by rw [HR.out, HA.out]; rfl, by first | exact HB4.out.trans (hb.mono HB4.out.size) | exact HB4.out.trans ((bdn hb _).mono HB4.out.size)⟩
    · have HA := hide (show ss.any (hitT f k) = false by have h := HNO.out; rw [List.take_of_length_le (by omega)] at h; exact h)
      go_wp2_with fail
      go_ret2
      exact ⟨by rw [HR.out, HA.out]; rfl, HB4.out.trans (hb.mono HB4.out.size)⟩
end Go.Proofs.Ytflbddfmhjlknaa
