/-
  Times, ways, runs and wishes: which are valid; in the program and in the reference.
-/
import Derived.Test.YtflbddfmhjlknaaNestL
import Derived.Test.YtflbddfmhjlknaaRunP
import Derived.Test.YtflbddfmhjlknaaInts
namespace Go.Proofs.Ytflbddfmhjlknaa
open Go.RowKit

def okTimes (ts : List Int) : Bool := inB 1 24 ts.length && ts.all (inB 1 1000)
def okWayB (ts way : List Int) : Bool := inB 1 12 way.length && way.all (inB 0 ((ts.length : Int) - 1))
def okWishB (ts : List Int) (e : TN) : Bool := okWayB ts e.way && (inB 0 10000 e.p && inB 0 10000 e.q)
def okRunB (ts : List Int) (e : TN) : Bool := okWayB ts e.way && inB 0 100000 e.p
def vWishes (ts : List Int) (l : List TN) : Bool := okTimes ts && (decide (l.length ≤ 6) && l.all (okWishB ts))
def vRuns (ts : List Int) (l : List TN) : Bool := okTimes ts && (decide (l.length ≤ 12) && l.all (okRunB ts))
theorem okTimes_iff {ts : List Int} : okTimes ts = true ↔ OkTimes ts := by
  unfold okTimes OkTimes
  rw [Bool.and_eq_true, inB_iff, List.all_eq_true]
  constructor
  · intro h; exact ⟨⟨by omega, by omega⟩, fun z hz => inB_iff.1 (h.2 z hz)⟩
  · intro h; exact ⟨⟨by omega, by omega⟩, fun z hz => inB_iff.2 (h.2 z hz)⟩
theorem okWay_iff {ts way : List Int} : okWayB ts way = true ↔ OkWay ts way := by
  unfold okWayB OkWay
  rw [Bool.and_eq_true, inB_iff, List.all_eq_true]
  constructor
  · intro h; exact ⟨⟨by omega, by omega⟩, fun z hz => inB_iff.1 (h.2 z hz)⟩
  · intro h; exact ⟨⟨by omega, by omega⟩, fun z hz => inB_iff.2 (h.2 z hz)⟩
def OkWish (ts : List Int) (e : TN) : Prop := OkWay ts e.way ∧ (0 ≤ e.p ∧ e.p ≤ 10000) ∧ (0 ≤ e.q ∧ e.q ≤ 10000)
def OkRun (ts : List Int) (e : TN) : Prop := OkWay ts e.way ∧ (0 ≤ e.p ∧ e.p ≤ 100000)
theorem vWishes_iff {ts : List Int} {l : List TN} : vWishes ts l = true ↔ OkTimes ts ∧ l.length ≤ 6 ∧ ∀ e ∈ l, OkWish ts e := by
  unfold vWishes OkWish okWishB
  simp only [Bool.and_eq_true, okTimes_iff, decide_eq_true_eq, List.all_eq_true, okWay_iff, inB_iff]
theorem vRuns_iff {ts : List Int} {l : List TN} : vRuns ts l = true ↔ OkTimes ts ∧ l.length ≤ 12 ∧ ∀ e ∈ l, OkRun ts e := by
  unfold vRuns OkRun okRunB
  simp only [Bool.and_eq_true, okTimes_iff, decide_eq_true_eq, List.all_eq_true, okWay_iff, inB_iff]
set_option maxRecDepth 100000 in
set_option maxHeartbeats 4000000 in
theorem l06Times_any (ts : List Int) (A : Option Addr) (c : Nat) (w : World) (hx : ts.length ≤ 1048576) (h1 : RdI w w.heap.size A ts) :
    Calls Try.prog 167 #[.slice A ts.length c] w fun e w' => e = .returned (.bool (okTimes ts)) ∧ w = w' := by
  have HX := hide h1; clear h1
  go_enter Try.func167, Try.ntmps167
  go_wp2_with fail
  go_loopg [3] ts.length (fun g i wr => ∃ k : Nat, k ≤ ts.length ∧ Hid (g = ts.length - k) ∧ i = .int .i64 k ∧ Hid (ts.all (inB 1 1000) = (ts.drop k).all (inB 1 1000)) ∧ w = wr)
  case atStart => exact ⟨0, by omega, by simp [Hid], rfl, by simp [Hid], rfl⟩
  case round =>
    obtain ⟨k, hk, hg, rfl, HS, rfl⟩ := hrel
    by_cases hlt : k < ts.length
    · obtain ⟨b1, o1, z1, rfl, _, hz1, hca⟩ := HX.out.at_ hlt
      have HS' := HS.out; rw [all_drop _ _ _ _ hz1] at HS'
      have HQ := hide HS'; clear HS' hz1
      by_cases hz : (1 ≤ z1 ∧ z1 ≤ 1000)
      · have HB := hide (inB_t hz)
        obtain ⟨hz0, hz9⟩ := hz
        go_wp2_with (go_at_call 83; first | (refine (l00In_t _ _ _ _ (by omega)).mono ?_; rintro e w' ⟨rfl, rfl⟩) | (refine (l00In_f _ _ _ _ (by omega)).mono ?_; rintro e w' ⟨rfl, rfl⟩))
        go_roundg (ts.length - (k + 1))
        case measure => have := hg.out; omega
        case rel => exact ⟨k + 1, by omega, rfl, by go_num, hide (by have := HQ.out; rw [HB.out] at this; simpa using this), rfl⟩
      · have hz' : z1 < 1 ∨ 1000 < z1 := by omega
        have HB := hide (inB_f hz')
        clear hz
        go_wp2_with (go_at_call 83; first | (refine (l00In_t _ _ _ _ (by omega)).mono ?_; rintro e w' ⟨rfl, rfl⟩) | (refine (l00In_f _ _ _ _ (by omega)).mono ?_; rintro e w' ⟨rfl, rfl⟩))
        go_ret
        exact ⟨ret_b (by unfold okTimes; rw [HQ.out, HB.out]; simp), rfl⟩
    · have HA : Hid (ts.all (inB 1 1000) = true) := by
        have := HS.out; rw [List.drop_eq_nil_of_le (by omega)] at this; exact this
      by_cases hl : 1 ≤ ts.length ∧ ts.length ≤ 24
      · have HR := hide (show okTimes ts = true by unfold okTimes; rw [HA.out, inB_t (by omega)]; rfl)
        go_wp2_with (go_at_call 83; first | (refine (l00In_t _ _ _ _ (by omega)).mono ?_; rintro e w' ⟨rfl, rfl⟩) | (refine (l00In_f _ _ _ _ (by omega)).mono ?_; rintro e w' ⟨rfl, rfl⟩))
        go_ret
        exact ⟨ret_b HR.out.symm, rfl⟩
      · have hl' : (ts.length : Int) < 1 ∨ 24 < (ts.length : Int) := by omega
        have HR := hide (show okTimes ts = false by unfold okTimes; rw [inB_f hl']; rfl)
        clear hl
        go_wp2_with (go_at_call 83; first | (refine (l00In_t _ _ _ _ (by omega)).mono ?_; rintro e w' ⟨rfl, rfl⟩) | (refine (l00In_f _ _ _ _ (by omega)).mono ?_; rintro e w' ⟨rfl, rfl⟩))
        go_ret
        exact ⟨ret_b HR.out.symm, rfl⟩
set_option maxRecDepth 100000 in
set_option maxHeartbeats 4000000 in
theorem l06Way_any (ts way : List Int) (A0 : Option Addr) (c0 : Nat) (A : Option Addr) (c : Nat) (w : World) (h0 : ts.length ≤ 1048576) (hx : way.length ≤ 1048576) (h1 : RdI w w.heap.size A way) :
    Calls Try.prog 166 #[.slice A0 ts.length c0, .slice A way.length c] w fun e w' => e = .returned (.bool (okWayB ts way)) ∧ w = w' := by
  have HX := hide h1; clear h1
  go_enter Try.func166, Try.ntmps166
  go_wp2_with fail
  go_loopg [5] way.length (fun g i wr => ∃ k : Nat, k ≤ way.length ∧ Hid (g = way.length - k) ∧ i = .int .i64 k ∧ Hid (way.all (inB 0 ((ts.length : Int) - 1)) = (way.drop k).all (inB 0 ((ts.length : Int) - 1))) ∧ w = wr)
  case atStart => exact ⟨0, by omega, by simp [Hid], rfl, by simp [Hid], rfl⟩
  case round =>
    obtain ⟨k, hk, hg, rfl, HS, rfl⟩ := hrel
    by_cases hlt : k < way.length
    · obtain ⟨b1, o1, z1, rfl, _, hz1, hca⟩ := HX.out.at_ hlt
      have HS' := HS.out; rw [all_drop _ _ _ _ hz1] at HS'
      have HQ := hide HS'; clear HS' hz1
      by_cases hz : (0 ≤ z1 ∧ z1 ≤ (ts.length : Int) - 1)
      · have HB := hide (inB_t hz)
        obtain ⟨hz0, hz9⟩ := hz
        go_wp2_with (go_at_call 83; first | (refine (l00In_t _ _ _ _ (by omega)).mono ?_; rintro e w' ⟨rfl, rfl⟩) | (refine (l00In_f _ _ _ _ (by omega)).mono ?_; rintro e w' ⟨rfl, rfl⟩))
        go_roundg (way.length - (k + 1))
        case measure => have := hg.out; omega
        case rel => exact ⟨k + 1, by omega, rfl, by go_num, hide (by have := HQ.out; rw [HB.out] at this; simpa using this), rfl⟩
      · have hz' : z1 < 0 ∨ (ts.length : Int) - 1 < z1 := by omega
        have HB := hide (inB_f hz')
        clear hz
        go_wp2_with (go_at_call 83; first | (refine (l00In_t _ _ _ _ (by omega)).mono ?_; rintro e w' ⟨rfl, rfl⟩) | (refine (l00In_f _ _ _ _ (by omega)).mono ?_; rintro e w' ⟨rfl, rfl⟩))
        go_ret
        exact ⟨ret_b (by unfold okWayB; rw [HQ.out, HB.out]; simp), rfl⟩
    · have HA : Hid (way.all (inB 0 ((ts.length : Int) - 1)) = true) := by
        have := HS.out; rw [List.drop_eq_nil_of_le (by omega)] at this; exact this
      by_cases hl : 1 ≤ way.length ∧ way.length ≤ 12
      · have HR := hide (show okWayB ts way = true by unfold okWayB; rw [HA.out, inB_t (by omega)]; rfl)
        go_wp2_with (go_at_call 83; first | (refine (l00In_t _ _ _ _ (by omega)).mono ?_; rintro e w' ⟨rfl, rfl⟩) | (refine (l00In_f _ _ _ _ (by omega)).mono ?_; rintro e w' ⟨rfl, rfl⟩))
        go_ret
        exact ⟨ret_b HR.out.symm, rfl⟩
      · have hl' : (way.length : Int) < 1 ∨ 12 < (way.length : Int) := by omega
        have HR := hide (show okWayB ts way = false by unfold okWayB; rw [inB_f hl']; rfl)
        clear hl
        go_wp2_with (go_at_call 83; first | (refine (l00In_t _ _ _ _ (by omega)).mono ?_; rintro e w' ⟨rfl, rfl⟩) | (refine (l00In_f _ _ _ _ (by omega)).mono ?_; rintro e w' ⟨rfl, rfl⟩))
        go_ret
        exact ⟨ret_b HR.out.symm, rfl⟩
set_option maxRecDepth 100000 in
theorem l06Start_any (n : Int) (w : World) : Calls Try.prog 123 #[.int .i64 n] w fun e w' => e = .returned (.bool (inB 0 100000 n)) ∧ w = w' := by
  go_enter Try.func123, Try.ntmps123
  go_wp2_with (go_at_call 83; refine (l00In_any _ _ _ _).mono ?_; rintro e w' ⟨rfl, rfl⟩)
  go_ret
  exact ⟨rfl, rfl⟩
set_option maxRecDepth 100000 in
set_option maxHeartbeats 4000000 in
theorem l06Ok_any (ts : List Int) (x : List TN) (A0 : Option Addr) (c0 : Nat) (A : Option Addr) (c : Nat) (w : World) (h0 : ts.length ≤ 1048576) (hs : SmallN x) (h1 : RdI w w.heap.size A0 ts) (h2 : RN 1 w w.heap.size A x) :
    Calls Try.prog 146 #[.slice A0 ts.length c0, .slice A x.length c] w fun e w' => e = .returned (.bool (vRuns ts x)) ∧ w = w' := by
  have hxl : x.length ≤ 1048576 := by unfold SmallN at hs; omega
  have HX := hide h2
  have HS0 := hide hs
  have HT := hide (l06Times_any ts A0 c0 w h0 h1)
  clear h1 h2 hs
  go_enter Try.func146, Try.ntmps146
  go_wp2_with fail
  go_loopg [5] x.length (fun g i wr => ∃ k : Nat, k ≤ x.length ∧ Hid (g = x.length - k) ∧ i = .int .i64 k ∧ Hid (x.all (okRunB ts) = (x.drop k).all (okRunB ts)) ∧ w = wr)
  case atStart => exact ⟨0, by omega, by simp [Hid], rfl, by simp [Hid], rfl⟩
  case round =>
    obtain ⟨k, hk, hg, rfl, HS, rfl⟩ := hrel
    by_cases hlt : k < x.length
    · obtain ⟨b1, o1, z1, Aw, cw, rfl, _, hz1, hrw, hn0, hc1, hc2⟩ := HX.out.at_ (by omega) hlt
      have hn1 := hc1 (by omega)
      clear hc1 hc2
      have hwl := HS0.out.way hz1
      have HS' := HS.out; rw [all_drop _ _ _ _ hz1] at HS'
      have HQ := hide HS'; clear HS' hz1
      have HW := hide (l06Way_any ts z1.way A0 c0 Aw cw w h0 hwl hrw)
      have HP := hide (l06Start_any z1.p w)
      cases hw : okWayB ts z1.way
      · rw [hw] at HW
        have HF := hide (show x.all (okRunB ts) = false by rw [HQ.out]; simp [okRunB, hw])
        clear hw HQ HS
        go_wp2_with (first | (go_at_call 166; refine (HW.out).mono ?_; rintro e w' ⟨rfl, rfl⟩) | (go_at_call 123; refine (HP.out).mono ?_; rintro e w' ⟨rfl, rfl⟩))
        go_ret
        exact ⟨ret_b (by unfold vRuns; rw [HF.out]; simp), rfl⟩
      rw [hw] at HW
      cases hp : inB 0 100000 z1.p
      · rw [hp] at HP
        have HF := hide (show x.all (okRunB ts) = false by rw [HQ.out]; simp [okRunB, hp])
        clear hp HQ HS
        go_wp2_with (first | (go_at_call 166; refine (HW.out).mono ?_; rintro e w' ⟨rfl, rfl⟩) | (go_at_call 123; refine (HP.out).mono ?_; rintro e w' ⟨rfl, rfl⟩))
        go_ret
        exact ⟨ret_b (by unfold vRuns; rw [HF.out]; simp), rfl⟩
      rw [hp] at HP
      have HO := hide (show okRunB ts z1 = true by simp [okRunB, hw, hp])
      clear hw hp 
      go_wp2_with (first | (go_at_call 166; refine (HW.out).mono ?_; rintro e w' ⟨rfl, rfl⟩) | (go_at_call 123; refine (HP.out).mono ?_; rintro e w' ⟨rfl, rfl⟩))
      go_roundg (x.length - (k + 1))
      case measure => have := hg.out; omega
      case rel => exact ⟨k + 1, by omega, rfl, by go_num, hide (by have := HQ.out; rw [HO.out] at this; simpa using this), rfl⟩
    · have HA : Hid (x.all (okRunB ts) = true) := by
        have := HS.out; rw [List.drop_eq_nil_of_le (by omega)] at this; exact this
      cases ht : okTimes ts
      · rw [ht] at HT
        have HR := hide (show vRuns ts x = false by simp [vRuns, ht])
        clear ht
        go_wp2_with (go_at_call 167; refine (HT.out).mono ?_; rintro e w' ⟨rfl, rfl⟩)
        go_ret
        exact ⟨ret_b HR.out.symm, rfl⟩
      · rw [ht] at HT
        by_cases hl : x.length ≤ 12
        · have HR := hide (show vRuns ts x = true by simp only [vRuns, ht, HA.out, decide_eq_true hl]; rfl)
          clear ht
          go_wp2_with (go_at_call 167; refine (HT.out).mono ?_; rintro e w' ⟨rfl, rfl⟩)
          go_ret
          exact ⟨ret_b (by rw [HR.out]; exact decide_eq_true (by omega)), rfl⟩
        · have HR := hide (show vRuns ts x = false by simp [vRuns, hl])
          clear ht
          go_wp2_with (go_at_call 167; refine (HT.out).mono ?_; rintro e w' ⟨rfl, rfl⟩)
          go_ret
          exact ⟨ret_b (by rw [HR.out]; exact decide_eq_false (by omega)), rfl⟩
set_option maxRecDepth 100000 in
set_option maxHeartbeats 4000000 in
theorem validTimes_any (ts : List Int) (A : Option Addr) (c : Nat) (w : World) (hx : ts.length ≤ 1048576) (h1 : RdI w w.heap.size A ts) :
    Calls Try.prog 168 #[.slice A ts.length c] w fun e w' => e = .returned (.bool (okTimes ts)) ∧ Below w.heap.size w w' := by
  have HO := hide (outside_any ts 1 1000 A c w (by omega) h1)
  rw [any_not_all] at HO
  clear h1
  by_cases hl : 1 ≤ ts.length ∧ ts.length ≤ 24
  · obtain ⟨hl1, hl2⟩ := hl
    have HR := hide (show okTimes ts = ts.all (inB 1 1000) by unfold okTimes; rw [inB_t (by omega)]; rfl)
    generalize ts.all (inB 1 1000) = b at *
    go_enter Try.func168, Try.ntmps168
    go_wp2_with (first | (go_at_call 80; first | (refine (within_t _ _ _ _ (by omega)).mono ?_; rintro e w' ⟨rfl, rfl⟩) | (refine (within_f _ _ _ _ (by omega)).mono ?_; rintro e w' ⟨rfl, rfl⟩)) | (go_at_call 114; refine (HO.out).mono ?_; rintro e w1 ⟨rfl, hb1⟩))
    go_ret
    exact ⟨ret_b (by rw [HR.out] <;> simp), hb1⟩
  · have hl' : (ts.length : Int) < 1 ∨ 24 < (ts.length : Int) := by omega
    have HR := hide (show okTimes ts = false by unfold okTimes; rw [inB_f hl']; rfl)
    clear hl
    go_enter Try.func168, Try.ntmps168
    go_wp2_with (go_at_call 80; first | (refine (within_t _ _ _ _ (by omega)).mono ?_; rintro e w' ⟨rfl, rfl⟩) | (refine (within_f _ _ _ _ (by omega)).mono ?_; rintro e w' ⟨rfl, rfl⟩))
    go_ret
    exact ⟨ret_b HR.out.symm, Below.refl _ _⟩
set_option maxRecDepth 100000 in
set_option maxHeartbeats 4000000 in
theorem isRunWay_any (ts way : List Int) (A0 : Option Addr) (c0 : Nat) (A : Option Addr) (c : Nat) (w : World) (h0 : ts.length ≤ 1048576) (hx : way.length ≤ 1048576) (h1 : RdI w w.heap.size A way) :
    Calls Try.prog 171 #[.slice A0 ts.length c0, .slice A way.length c] w fun e w' => e = .returned (.bool (okWayB ts way)) ∧ Below w.heap.size w w' := by
  have HO := hide (outside_any way 0 ((ts.length : Int) - 1) A c w (by omega) h1)
  rw [any_not_all] at HO
  clear h1
  by_cases hl : 1 ≤ way.length ∧ way.length ≤ 12
  · obtain ⟨hl1, hl2⟩ := hl
    have HR := hide (show okWayB ts way = way.all (inB 0 ((ts.length : Int) - 1)) by unfold okWayB; rw [inB_t (by omega)]; rfl)
    generalize way.all (inB 0 ((ts.length : Int) - 1)) = b at *
    go_enter Try.func171, Try.ntmps171
    go_wp2_with (first | (go_at_call 80; first | (refine (within_t _ _ _ _ (by omega)).mono ?_; rintro e w' ⟨rfl, rfl⟩) | (refine (within_f _ _ _ _ (by omega)).mono ?_; rintro e w' ⟨rfl, rfl⟩)) | (go_at_call 114; refine (HO.out).mono ?_; rintro e w1 ⟨rfl, hb1⟩))
    go_ret
    exact ⟨ret_b (by rw [HR.out] <;> simp), hb1⟩
  · have hl' : (way.length : Int) < 1 ∨ 12 < (way.length : Int) := by omega
    have HR := hide (show okWayB ts way = false by unfold okWayB; rw [inB_f hl']; rfl)
    clear hl
    go_enter Try.func171, Try.ntmps171
    go_wp2_with (go_at_call 80; first | (refine (within_t _ _ _ _ (by omega)).mono ?_; rintro e w' ⟨rfl, rfl⟩) | (refine (within_f _ _ _ _ (by omega)).mono ?_; rintro e w' ⟨rfl, rfl⟩))
    go_ret
    exact ⟨ret_b HR.out.symm, Below.refl _ _⟩
set_option maxRecDepth 100000 in
set_option maxHeartbeats 4000000 in
theorem indexFuncRunN_any (p : TN → Bool) (F : FuncId) (cap : Array Value) (x : List TN) (A : Option Addr) (c : Nat) (w : World) (hx : x.length ≤ 1048576)
    (hcf : ∀ args w, (callFunc F args).run Try.prog w = .ok (.enter F args) w) (h1 : RN 1 w w.heap.size A x)
    (hp : ∀ z Aw cw W, z ∈ x → Below w.heap.size w W → RdI W W.heap.size Aw z.way → Calls Try.prog F (#[.agg #[.slice Aw z.way.length cw, .int .i64 z.p]] ++ cap) W fun e w' => e = .returned (.bool (p z)) ∧ Below W.heap.size W w') :
    Calls Try.prog 178 #[.slice A x.length c, .func (.func F) #[] cap] w fun e w' => e = .returned (.int .i64 (firstI p x 0)) ∧ Below w.heap.size w w' := by
  have HP := hide hp
  have HX := hide h1
  clear hp h1
  go_enter Try.func178, Try.ntmps178
  go_wp2_with fail
  go_loopg [8] x.length (fun g i wr => ∃ k : Nat, k ≤ x.length ∧ Hid (g = x.length - k) ∧ i = .int .i64 k ∧ Below w.heap.size w wr ∧ Hid (firstI p x 0 = firstI p (x.drop k) k))
  case atStart => exact ⟨0, by omega, by simp [Hid], rfl, Below.refl _ _, hide (by simp)⟩
  case round =>
    obtain ⟨k, hk, hg, rfl, hb, HE⟩ := hrel
    by_cases hlt : k < x.length
    · obtain ⟨b1, o1, z, Aw, cw, rfl, _, hz1, hrw, hn0, hc1, hc2⟩ := (HX.out.below hb).at_ (by omega) hlt
      have hn1 := hc1 (by omega)
      clear hc1 hc2
      have HQ := HP.out z Aw cw wr (List.mem_of_getElem? hz1) hb (hrw.more hb.size)
      have h := HE.out
      rw [drop_cons hz1] at h
      clear hz1 hrw
      cases hpz : p z
      · rw [hpz] at HQ
        have h' := hide (show firstI p x 0 = firstI p (x.drop (k + 1)) (k + 1) by simpa [firstI, hpz] using h)
        have HQ' := hide HQ
        clear h HQ hpz HE
        go_wp2_with fail
        refine HQ'.out.mono ?_
        rintro e w1 ⟨rfl, hb1⟩
        go_wp2_with fail
        go_roundg (x.length - (k + 1))
        case measure => have := hg.out; omega
        case rel => exact ⟨k + 1, by omega, rfl, by go_num, hb.trans (hb1.mono hb.size), h'⟩
      · rw [hpz] at HQ
        have h' := hide (show firstI p x 0 = k by simpa [firstI, hpz] using h)
        have HQ' := hide HQ
        clear h HQ hpz HE
        go_wp2_with fail
        refine HQ'.out.mono ?_
        rintro e w1 ⟨rfl, hb1⟩
        go_wp2_with fail
        go_ret
        exact ⟨ret_i h'.out.symm, hb.trans (hb1.mono hb.size)⟩
    · have h := HE.out
      rw [List.drop_eq_nil_of_le (by omega)] at h
      have HF := hide h
      clear h
      go_wp2_with fail
      go_ret
      exact ⟨ret_i (by rw [HF.out]; rfl), hb⟩
set_option maxRecDepth 100000 in
set_option maxHeartbeats 4000000 in
theorem containsFuncRunN_any (p : TN → Bool) (F : FuncId) (cap : Array Value) (x : List TN) (A : Option Addr) (c : Nat) (w : World) (hx : x.length ≤ 1048576)
    (hcf : ∀ args w, (callFunc F args).run Try.prog w = .ok (.enter F args) w) (h1 : RN 1 w w.heap.size A x)
    (hp : ∀ z Aw cw W, z ∈ x → Below w.heap.size w W → RdI W W.heap.size Aw z.way → Calls Try.prog F (#[.agg #[.slice Aw z.way.length cw, .int .i64 z.p]] ++ cap) W fun e w' => e = .returned (.bool (p z)) ∧ Below W.heap.size W w') :
    Calls Try.prog 169 #[.slice A x.length c, .func (.func F) #[] cap] w fun e w' => e = .returned (.bool (x.any p)) ∧ Below w.heap.size w w' := by
  have HC := hide (indexFuncRunN_any p F cap x A c w hx hcf h1 hp)
  clear hp h1
  have HE := hide (firstI_ge p x 0)
  go_enter Try.func169, Try.ntmps169
  go_wp2_with fail
  refine HC.out.mono ?_
  rintro e w1 ⟨rfl, hb⟩
  go_wp2_with fail
  go_ret
  exact ⟨ret_b HE.out, hb⟩
set_option maxRecDepth 100000 in
set_option maxHeartbeats 4000000 in
theorem validRun1_any (ts : List Int) (A0 : Option Addr) (c0 : Nat) (tb : Nat) (z : TN) (Aw : Option Addr) (cw : Nat) (w : World) (h0 : ts.length ≤ 1048576) (hx : z.way.length ≤ 1048576) (k0 : w.cell? ⟨tb, 0, none⟩ = some (.slice A0 ts.length c0)) (h1 : RdI w w.heap.size Aw z.way) :
    Calls Try.prog 170 #[.agg #[.slice Aw z.way.length cw, .int .i64 z.p], .pointer (some ⟨tb, 0, none⟩)] w fun e w' => e = .returned (.bool (!okRunB ts z)) ∧ Below w.heap.size w w' := by
  have b0 : Below w.heap.size w (w.alloc (.cells #[.slice Aw z.way.length cw, .int .i64 z.p] 136)) := (by repeat (first | exact Below.refl _ _ | assumption | (refine Below.alloc ?_ (by simp <;> omega) _) | refine Below.drew ?_ | refine bdn ?_ _))
  have z0 : w.heap.size + 1 ≤ (w.alloc (.cells #[.slice Aw z.way.length cw, .int .i64 z.p] 136)).heap.size := by simp
  have X0 := hide (BoxN.new w #[.slice Aw z.way.length cw, .int .i64 z.p] 136)
  have htl := World.block_lt_of_cell? w _ k0
  have HW := hide (isRunWay_any ts z.way A0 c0 Aw cw (w.alloc (.cells #[.slice Aw z.way.length cw, .int .i64 z.p] 136)) h0 hx ((h1.below b0).more b0.size))
  clear h1
  cases hw : okWayB ts z.way
  · rw [hw] at HW
    have HR := hide (show okRunB ts z = false by simp [okRunB, hw])
    clear hw
    go_enter Try.func170, Try.ntmps170
    go_wp2_with (go_at_call 171; refine (HW.out).mono ?_; rintro e w1 ⟨rfl, hb1⟩)
    go_ret
    exact ⟨ret_b (by rw [HR.out]; rfl), b0.trans (hb1.mono b0.size)⟩
  rw [hw] at HW
  have HR := hide (show okRunB ts z = inB 0 100000 z.p by simp [okRunB, hw])
  have HP := hide fun W => within_any z.p 0 100000 W
  clear hw
  generalize inB 0 100000 z.p = bp at *
  go_enter Try.func170, Try.ntmps170
  go_wp2_with (first | (go_at_call 80; refine (HP.out _).mono ?_; rintro e w' ⟨rfl, rfl⟩) | (go_at_call 171; refine (HW.out).mono ?_; rintro e w1 ⟨rfl, hb1⟩; have X1 := X0.out.below hb1 z0; have q1 := X1.cell 1; simp only [List.getElem?_cons_succ, List.getElem?_cons_zero] at q1))
  go_ret
  exact ⟨ret_b (by rw [HR.out]), b0.trans (hb1.mono b0.size)⟩
set_option maxRecDepth 100000 in
set_option maxHeartbeats 4000000 in
theorem validRuns_any (ts : List Int) (x : List TN) (A0 : Option Addr) (c0 : Nat) (A : Option Addr) (c : Nat) (w : World) (h0 : ts.length ≤ 1048576) (hs : SmallN x) (h1 : RdI w w.heap.size A0 ts) (h2 : RN 1 w w.heap.size A x) :
    Calls Try.prog 148 #[.slice A0 ts.length c0, .slice A x.length c] w fun e w' => e = .returned (.bool (vRuns ts x)) ∧ Below w.heap.size w w' := by
  have hxl : x.length ≤ 1048576 := by unfold SmallN at hs; omega
  have b0 : Below w.heap.size w (w.alloc (.cells #[.slice A0 ts.length c0] 30)) := (by repeat (first | exact Below.refl _ _ | assumption | (refine Below.alloc ?_ (by simp <;> omega) _) | refine Below.drew ?_ | refine bdn ?_ _))
  have z0 : w.heap.size + 1 ≤ (w.alloc (.cells #[.slice A0 ts.length c0] 30)).heap.size := by simp
  have X0 := hide (BoxN.new w #[.slice A0 ts.length c0] 30)
  have HT := hide (validTimes_any ts A0 c0 _ h0 ((h1.below b0).more b0.size))
  have hcf := callFunc_gen (P := Try.prog) (F := 170) Try.func170 (by kernel_rfl) (by kernel_rfl)
  have HC := hide fun W (hW : Below (w.heap.size + 1) (w.alloc (.cells #[.slice A0 ts.length c0] 30)) W) => containsFuncRunN_any (fun z => !okRunB ts z) 170 #[.pointer (some ⟨w.heap.size, 0, none⟩)] x A c W hxl hcf ((h2.below (b0.trans (hW.mono (by omega)))).more (by have := hW.size; omega)) (fun z Aw cw W' hz hW' hr => by
    obtain ⟨i, hi⟩ := List.getElem?_of_mem hz
    exact validRun1_any ts A0 c0 w.heap.size z Aw cw W' h0 (hs.way hi) (by have := ((X0.out.below hW (by omega)).below hW' (by have := hW.size; omega)).cell 0; simpa using this) hr)
  rw [any_not_all] at HC
  clear h1 h2 hcf
  cases ht : okTimes ts
  · rw [ht] at HT
    have HR := hide (show vRuns ts x = false by simp [vRuns, ht])
    clear ht
    go_enter Try.func148, Try.ntmps148
    go_wp2_with (go_at_call 168; refine (HT.out).mono ?_; rintro e w1 ⟨rfl, hb1⟩)
    go_ret
    exact ⟨ret_b HR.out.symm, b0.trans (hb1.mono b0.size)⟩
  rw [ht] at HT
  by_cases hl : x.length ≤ 12
  case neg =>
    have HR := hide (show vRuns ts x = false by simp [vRuns, hl])
    clear ht
    go_enter Try.func148, Try.ntmps148
    go_wp2_with (go_at_call 168; refine (HT.out).mono ?_; rintro e w1 ⟨rfl, hb1⟩)
    go_ret
    exact ⟨ret_b HR.out.symm, b0.trans (hb1.mono b0.size)⟩
  have HR := hide (show vRuns ts x = x.all (okRunB ts) by simp [vRuns, ht, hl])
  clear ht
  generalize x.all (okRunB ts) = bb at *
  go_enter Try.func148, Try.ntmps148
  go_wp2_with (first | (go_at_call 168; refine (HT.out).mono ?_; rintro e w1 ⟨rfl, hb1⟩; have hb2 := hb1.mono z0) | (go_at_call 169; refine (HC.out _ hb2).mono ?_; rintro e w2 ⟨rfl, hb3⟩))
  go_ret
  exact ⟨ret_b (by rw [HR.out] <;> simp), b0.trans ((hb2.trans (hb3.mono (by have := hb2.size; omega))).mono (by omega))⟩
end Go.Proofs.Ytflbddfmhjlknaa
