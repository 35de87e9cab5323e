/-
  The ticks of all runs in each tube: the plain law and the program's own.
-/
import Derived.Test.YtfhociekhffjhaaSpn3
import Derived.Test.YtfhociekhffjhaaRunH
import Derived.StillTailTactics
namespace Go.Proofs.Ytfhociekhffjhaa
open Go.RowKit

def atZ (out : List Int) (t : Int) : Int := (out[t.toNat]?).getD 0
def use1 (ts out : List Int) (t : Int) : List Int := out.set t.toNat (atZ out t + tmOf ts t)
def useW (ts : List Int) (way : List Int) (out : List Int) : List Int := way.foldl (use1 ts) out
def useL (ts : List Int) (l : List TN) (out : List Int) : List Int := l.foldl (fun o e => useW ts e.way o) out
def usedOf (ts : List Int) (l : List TN) : List Int := useL ts l (List.replicate ts.length 0)
theorem use1_len (ts out : List Int) (t : Int) : (use1 ts out t).length = out.length := List.length_set ..
theorem useW_len (ts : List Int) : ∀ (way out : List Int), (useW ts way out).length = out.length := by
  intro way
  induction way with
  | nil => intro out; rfl
  | cons t r ih => intro out; unfold useW at ih ⊢; rw [List.foldl_cons, ih, use1_len]
theorem useL_len (ts : List Int) : ∀ (l : List TN) (out : List Int), (useL ts l out).length = out.length := by
  intro l
  induction l with
  | nil => intro out; rfl
  | cons e l ih => intro out; unfold useL at ih ⊢; rw [List.foldl_cons, ih, useW_len]
theorem useW_drop {ts way out : List Int} {k : Nat} {t : Int} (h : way[k]? = some t) : useW ts (way.drop k) out = useW ts (way.drop (k + 1)) (use1 ts out t) := by unfold useW; rw [drop_cons h, List.foldl_cons]
theorem useL_drop {ts : List Int} {l : List TN} {out : List Int} {k : Nat} {e : TN} (h : l[k]? = some e) : useL ts (l.drop k) out = useL ts (l.drop (k + 1)) (useW ts e.way out) := by unfold useL; rw [drop_cons h, List.foldl_cons]
theorem atZ_get {out : List Int} {n : Nat} {z : Int} (h : out[n]? = some z) : atZ out (n : Int) = z := by simp [atZ, h]
/-- How long some spans are together. -/
def durT : List T3 → Int
  | [] => 0
  | s :: r => s.c - s.b + durT r
theorem durT_append : ∀ x y : List T3, durT (x ++ y) = durT x + durT y := by
  intro x
  induction x with
  | nil => intro y; simp [durT]
  | cons s x ih => intro y; rw [List.cons_append, durT, durT, ih]; omega
theorem durT_perm {x y : List T3} (h : x.Perm y) : durT x = durT y := by
  induction h with
  | nil => rfl
  | cons a _ ih => rw [durT, durT, ih]
  | swap a b r => simp only [durT]; omega
  | trans _ _ i1 i2 => exact i1.trans i2
theorem atZ_use1 {ts out : List Int} {t u : Int} (ht : 0 ≤ t ∧ t < out.length) (hu : 0 ≤ u) : atZ (use1 ts out t) u = atZ out u + if t = u then tmOf ts t else 0 := by
  unfold use1 atZ
  by_cases h : t = u
  · subst h
    rw [List.getElem?_set_self (by omega), if_pos rfl]; rfl
  · rw [List.getElem?_set_ne (by omega), if_neg h]; omega
theorem atZ_useW {ts : List Int} {u : Int} (hu : 0 ≤ u) : ∀ (way out : List Int) (f : Int), (∀ t ∈ way, 0 ≤ t ∧ t < out.length) → atZ (useW ts way out) u = atZ out u + durT ((spGo ts f way).filter (inT u)) := by
  intro way
  induction way with
  | nil => intro out f _; simp [useW, spGo, durT]
  | cons t r ih =>
    intro out f h
    have h1 := ih (use1 ts out t) (f + tmOf ts t) (fun z hz => by rw [use1_len]; exact h z (List.mem_cons_of_mem _ hz))
    unfold useW at h1 ⊢
    rw [List.foldl_cons, h1, atZ_use1 (h t (List.mem_cons_self ..)) hu, spGo]
    by_cases he : t = u
    · rw [if_pos he, List.filter_cons_of_pos (by simp [inT, he]), durT]; dsimp only; omega
    · rw [if_neg he, List.filter_cons_of_neg (by simp [inT, he])]; omega
theorem atZ_useL {ts : List Int} {u : Int} (hu : 0 ≤ u) : ∀ (l : List TN) (out : List Int), (∀ e ∈ l, ∀ t ∈ e.way, 0 ≤ t ∧ t < out.length) → atZ (useL ts l out) u = atZ out u + durT (inTube ts l u) := by
  intro l
  induction l with
  | nil => intro out _; simp [useL, inTube, takenOf, durT]
  | cons e l ih =>
    intro out h
    have h1 := ih (useW ts e.way out) (fun d hd t ht => by rw [useW_len]; exact h d (List.mem_cons_of_mem _ hd) t ht)
    have h2 : inTube ts (e :: l) u = (spGo ts e.p e.way).filter (inT u) ++ inTube ts l u := by
      unfold inTube takenOf
      rw [List.flatMap_cons, List.filter_append]; rfl
    unfold useL at h1 ⊢
    rw [List.foldl_cons, h1, h2, durT_append, atZ_useW hu e.way out e.p (h e (List.mem_cons_self ..))]
    omega
theorem used_at {ts : List Int} {l : List TN} (hlo : ∀ e ∈ l, OkWay ts e.way) {u : Int} (hu : 0 ≤ u) : atZ (usedOf ts l) u = durT (spIn ts l u) := by
  unfold usedOf spIn
  rw [atZ_useL hu l _ (fun e he t ht => by rw [List.length_replicate]; have := (hlo e he).2 t ht; omega), durT_perm (sortT_perm _)]
  have : atZ (List.replicate ts.length 0) u = 0 := by
    unfold atZ
    rw [List.getElem?_replicate]
    split <;> rfl
  rw [this]; omega
set_option maxRecDepth 100000 in
set_option maxHeartbeats 8000000 in
theorem ticksUsed_any (ts : List Int) (l : List TN) (A0 : Option Addr) (c0 : Nat) (A : Option Addr) (c : Nat) (w : World) (hv : vRuns ts l = true) (h1 : RdI w w.heap.size A0 ts) (h2 : RN 1 w w.heap.size A l) :
    Calls Try.prog 70 #[.slice A0 ts.length c0, .slice A l.length c] w fun e w' => ∃ A' c', e = .returned (.tuple #[.slice A' ts.length c', .int .i64 0]) ∧ RdI w' w'.heap.size A' (usedOf ts l) ∧ Below w.heap.size w w' := by
  obtain ⟨i0, hi0, hz0, hs0, hb0⟩ := info_parts int64_info
  obtain ⟨hts, hl12, hlo⟩ := vRuns_iff.1 hv
  have hsm : SmallN l := by
    unfold SmallN
    have : ∀ x : List TN, (∀ e ∈ x, e.way.length ≤ 12) → (x.map fun e => e.way.length).sum ≤ 12 * x.length := by
      intro x
      induction x with
      | nil => intro _; simp
      | cons e x ih =>
        intro h
        rw [List.map_cons, List.sum_cons, List.length_cons]
        have h1 := h e (List.mem_cons_self ..)
        have h2 := ih fun d hd => h d (List.mem_cons_of_mem _ hd)
        omega
    have := this l fun e he => (hlo e he).1.1.2
    omega
  have HV := hide (validRuns_any ts l A0 c0 A c w (by have := hts.1.2; omega) hsm h1 h2)
  rw [hv] at HV
  have HX := hide h2
  have HT := hide h1
  have HTS := hide hts
  have HLO := hide hlo
  have ht1 := hts.1.1
  have ht2 := hts.1.2
  clear hv hsm h1 h2 hts hlo
  go_enter Try.func70, Try.ntmps70
  go_wp2_with (first | (go_at_call 95; refine (HV.out).mono ?_; rintro e w0 ⟨rfl, hb0'⟩) | (refine wpList_make_full _ rfl _ _ _ rfl w.heap.size 2 i0 _ 1 Try.underlying24 hi0 hz0 hs0 .i64 .i64 (ts.length : Int) (ts.length : Int) ts.length rfl rfl rfl rfl (by rw [hb0]; omega) (by unfold maxLen; omega) hb0'.size ?_; intro w1 hown1 hgr1))
  have hbm : Below w.heap.size w w1 := hb0'.grown hgr1 hb0'.size (by intro k hk; cases hk)
  have hout0 : w1.ownsRow w.heap.size 2 1 (.slice (some ⟨w0.heap.size, 0, none⟩) ts.length ts.length) ts.length ((List.replicate ts.length (0 : Int)).map (Value.int .i64)) := by rw [← made_ints]; exact hown1
  obtain ⟨hg0, hg1⟩ := hout0.lt _ rfl
  generalize w0.heap.size = g0 at *
  clear hown1 hgr1 HV hb0'
  go_loopg [20] l.length (fun g i wr => ∃ (k : Nat) (out : List Int), k ≤ l.length ∧ Hid (g = l.length - k) ∧ i = .int .i64 k ∧ Hid (usedOf ts l = useL ts (l.drop k) out) ∧ Hid (out.length = ts.length) ∧ Hid (∀ z ∈ out, 0 ≤ z ∧ z ≤ 12000 * (k : Int)) ∧ wr.ownsRow w.heap.size 2 1 (.slice (some ⟨g0, 0, none⟩) ts.length ts.length) ts.length (out.map (Value.int .i64)) ∧ Hid (Below w.heap.size w wr))
  case atStart => exact ⟨0, List.replicate ts.length 0, by omega, by simp [Hid], rfl, by simp [Hid, usedOf], by simp [Hid], hide (fun z hz => by have := (List.mem_replicate.1 hz).2; omega), hout0, hbm⟩
  case round =>
    obtain ⟨k, out, hk, hgk, rfl, HU, HL, HZ, hown, HB⟩ := hrel
    clear hout0 hbm hg1
    by_cases hlt : k < l.length
    · obtain ⟨xb, xo, ex, Ax, cx, rfl, hxb, hex, hrx, hx0', hx1', _⟩ := HX.out.at_ (by omega) hlt
      have hb := HB.out
      have hx0 := (hb.cell (p := ⟨xb, xo + k * 2, none⟩) hxb).trans hx0'
      have hx1 := (hb.cell (p := ⟨xb, xo + k * 2 + 1, none⟩) hxb).trans (hx1' (by omega))
      obtain ⟨hox, hpx⟩ := HLO.out ex (List.mem_of_getElem? hex)
      have HUS := hide (useL_drop (ts := ts) (out := out) hex)
      have HOX := hide hox
      have hxw := hox.1.2
      have HRX := hide hrx
      have hr1 := hown.alloc (.cells #[.slice Ax ex.way.length cx, .int .i64 ex.p] 34)
      have hb1 := hb.alloc hb.size (.cells #[.slice Ax ex.way.length cx, .int .i64 ex.p] 34)
      have HBA := hide hb1
      clear hb hown hex hrx hx0' hx1' hox hpx hb1
      go_wp2_with fail
      go_loopg [27] ex.way.length (fun g i wr => ∃ (j : Nat) (out2 : List Int), j ≤ ex.way.length ∧ Hid (g = ex.way.length - j) ∧ i = .int .i64 j ∧ Hid (useW ts ex.way out = useW ts (ex.way.drop j) out2) ∧ Hid (out2.length = ts.length) ∧ Hid (∀ z ∈ out2, 0 ≤ z ∧ z ≤ 12000 * (k : Int) + 1000 * j) ∧ wr.ownsRow w.heap.size 2 1 (.slice (some ⟨g0, 0, none⟩) ts.length ts.length) ts.length (out2.map (Value.int .i64)) ∧ Hid (Below w.heap.size w wr))
      case atStart => exact ⟨0, out, by omega, by simp [Hid], rfl, by simp [Hid], HL.out, hide (fun z hz => by have := HZ.out z hz; omega), hr1, HBA.out⟩
      case round =>
        obtain ⟨j, out2, hj, hgj, rfl, HU2, HL2, HZ2, hown2, HB2⟩ := hrel
        clear hr1 HBA
        by_cases hjt : j < ex.way.length
        · obtain ⟨wb, wo, t1, rfl, hwb, ht, hwc⟩ := (HRX.out.below HB2.out).at_ hjt
          obtain ⟨ht0, ht9⟩ := HOX.out.2 t1 (List.mem_of_getElem? ht)
          obtain ⟨n1, rfl⟩ := Int.eq_ofNat_of_zero_le ht0
          obtain ⟨tb, to, tv, rfl, htb, htv, htc⟩ := (HT.out.below HB2.out).at_ (show n1 < ts.length by omega)
          have htv9 := HTS.out.2 tv (List.mem_of_getElem? htv)
          have hoz : ∃ z, out2[n1]? = some z := ⟨_, List.getElem?_eq_getElem (by rw [HL2.out]; omega)⟩
          obtain ⟨z, hz⟩ := hoz
          have hzb := HZ2.out z (List.mem_of_getElem? hz)
          have hca := own_atI hown2 hz
          have hfa := hown2.frozenAt n1
          have HUN := hide (show useW ts ex.way out = useW ts (ex.way.drop (j + 1)) (out2.set n1 (z + tv)) by
            rw [HU2.out, useW_drop ht]; unfold use1; rw [atZ_get hz, tm_get htv]; rfl)
          have HLN := hide (show (out2.set n1 (z + tv)).length = ts.length by rw [List.length_set]; exact HL2.out)
          have HZN := hide (show ∀ y ∈ out2.set n1 (z + tv), 0 ≤ y ∧ y ≤ 12000 * (k : Int) + 1000 * ((j + 1 : Nat) : Int) by
            intro y hy
            rcases List.mem_or_eq_of_mem_set hy with hy | rfl
            · have := HZ2.out y hy; omega
            · omega)
          have HZG := hide hz
          have HROW := hide hown2
          have hn0 : (0 : Int) ≤ (n1 : Int) := by omega
          have hn9 : (n1 : Int) < ts.length := by omega
          obtain ⟨htv1, htv2⟩ := htv9
          obtain ⟨hz1, hz2⟩ := hzb
          clear hz htv ht HU2 HL2 HZ2 hown2
          go_wp2_with fail
          go_still_tail 10, (by kernel_rfl)
          change wpList _ _ _ _ _ wr.drew
          have HROW2 : Hid (wr.drew.ownsRow w.heap.size 2 1 (.slice (some ⟨g0, 0, none⟩) ts.length ts.length) ts.length (out2.map (Value.int .i64))) := HROW.out
          have HB3 : Hid (Below w.heap.size w wr.drew) := HB2.out.drew
          clear hca hfa hwc htc
          generalize wr.drew = wd at *
          have hca := own_atI HROW2.out HZG.out
          have hfa := HROW2.out.frozenAt n1
          have hs1 := own_setI HROW2.out n1 (z + tv)
          have HS1 := hide hs1.1
          have hb9 : Below w.heap.size w (wd.setCell ⟨g0, n1, none⟩ (.int .i64 (z + tv))) := HB3.out.setCell hg0 _
          have HB9 := hide hb9
          clear hs1 hb9
          go_wp2_with fail
          go_roundg (ex.way.length - (j + 1))
          case measure => have := hgj.out; omega
          case rel => exact ⟨j + 1, out2.set n1 (z + tv), by omega, rfl, by go_num, HUN, HLN, HZN, HS1.out, HB9.out⟩
        · have HUF := hide (show usedOf ts l = useL ts (l.drop (k + 1)) out2 by rw [HU.out, HUS.out, HU2.out, show ex.way.drop j = [] from List.drop_eq_nil_of_le (by omega)]; rfl)
          have HZF := hide (show ∀ z ∈ out2, 0 ≤ z ∧ z ≤ 12000 * ((k + 1 : Nat) : Int) from fun z hz => by have := HZ2.out z hz; omega)
          go_wp2_with fail
          go_roundg (l.length - (k + 1))
          case measure => have := hgk.out; omega
          case rel => exact ⟨k + 1, out2, by omega, rfl, by go_num, HUF, HL2.out, HZF, hown2, HB2.out⟩
    · have HE := hide (show usedOf ts l = out by rw [HU.out, List.drop_eq_nil_of_le (by omega)]; rfl)
      go_wp2_with fail
      go_ret2
      refine ⟨_, ⟨_, rfl⟩, ?_, HB.out⟩
      rw [HE.out]
      exact RdI.of_own hown
end Go.Proofs.Ytfhociekhffjhaa
