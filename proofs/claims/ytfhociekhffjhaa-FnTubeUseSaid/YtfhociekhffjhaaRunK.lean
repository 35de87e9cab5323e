/-
  The ends of runs, the last end, the late wishes; in the program and in the reference.
-/
import Derived.Test.YtfhociekhffjhaaRunJ2
namespace Go.Proofs.Ytfhociekhffjhaa
open Go.RowKit

def endGo (ts : List Int) : Int → List Int → Int
  | f, [] => f
  | f, t :: r => endGo ts (f + tmOf ts t) r
theorem endGo_bd {ts : List Int} (hts : OkTimes ts) : ∀ {way : List Int} {f : Int}, (∀ t ∈ way, 0 ≤ t ∧ t ≤ (ts.length : Int) - 1) → f ≤ endGo ts f way ∧ endGo ts f way ≤ f + 1000 * way.length := by
  intro way
  induction way with
  | nil => intro f _; simp [endGo]
  | cons t r ih =>
    intro f h
    have h1 := tmOf_bd hts (h t (List.mem_cons_self ..))
    have h2 := ih (f := f + tmOf ts t) fun t ht => h t (List.mem_cons_of_mem _ ht)
    rw [endGo, List.length_cons]; omega
theorem endGo_drop {ts way : List Int} {k : Nat} {t : Int} (h : way[k]? = some t) (f : Int) : endGo ts f (way.drop k) = endGo ts (f + tmOf ts t) (way.drop (k + 1)) := by rw [drop_cons h, endGo]
theorem ordGo_nodup {n : Int} : ∀ {r pre : List Int}, ordGo n pre r = true → r.Nodup ∧ ∀ k ∈ r, k ∉ pre := by
  intro r
  induction r with
  | nil => intro pre _; exact ⟨List.nodup_nil, fun k hk => by cases hk⟩
  | cons a r ih =>
    intro pre h
    rw [ordGo] at h
    simp only [Bool.and_eq_true, Bool.not_eq_true'] at h
    obtain ⟨i1, i2⟩ := ih h.2.2
    have ha : a ∉ pre := fun hm => by
      have := h.2.1
      rw [show hasI pre a = true from List.any_eq_true.2 ⟨a, hm, by simp⟩] at this
      cases this
    refine ⟨List.nodup_cons.2 ⟨fun hm => i2 a hm (List.mem_append.2 (.inr (List.mem_singleton.2 rfl))), i1⟩, fun k hk => ?_⟩
    rcases List.mem_cons.1 hk with rfl | hk
    · exact ha
    · exact fun hm => i2 k hk (List.mem_append.2 (.inl hm))
theorem order_all {ts : List Int} {l : List TN} {order : List Int} (h : codeO ts l order = 0) {i : Nat} (hi : i < l.length) : (i : Int) ∈ order := by
  obtain ⟨_, hol, hoi⟩ := codeO_ok h
  have hnd : order.Nodup := by
    unfold codeO at h
    split at h
    · split at h
      · rename_i ho
        unfold ordOk at ho
        simp only [Bool.and_eq_true] at ho
        exact (ordGo_nodup ho.1).1
      · omega
    · omega
  refine Classical.byContradiction fun hne => ?_
  have h1 : ((i : Int) :: order).Nodup := List.nodup_cons.2 ⟨hne, hnd⟩
  have h2 := h1.length_le_of_subset (l₂ := (List.range l.length).map fun (j : Nat) => (j : Int)) fun z hz => by
    rcases List.mem_cons.1 hz with rfl | hz
    · exact List.mem_map.2 ⟨i, List.mem_range.2 hi, rfl⟩
    · have := hoi z hz
      exact List.mem_map.2 ⟨z.toNat, List.mem_range.2 (by omega), by omega⟩
  rw [List.length_cons, List.length_map, List.length_range] at h2
  omega
theorem planRGo_way (ts : List Int) (l : List TN) : ∀ (order : List Int) (done out : List TN) (i : Nat) (e : TN), (∀ k ∈ order, 0 ≤ k) → (planRGo ts l order done out)[i]? = some e → ((i : Int) ∈ order ∨ ∃ e0, out[i]? = some e0 ∧ e0.way = (wishAt l i).way) → e.way = (wishAt l i).way := by
  intro order
  induction order with
  | nil =>
    intro done out i e _ he h
    rcases h with h | ⟨e0, h1, h2⟩
    · cases h
    · rw [planRGo] at he; rw [h1] at he; cases he; exact h2
  | cons k r ih =>
    intro done out i e hk he h
    rw [planRGo] at he
    have hk0 := hk k (List.mem_cons_self ..)
    refine ih _ _ i e (fun k' hk' => hk k' (List.mem_cons_of_mem _ hk')) he ?_
    by_cases hik : (i : Int) = k
    · by_cases hl : i < out.length
      · right
        refine ⟨_, by rw [show k.toNat = i by omega]; exact List.getElem?_set_self hl, by rw [hik]⟩
      · exfalso
        have hlen : ∀ (order : List Int) (done out : List TN), (planRGo ts l order done out).length = out.length := by
          intro order
          induction order with
          | nil => intro done out; rfl
          | cons k r ih => intro done out; rw [planRGo, ih, List.length_set]
        have := lt_of_get he
        rw [hlen, List.length_set] at this
        omega
    · rcases h with h | ⟨e0, h1, h2⟩
      · rcases List.mem_cons.1 h with h | h
        · exact absurd h hik
        · exact .inl h
      · right
        exact ⟨e0, by rw [List.getElem?_set_ne (by omega)]; exact h1, h2⟩
theorem planR_way {ts : List Int} {l : List TN} {order : List Int} (h : codeO ts l order = 0) {i : Nat} {e : TN} (he : (planR ts l order)[i]? = some e) : e.way = (wishAt l i).way := by
  have hil : i < l.length := by have := lt_of_get he; rw [planR_len] at this; exact this
  exact planRGo_way ts l order _ _ i e (fun k hk => ((codeO_ok h).2.2 k hk).1) he (.inl (order_all h hil))
set_option maxRecDepth 100000 in
set_option maxHeartbeats 4000000 in
theorem l06End_any (ts way : List Int) (f : Int) (A0 : Option Addr) (c0 : Nat) (Aw : Option Addr) (cw : Nat) (b o : Nat) (w : World) (hts : OkTimes ts) (hw : OkWay ts way) (hf : 0 ≤ f) (hf' : f ≤ 2000000) (h1 : RdI w w.heap.size A0 ts) (h2 : RdI w w.heap.size Aw way) (k0 : w.cell? ⟨b, o, none⟩ = some (.slice Aw way.length cw)) (k1 : w.cell? ⟨b, o + 1, none⟩ = some (.int .i64 f)) :
    Calls Try.prog 156 #[.slice A0 ts.length c0, .pointer (some ⟨b, o, none⟩)] w fun e w' => e = .returned (.int .i64 (endGo ts f way)) ∧ Below w.heap.size w w' := by
  obtain ⟨⟨hw1, hw2⟩, hin⟩ := hw
  obtain ⟨⟨ht1, ht2⟩, htv⟩ := hts
  have HN := hide hin
  have HV := hide htv
  have HX := hide h1; have HW := hide h2
  clear h1 h2 hin htv
  go_enter Try.func156, Try.ntmps156
  go_wp2_with fail
  go_loopg [5, 6] way.length (fun g a i wr => ∃ (k : Nat) (f' : Int), k ≤ way.length ∧ Hid (g = way.length - k) ∧ i = .int .i64 k ∧ a = .int .i64 f' ∧ 0 ≤ f' ∧ f' ≤ 2000000 + 1000 * k ∧ Hid (endGo ts f way = endGo ts f' (way.drop k)) ∧ w = wr)
  case atStart => exact ⟨0, f, by omega, by simp [Hid], rfl, rfl, hf, by omega, by simp [Hid], rfl⟩
  case round =>
    obtain ⟨k, f', hk, hg, rfl, rfl, hf0, hf9, HS, rfl⟩ := hrel
    by_cases hlt : k < way.length
    · obtain ⟨b1, o1, t1, rfl, hbb1, hz1, hca⟩ := HW.out.at_ hlt
      have hi1 := HN.out t1 (List.mem_of_getElem? hz1)
      obtain ⟨n1, rfl⟩ := Int.eq_ofNat_of_zero_le hi1.1
      obtain ⟨b2, o2, tv, rfl, hbb2, hz2, hcb⟩ := HX.out.at_ (show n1 < ts.length by omega)
      obtain ⟨htv1, htv2⟩ := HV.out tv (List.mem_of_getElem? hz2)
      have HS' := HS.out
      rw [endGo_drop hz1, tm_get hz2] at HS'
      have HQ := hide HS'
      clear HS' HS hz1 hz2
      have hn1 : (n1 : Int) < ts.length := by omega
      have hn0 : (0 : Int) ≤ (n1 : Int) := by omega
      clear hi1
      go_wp2_with fail
      go_roundg (way.length - (k + 1))
      case measure => have := hg.out; omega
      case rel => exact ⟨k + 1, f' + tv, by omega, rfl, by go_num, by go_num, by omega, by omega, HQ, rfl⟩
    · have HF := hide (HS.out.trans (by rw [List.drop_eq_nil_of_le (by omega), endGo] : _ = f'))
      go_wp2_with fail
      go_ret
      exact ⟨by rw [HF.out]; rfl, Below.refl _ _⟩
set_option maxRecDepth 100000 in
set_option maxHeartbeats 4000000 in
theorem endOfRun_any (ts way : List Int) (f : Int) (A0 : Option Addr) (c0 : Nat) (Aw : Option Addr) (cw : Nat) (w : World) (hts : OkTimes ts) (hw : OkWay ts way) (hf : 0 ≤ f) (hf' : f ≤ 2000000) (h1 : RdI w w.heap.size A0 ts) (h2 : RdI w w.heap.size Aw way) :
    Calls Try.prog 99 #[.slice A0 ts.length c0, .agg #[.slice Aw way.length cw, .int .i64 f]] w fun e w' => e = .returned (.int .i64 (endGo ts f way)) ∧ Below w.heap.size w w' := by
  obtain ⟨⟨hw1, hw2⟩, hin⟩ := hw
  obtain ⟨⟨ht1, ht2⟩, htv⟩ := hts
  have HN := hide hin
  have HV := hide htv
  have HX := hide h1; have HW := hide h2
  have b0 : Below w.heap.size w (w.alloc (.cells #[.slice Aw way.length cw, .int .i64 f] 34)) := (by repeat (first | exact Below.refl _ _ | assumption | (refine Below.alloc ?_ (by simp <;> omega) _) | refine Below.drew ?_ | refine bdn ?_ _))
  clear h1 h2 hin htv
  go_enter Try.func99, Try.ntmps99
  go_wp2_with fail
  go_loopg [5, 13] way.length (fun g a i wr => ∃ (k : Nat) (f' : Int), k ≤ way.length ∧ Hid (g = way.length - k) ∧ i = .int .i64 k ∧ a = .int .i64 f' ∧ 0 ≤ f' ∧ f' ≤ 2000000 + 1000 * k ∧ Hid (endGo ts f way = endGo ts f' (way.drop k)) ∧ Below w.heap.size w wr)
  case atStart => exact ⟨0, f, by omega, by simp [Hid], rfl, rfl, hf, by omega, by simp [Hid], b0⟩
  case round =>
    obtain ⟨k, f', hk, hg, rfl, rfl, hf0, hf9, HS, hb⟩ := hrel
    clear b0
    by_cases hlt : k < way.length
    · obtain ⟨b1, o1, t1, rfl, hbb1, hz1, hca⟩ := (HW.out.below hb).at_ hlt
      have hi1 := HN.out t1 (List.mem_of_getElem? hz1)
      obtain ⟨n1, rfl⟩ := Int.eq_ofNat_of_zero_le hi1.1
      obtain ⟨b2, o2, tv, rfl, hbb2, hz2, hcb⟩ := (HX.out.below hb).at_ (show n1 < ts.length by omega)
      obtain ⟨htv1, htv2⟩ := HV.out tv (List.mem_of_getElem? hz2)
      have HS' := HS.out
      rw [endGo_drop hz1, tm_get hz2] at HS'
      have HQ := hide HS'
      clear HS' HS hz1 hz2
      have hn1 : (n1 : Int) < ts.length := by omega
      have hn0 : (0 : Int) ≤ (n1 : Int) := by omega
      clear hi1
      go_wp2_with fail
      go_roundg (way.length - (k + 1))
      case measure => have := hg.out; omega
      case rel => exact ⟨k + 1, f' + tv, by omega, rfl, by go_num, by go_num, by omega, by omega, HQ, hb⟩
    · have HF := hide (HS.out.trans (by rw [List.drop_eq_nil_of_le (by omega), endGo] : _ = f'))
      go_wp2_with fail
      go_ret
      exact ⟨by rw [HF.out]; rfl, hb⟩
set_option maxRecDepth 100000 in
theorem l00MaxR_any (a b : Int) (w : World) : Calls Try.prog 168 #[.int .i64 a, .int .i64 b] w fun e w' => e = .returned (.int .i64 (max a b)) ∧ w = w' := by
  by_cases h : b < a
  · have HR := hide (Int.max_eq_left (show b ≤ a by omega))
    go_enter Try.func168, Try.ntmps168
    go_wp2_with fail
    go_ret
    exact ⟨ret_i HR.out.symm, rfl⟩
  · have HR := hide (Int.max_eq_right (show a ≤ b by omega))
    go_enter Try.func168, Try.ntmps168
    go_wp2_with fail
    go_ret
    exact ⟨ret_i HR.out.symm, rfl⟩
/-- The last end, and the late wishes, of these starts from a wish on. -/
def leGo (ts : List Int) (l : List TN) : List Int → Nat → Int → Int
  | [], _, m => m
  | s :: r, i, m => leGo ts l r (i + 1) (max m (endGo ts s (wishAt l i).way))
def laGo (ts : List Int) (l : List TN) : List Int → Nat → List Int
  | [], _ => []
  | s :: r, i => if (wishAt l i).q < endGo ts s (wishAt l i).way then (i : Int) :: laGo ts l r (i + 1) else laGo ts l r (i + 1)
theorem leGo_drop {ts : List Int} {l : List TN} {xs : List Int} {k : Nat} {z : Int} (h : xs[k]? = some z) (m : Int) : leGo ts l (xs.drop k) k m = leGo ts l (xs.drop (k + 1)) (k + 1) (max m (endGo ts z (wishAt l k).way)) := by rw [drop_cons h, leGo]
theorem laGo_drop {ts : List Int} {l : List TN} {xs : List Int} {k : Nat} {z : Int} (h : xs[k]? = some z) : laGo ts l (xs.drop k) k = if (wishAt l k).q < endGo ts z (wishAt l k).way then (k : Int) :: laGo ts l (xs.drop (k + 1)) (k + 1) else laGo ts l (xs.drop (k + 1)) (k + 1) := by rw [drop_cons h, laGo]
def lastEnd (ts : List Int) (l : List TN) (order : List Int) : Int × Int := if codeO ts l order = 0 then (leGo ts l (plan ts l order) 0 0, 0) else (0, codeO ts l order)
def lateWishes (ts : List Int) (l : List TN) (order : List Int) : List Int × Int := if codeO ts l order = 0 then (laGo ts l (plan ts l order) 0, 0) else ([], codeO ts l order)
set_option maxRecDepth 100000 in
set_option maxHeartbeats 8000000 in
theorem P_LastEnd (ts : List Int) (v : Value) (l : List TN) (u : Value) (order : List Int) (y : Value) (w : World) (h0 : ts.length ≤ 1048576) (_ : ∀ z ∈ ts, -9223372036854775808 ≤ z ∧ z ≤ 9223372036854775807) (h : R_Int64S w w.heap.size v ts) (hs : SmallN l) (_ : ∀ e ∈ l, e.Fits) (k : R_WishS w w.heap.size u l) (ho : order.length ≤ 1048576) (_ : ∀ z ∈ order, -9223372036854775808 ≤ z ∧ z ≤ 9223372036854775807) (q : R_Int64S w w.heap.size y order) (hcap : ∀ A m c, y = .slice A m c → m ≤ c) :
    Calls Try.prog 66 #[v, u, y] w fun e w' => e = .returned (.tuple #[.int .i64 (lastEnd ts l order).1, .int .i64 (lastEnd ts l order).2]) ∧ Below w.heap.size w w' := by
  obtain ⟨A0, c0, rfl, h1⟩ := h
  obtain ⟨A, c, rfl, h2⟩ := k
  obtain ⟨A2, c2, rfl, h3⟩ := q
  have hc2 := hcap _ _ _ rfl
  have HC := hide (wishesCode_any ts l order A0 c0 A c A2 c2 w h0 hs ho hc2 h1 h2 h3)
  have HPL := hide fun (hcd : codeO ts l order = 0) W (hW : Below w.heap.size w W) => runsOfPlan_any ts l order A0 c0 A c A2 c2 W hcd ((h1.below hW).more hW.size) ((h2.below hW).more hW.size) ((h3.below hW).more hW.size)
  have HX := hide h2
  have HTR := hide h1
  clear h1 h2 h3
  by_cases hcd : codeO ts l order = 0
  case neg =>
    have HR := hide (show lastEnd ts l order = (0, codeO ts l order) by unfold lastEnd; exact if_neg hcd)
    have hne : (codeO ts l order != 0) = true := by simp [hcd]
    generalize codeO ts l order = cd at *
    go_enter Try.func66, Try.ntmps66
    go_wp2_with (go_at_call 113; refine (HC.out).mono ?_; rintro e w1 ⟨rfl, hb1⟩)
    go_ret2
    exact ⟨by rw [HR.out]; rfl, hb1⟩
  have HOK := hide (codeO_ok hcd)
  have HPQ := hide (HPL.out hcd)
  rw [hcd] at HC
  have HR := hide (show lastEnd ts l order = (leGo ts l (plan ts l order) 0 0, 0) by unfold lastEnd; exact if_pos hcd)
  have hl6 := HOK.out.1.2.1
  have HPRL := hide (planR_len ts l order)
  have HPG := hide fun i e h => planR_get (ts := ts) (l := l) (order := order) (i := i) (e := e) h
  have HPW := hide fun i e h => planR_way (ts := ts) (l := l) (order := order) (i := i) (e := e) hcd h
  have HPB := hide (plan_bd hcd)
  have HPLL := hide (plan_len ts l order)
  have HEN := hide fun (way : List Int) (f : Int) Aw cw W (hW : Below w.heap.size w W) (hw : OkWay ts way) (hf : 0 ≤ f) (hf' : f ≤ 2000000) (r : RdI W W.heap.size Aw way) => endOfRun_any ts way f A0 c0 Aw cw W HOK.out.1.1 hw hf hf' ((HTR.out.below hW).more hW.size) r
  have HTS := hide HOK.out.1.1
  have HLO := hide HOK.out.1.2.2
  clear hcd HPL
  go_enter Try.func66, Try.ntmps66
  go_wp2_with (first | (go_at_call 113; refine (HC.out).mono ?_; rintro e w1 ⟨rfl, hb1⟩) | (go_at_call 114; refine (HPQ.out _ hb1).mono ?_; rintro e w2 ⟨A3, c3, po, rfl, hpo, hro, hwy, hb2⟩))
  have hb3 := hb1.trans (hb2.mono hb1.size)
  have HRN : Hid (RN 1 w2 w2.heap.size A3 (planR ts l order)) := ⟨po, hpo, Rd.of_own hro, fun p hp => by obtain ⟨A', c', h5, h6⟩ := hwy p hp; exact ⟨A', c', h5, (h6.below hb2).more hb2.size⟩⟩
  clear hb2 hpo hro hwy
  go_loopg [9, 24] l.length (fun g s i wr => ∃ (k : Nat) (m : Int), k ≤ l.length ∧ Hid (g = l.length - k) ∧ i = .int .i64 k ∧ s = .int .i64 m ∧ 0 ≤ m ∧ m ≤ 2000000 ∧ Hid (leGo ts l (plan ts l order) 0 0 = leGo ts l ((plan ts l order).drop k) k m) ∧ Below w2.heap.size w2 wr)
  case atStart => exact ⟨0, 0, by omega, by simp [Hid], rfl, rfl, by omega, by omega, by simp [Hid], Below.refl _ _⟩
  case round =>
    obtain ⟨k, m, hk, hg, rfl, rfl, hm0, hm9, HS, hb⟩ := hrel
    have hbw := hb3.trans (hb.mono hb3.size)
    by_cases hlt : k < l.length
    · obtain ⟨b3, o3, z, Az, cz, rfl, _, hz, hrz, hn0, hd1, _⟩ := (HRN.out.below hb).at_ (by omega) (show k < (planR ts l order).length by rw [HPRL.out]; exact hlt)
      have hn1 := hd1 (by omega)
      have hpg := HPG.out k z hz
      have hpw := HPW.out k z hz
      have hzb := HPB.out z.p (List.mem_of_getElem? hpg)
      obtain ⟨hz0, hz9⟩ := hzb
      have he : l[k]? = some l[k] := List.getElem?_eq_getElem hlt
      have hwk : OkWay ts z.way := by rw [hpw, wishAt_get he]; exact (HLO.out l[k] (List.getElem_mem _)).1
      have heb := endGo_bd HTS.out (f := z.p) hwk.2
      have hw12 := hwk.1.2
      have HS' := HS.out
      rw [leGo_drop hpg, ← hpw] at HS'
      have hba := hide (hb.alloc hb.size (.cells #[.slice Az z.way.length cz, .int .i64 z.p] 34))
      have hbaw := hbw.alloc hbw.size (.cells #[.slice Az z.way.length cz, .int .i64 z.p] 34)
      have HC2 := hide (HEN.out z.way z.p Az cz _ hbaw hwk hz0 (by omega) ((hrz.below ((Below.refl _ wr).alloc (Nat.le_refl _) (.cells #[.slice Az z.way.length cz, .int .i64 z.p] 34) |>.mono hb.size)).more (Nat.le_trans hb.size (by simp))))
      obtain ⟨hen0, hen9⟩ := heb
      generalize endGo ts z.p z.way = en at *
      clear HS hz hpg hpw he hwk hrz hd1 hbaw
      by_cases hmx : en ≤ m
      · have HQ := hide (HS'.trans (by rw [Int.max_eq_left hmx] : _ = leGo ts l ((plan ts l order).drop (k + 1)) (k + 1) m))
        clear HS'
        go_wp2_with (go_at_call 99; refine (HC2.out).mono ?_; rintro e w4 ⟨rfl, hb4⟩)
        go_roundg (l.length - (k + 1))
        case measure => have := hg.out; omega
        case rel => exact ⟨k + 1, m, by omega, rfl, by go_num, rfl, hm0, hm9, HQ, hba.out.trans (hb4.mono hba.out.size)⟩
      · have HQ := hide (HS'.trans (by rw [Int.max_eq_right (by omega)] : _ = leGo ts l ((plan ts l order).drop (k + 1)) (k + 1) en))
        clear HS'
        go_wp2_with (go_at_call 99; refine (HC2.out).mono ?_; rintro e w4 ⟨rfl, hb4⟩)
        go_roundg (l.length - (k + 1))
        case measure => have := hg.out; omega
        case rel => exact ⟨k + 1, en, by omega, rfl, by go_num, by first | rfl | go_num, by omega, by omega, HQ, hba.out.trans (hb4.mono hba.out.size)⟩
    · have HF := hide (HS.out.trans (by rw [List.drop_eq_nil_of_le (by rw [HPLL.out]; omega), leGo] : _ = m))
      go_wp2_with fail
      go_ret2
      exact ⟨by rw [HR.out, HF.out]; rfl, hbw⟩
end Go.Proofs.Ytfhociekhffjhaa
