/-
  The spans of a run and the earliest start; in the program.
-/
import Derived.Test.YtfhociekhffjhaaRunD
namespace Go.Proofs.Ytfhociekhffjhaa
open Go.RowKit

/-- The spans of a run of a list. -/
def spansR (ts : List Int) (e : TN) : List T3 := spGo ts e.p e.way
def takenOf (ts : List Int) (x : List TN) : List T3 := x.flatMap (spansR ts)
def OkPlan (ts : List Int) (x : List TN) : Prop := x.length ≤ 12 ∧ ∀ e ∈ x, OkWay ts e.way ∧ 0 ≤ e.p ∧ e.p ≤ 1000000
theorem tm_get {ts : List Int} {n : Nat} {z : Int} (h : ts[n]? = some z) : tmOf ts (n : Int) = z := by simp [tmOf, h]
theorem spGo_drop {ts way : List Int} {k : Nat} {t : Int} (h : way[k]? = some t) (f : Int) : spGo ts f (way.drop k) = ⟨t, f, f + tmOf ts t⟩ :: spGo ts (f + tmOf ts t) (way.drop (k + 1)) := by rw [drop_cons h, spGo]
theorem taken_bd {ts : List Int} (hts : OkTimes ts) {x : List TN} (h : OkPlan ts x) : ∀ o ∈ takenOf ts x, 0 ≤ o.b ∧ o.b < o.c ∧ o.c ≤ 1012000 := by
  intro o ho
  obtain ⟨e, he, hoe⟩ := List.mem_flatMap.1 ho
  obtain ⟨⟨h1, h2⟩, h3, h4⟩ := h.2 e he
  have := spGo_ge hts h2 o hoe
  omega
theorem taken_len {ts : List Int} {x : List TN} (h : ∀ e ∈ x, e.way.length ≤ 12) : (takenOf ts x).length ≤ 12 * x.length := by
  unfold takenOf
  induction x with
  | nil => simp
  | cons e x ih =>
    rw [List.flatMap_cons, List.length_append, List.length_cons]
    have h1 := h e (List.mem_cons_self ..)
    have h2 := ih fun d hd => h d (List.mem_cons_of_mem _ hd)
    have h3 : (spansR ts e).length = e.way.length := spGo_len _ _ _
    omega
theorem waitIn_drop {s : T3} {tk : List T3} {j : Nat} {o : T3} {w : Int} (h : tk[j]? = some o) : waitIn s (tk.drop j) w = waitIn s (tk.drop (j + 1)) (if meet s o then max w (o.c - s.b) else w) := by rw [drop_cons h, waitIn]
theorem waitOf_drop {tk ss : List T3} {j : Nat} {s : T3} {w : Int} (h : ss[j]? = some s) : waitOf tk (ss.drop j) w = waitOf tk (ss.drop (j + 1)) (waitIn s tk w) := by rw [drop_cons h, waitOf]
theorem span_info : (Try.prog.info? 119).map (fun i => (i.zero, i.size, i.bytes)) = some (some (.agg #[.int .i64 0, .int .i64 0, .int .i64 0]), 3, 24) := by kernel_rfl
set_option maxRecDepth 100000 in
set_option maxHeartbeats 4000000 in
theorem meet_any (s o : T3) (w : World) :
    Calls Try.prog 98 #[.agg #[.int .i64 s.a, .int .i64 s.b, .int .i64 s.c], .agg #[.int .i64 o.a, .int .i64 o.b, .int .i64 o.c]] w fun e w' => e = .returned (.bool (meet s o)) ∧ Below w.heap.size w w' := by
  by_cases h1 : s.a = o.a
  case neg =>
    have HR := hide (show meet s o = false by simp [meet, h1])
    have hB : (s.a == o.a) = false := by simp [h1]
    clear h1
    go_enter Try.func98, Try.ntmps98
    go_wp2_with fail
    go_ret
    exact ⟨ret_b HR.out.symm, (by repeat (first | exact Below.refl _ _ | assumption | (refine Below.alloc ?_ (by simp <;> omega) _) | refine Below.drew ?_ | refine bdn ?_ _))⟩
  have hB : (s.a == o.a) = true := by simp [h1]
  by_cases h2 : s.b < o.c
  case neg =>
    have HR := hide (show meet s o = false by simp [meet, h2])
    have H1 := hide h1
    clear h1
    go_enter Try.func98, Try.ntmps98
    go_wp2_with fail
    go_ret
    exact ⟨ret_b HR.out.symm, (by repeat (first | exact Below.refl _ _ | assumption | (refine Below.alloc ?_ (by simp <;> omega) _) | refine Below.drew ?_ | refine bdn ?_ _))⟩
  by_cases h3 : o.b < s.c
  · have HR := hide (meet_iff.2 ⟨h1, h2, h3⟩)
    clear h1
    go_enter Try.func98, Try.ntmps98
    go_wp2_with fail
    go_ret
    exact ⟨ret_b HR.out.symm, (by repeat (first | exact Below.refl _ _ | assumption | (refine Below.alloc ?_ (by simp <;> omega) _) | refine Below.drew ?_ | refine bdn ?_ _))⟩
  · have HR := hide (show meet s o = false by simp [meet, h3])
    clear h1
    go_enter Try.func98, Try.ntmps98
    go_wp2_with fail
    go_ret
    exact ⟨ret_b HR.out.symm, (by repeat (first | exact Below.refl _ _ | assumption | (refine Below.alloc ?_ (by simp <;> omega) _) | refine Below.drew ?_ | refine bdn ?_ _))⟩
set_option maxRecDepth 100000 in
set_option maxHeartbeats 4000000 in
theorem spansOf_any (ts way : List Int) (f : Int) (A0 : Option Addr) (c0 : Nat) (Aw : Option Addr) (cw : Nat) (w : World) (hts : OkTimes ts) (hw : OkWay ts way) (hf : 0 ≤ f) (hf' : f ≤ 2000000) (h1 : RdI w w.heap.size A0 ts) (h2 : RdI w w.heap.size Aw way) :
    Calls Try.prog 96 #[.slice A0 ts.length c0, .agg #[.slice Aw way.length cw, .int .i64 f]] w fun e w' => ∃ A' c', e = .returned (.slice A' way.length c') ∧ w'.ownsRow w.heap.size 119 3 (.slice A' way.length c') way.length ((spGo ts f way).flatMap T3.cells) ∧ Below w.heap.size w w' := by
  obtain ⟨i0, hi0, hz0, hs0, hb0⟩ := info_parts span_info
  obtain ⟨⟨hw1, hw2⟩, hin⟩ := hw
  have HT := hide hts
  obtain ⟨⟨ht1, ht2⟩, htv⟩ := hts
  have HN := hide hin
  have HV := hide htv
  have HX := hide h1; have HW := hide h2
  clear h1 h2 hin htv
  have X0 := BoxN.new w #[.slice Aw way.length cw, .int .i64 f] 34
  have b0 : Below w.heap.size w (w.alloc (.cells #[.slice Aw way.length cw, .int .i64 f] 34)) := (by repeat (first | exact Below.refl _ _ | assumption | (refine Below.alloc ?_ (by simp <;> omega) _) | refine Below.drew ?_ | refine bdn ?_ _))
  have z0 : w.heap.size + 1 ≤ (w.alloc (.cells #[.slice Aw way.length cw, .int .i64 f] 34)).heap.size := by simp
  go_enter Try.func96, Try.ntmps96
  go_wp2_with fail
  generalize (w.alloc (.cells #[.slice Aw way.length cw, .int .i64 f] 34)) = wa at *
  have e0 : wa.drew.cell? ⟨w.heap.size, 1, none⟩ = some (.int .i64 f) := by have := X0.cell 1; simpa using this
  have e2 : wa.drew.cell? ⟨w.heap.size, 0, none⟩ = some (.slice Aw way.length cw) := by have := X0.cell 0; simpa using this
  have bd : Below w.heap.size w wa.drew := b0.drew
  have hsd : w.heap.size + 1 ≤ wa.drew.heap.size := z0
  refine wp_region_held_drew (S := fun W => W.cell? ⟨w.heap.size, 1, none⟩ = some (.int .i64 f)) (by kernel_rfl) (e0) (fun hHeld => ?_)
  refine wpAnyH_take (i := 1) (v := ?_) rfl (by kernel_rfl) (by kernel_rfl) (by kernel_rfl) (fun _ _ _ h => h) (Or.inl ⟨by rfl, ?_⟩) (by assumption) ?_
  rotate_left 1
  · (intro w hSw; (try dsimp only at hSw); go_simp; try with_reducible rfl)
  try simp only [Act.put, List.getElem_toArray, List.getElem_cons_succ, List.getElem_cons_zero, List.setIfInBounds_toArray, List.set_cons_zero, List.set_cons_succ]
  refine wpAnyH_take (i := 2) (v := ?_) rfl (by kernel_rfl) (by kernel_rfl) (by kernel_rfl) (fun _ _ _ h => h) (Or.inl ⟨by rfl, ?_⟩) (by assumption) ?_
  rotate_left 1
  · (intro w hSw; (try dsimp only at hSw); go_simp; try with_reducible rfl)
  try simp only [Act.put, List.getElem_toArray, List.getElem_cons_succ, List.getElem_cons_zero, List.setIfInBounds_toArray, List.set_cons_zero, List.set_cons_succ]
  refine wpAnyH_ready (rs := [0]) (by kernel_rfl) (by simp) ?_
  refine AllReadyH.cons rfl (fun K hK => ?_) AllReadyH.nil
  try simp only [Act.put, List.getElem_toArray, List.getElem_cons_succ, List.getElem_cons_zero, List.setIfInBounds_toArray, List.set_cons_zero, List.set_cons_succ]
  go_simp
  have g0 : (wa.drew.alloc (.cells #[] 119)).cell? ⟨w.heap.size, 1, none⟩ = some (.int .i64 f) := (World.cell?_alloc_old _ _ _ (by dsimp only; omega)).trans e0
  have g2 : (wa.drew.alloc (.cells #[] 119)).cell? ⟨w.heap.size, 0, none⟩ = some (.slice Aw way.length cw) := (World.cell?_alloc_old _ _ _ (by dsimp only; omega)).trans e2
  refine hK.out _ _ (g0) (fun hHeld => ?_)
  clear hK K
  try simp only [Act.put, List.getElem_toArray, List.getElem_cons_succ, List.getElem_cons_zero, List.setIfInBounds_toArray, List.set_cons_zero, List.set_cons_succ]
  have ho1 : (wa.alloc (.cells #[] 119)).drew.ownsRow (w.heap.size + 1) 119 3 (.slice (some ⟨wa.heap.size, 0, none⟩) 0 0) 0 [] := own_new0 wa.drew (w.heap.size + 1) 119 3 hsd
  have hb1 : Below w.heap.size w (wa.alloc (.cells #[] 119)).drew := bd.alloc bd.size _
  have q2 : (wa.alloc (.cells #[] 119)).drew.cell? ⟨w.heap.size, 0, none⟩ = some (.slice Aw way.length cw) := g2
  have hsz1 : w.heap.size + 1 ≤ (wa.alloc (.cells #[] 119)).drew.heap.size := Nat.le_trans hsd (by show wa.heap.size ≤ (wa.alloc (.cells #[] 119)).heap.size; simp)
  refine wpAnyH_take (i := 3) (v := ?_) rfl (by kernel_rfl) (by kernel_rfl) (by kernel_rfl) (fun _ _ _ h => h) (Or.inl ⟨by rfl, ?_⟩) (by assumption) ?_
  rotate_left 1
  · (intro w hSw; (try dsimp only at hSw); go_simp; try with_reducible rfl)
  try simp only [Act.put, List.getElem_toArray, List.getElem_cons_succ, List.getElem_cons_zero, List.setIfInBounds_toArray, List.set_cons_zero, List.set_cons_succ]
  refine wpAnyH_take (i := 4) (v := ?_) rfl (by kernel_rfl) (by kernel_rfl) (by kernel_rfl) (fun _ _ _ h => h) (Or.inl ⟨by rfl, ?_⟩) (by assumption) ?_
  rotate_left 1
  · (intro w hSw; (try dsimp only at hSw); go_simp; try with_reducible rfl)
  try simp only [Act.put, List.getElem_toArray, List.getElem_cons_succ, List.getElem_cons_zero, List.setIfInBounds_toArray, List.set_cons_zero, List.set_cons_succ]
  refine wpAnyH_done (by kernel_rfl) ?_ _
  clear g0 g2 e0 e2 X0 bd hsd b0 z0
  generalize (wa.alloc (.cells #[] 119)).drew = wq at *
  go_wp2_with fail
  clear q2
  go_loopg [5, 6, 15] way.length (fun g s a i wr => ∃ (k : Nat) (f' : Int) (acc : List T3), k ≤ way.length ∧ Hid (g = way.length - k) ∧ i = .int .i64 k ∧ a = .int .i64 f' ∧ 0 ≤ f' ∧ f' ≤ 2000000 + 1000 * k ∧ acc.length = k ∧ wr.ownsRow (w.heap.size + 1) 119 3 s k (acc.flatMap T3.cells) ∧ w.heap.size + 1 ≤ wr.heap.size ∧
    Hid (spGo ts f way = acc ++ spGo ts f' (way.drop k)) ∧ Below w.heap.size w wr)
  case atStart => exact ⟨0, f, [], by omega, by simp [Hid], rfl, rfl, hf, by omega, rfl, ho1, hsz1, by simp [Hid], hb1⟩
  case round =>
    obtain ⟨k, f', acc, hk, hg, rfl, rfl, hf0, hf9, hal, hown, hsz9, HS, hb⟩ := hrel
    clear ho1 hb1 hsz1
    have hsz := hb.size
    by_cases hlt : k < way.length
    · obtain ⟨b1, o1, t1, rfl, hbb1, hz1, hca⟩ := (HW.out.below hb).at_ hlt
      have hi1 := HN.out t1 (List.mem_of_getElem? hz1)
      obtain ⟨n1, rfl⟩ := Int.eq_ofNat_of_zero_le hi1.1
      obtain ⟨b2, o2, tv, rfl, hbb2, hz2, hcb⟩ := (HX.out.below hb).at_ (show n1 < ts.length by omega)
      have htv := HV.out tv (List.mem_of_getElem? hz2)
      obtain ⟨htv1, htv2⟩ := htv
      have HS' := HS.out
      rw [spGo_drop hz1, tm_get hz2] at HS'
      have HQ := hide (show spGo ts f way = (acc ++ [⟨(n1 : Int), f', f' + tv⟩]) ++ spGo ts (f' + tv) (way.drop (k + 1)) by rw [HS', List.append_assoc]; rfl)
      clear HS' HS hz1 hz2
      have hn1 : (n1 : Int) < ts.length := by omega
      have hn0 : (0 : Int) ≤ (n1 : Int) := by omega
      clear hi1
      go_wp2_with (at_builtin; go_must (refine wp_app _ rfl _ _ 116 rfl (w.heap.size + 1) 119 i0 (.agg #[.int .i64 0, .int .i64 0, .int .i64 0]) 3 24 Try.underlying116 hi0 hz0 hs0 hb0 rfl (by decide) _ _ _ rfl (hown.alloc _) _ _ 1 1 [.int .i64 (n1 : Int), .int .i64 f', .int .i64 (f' + tv)] rfl rfl (rd_new _ _ _ _ (by simp)) (by intro u hu; simp at hu; rcases hu with rfl | rfl | rfl <;> rfl) (by omega) (by decide) (by simp <;> omega) ?_); intro v' w2 hown' hgrow hat; have hb4 := app_below (hb.alloc hsz _) (hown.alloc _) hgrow (by omega) (by simp <;> omega); have hq2 := ((hb4.cell (p := ⟨b2, o2 + n1, none⟩) hbb2).trans ((hb.cell (p := ⟨b2, o2 + n1, none⟩) hbb2).symm)).trans hcb)
      go_roundg (way.length - (k + 1))
      case measure => have := hg.out; omega
      case rel => exact ⟨k + 1, f' + tv, acc ++ [⟨(n1 : Int), f', f' + tv⟩], by omega, rfl, by go_num, by go_num, by omega, by omega, by simp; omega, by rw [List.flatMap_append]; exact hown', by have := hgrow.size; simp at this; omega, HQ, hb4⟩
    · obtain rfl : k = way.length := by omega
      have hS := HS.out
      rw [List.drop_length, spGo, List.append_nil] at hS
      obtain ⟨A', c', rfl, _⟩ := own_shape hown
      go_wp2_with fail
      go_ret
      exact ⟨A', c', rfl, by rw [hS]; exact own_base hown (by omega), hb⟩
theorem lastC_bd {ts : List Int} (hts : OkTimes ts) {x : List TN} (h : OkPlan ts x) {f : Int} (hf : f ≤ 1000000) : lastC (takenOf ts x) f ≤ 1012000 := by
  rcases (lastC_spec (takenOf ts x) f).2.2 with h1 | ⟨o, ho, h1⟩
  · omega
  · have := taken_bd hts h o ho; omega
set_option maxRecDepth 100000 in
set_option maxHeartbeats 8000000 in
theorem earliestStart_any (ts way : List Int) (x : List TN) (f : Int) (A0 : Option Addr) (c0 : Nat) (A1 : Option Addr) (c1 : Nat) (Aw : Option Addr) (cw : Nat) (w : World) (hts : OkTimes ts) (hx : OkPlan ts x) (hw : OkWay ts way) (hf : 0 ≤ f) (hf' : f ≤ 1000000) (h1 : RdI w w.heap.size A0 ts) (h2 : RN 1 w w.heap.size A1 x) (h3 : RdI w w.heap.size Aw way) :
    Calls Try.prog 104 #[.slice A0 ts.length c0, .slice A1 x.length c1, .slice Aw way.length cw, .int .i64 f] w fun e w' => e = .returned (.int .i64 (estOf ts (takenOf ts x) way f)) ∧ Below w.heap.size w w' := by
  obtain ⟨i0, hi0, hz0, hs0, hb0⟩ := info_parts span_info
  have HTS := hide hts
  have HPL := hide hx
  have HWY := hide hw
  obtain ⟨hx12, hxo⟩ := hx
  have HXO := hide hxo
  have hw12 := hw.1.2
  have HSP := hide fun (wy : List Int) (g : Int) Ay cy W (hW : Below w.heap.size w W) (hy : OkWay ts wy) (hg0 : 0 ≤ g) (hg1 : g ≤ 2000000) (hr : RdI W W.heap.size Ay wy) => spansOf_any ts wy g A0 c0 Ay cy W hts hy hg0 hg1 ((h1.below hW).more hW.size) hr
  have HX := hide h2
  have HW := hide h3
  have HLB := hide (lastC_bd hts ⟨hx12, hxo⟩ hf')
  have HTB := hide (taken_bd hts (⟨hx12, hxo⟩ : OkPlan ts x))
  have HTL := hide fun k => taken_len (ts := ts) (x := x.take k) fun e he => (hxo e (List.mem_of_mem_take he)).1.1.2
  clear hts hw hxo h1 h2 h3
  go_enter Try.func104, Try.ntmps104
  go_wp2_with fail
  have ho1 := own_new0 w w.heap.size 119 3 (Nat.le_refl _)
  have hb1 : Below w.heap.size w (w.alloc (.cells #[] 119)) := (Below.refl _ _).alloc (Nat.le_refl _) _
  go_loopg [9, 20] x.length (fun g s i wr => ∃ (k : Nat) (tk : List T3), k ≤ x.length ∧ Hid (g = x.length - k) ∧ i = .int .i64 k ∧ Hid (takenOf ts (x.take k) = tk) ∧ wr.ownsRow w.heap.size 119 3 s tk.length (tk.flatMap T3.cells) ∧ Below w.heap.size w wr)
  case atStart => exact ⟨0, [], by omega, by simp [Hid], rfl, by simp [Hid, takenOf], ho1, hb1⟩
  case round =>
    obtain ⟨k, tk, hk, hg, rfl, HT, hown, hb⟩ := hrel
    clear ho1 hb1
    have htl : tk.length ≤ 144 := by have := HTL.out k; rw [HT.out] at this; simp only [List.length_take] at this; omega
    by_cases hlt : k < x.length
    · obtain ⟨b1, o1, z1, Az, cz, rfl, hbb, hz1, hrw, hn0, hc1, hc2⟩ := (HX.out.below hb).at_ (by omega) hlt
      have hn1 := hc1 (by omega)
      obtain ⟨hy, hp0, hp1⟩ := HXO.out z1 (List.mem_of_getElem? hz1)
      have hy12 := hy.1.2
      have Z1 := hide hz1
      have hba := hide (hb.alloc hb.size (.cells #[.slice Az z1.way.length cz, .int .i64 z1.p] 34))
      have hoa := hide (hown.alloc (.cells #[.slice Az z1.way.length cz, .int .i64 z1.p] 34))
      have bra : Below wr.heap.size wr (wr.alloc (.cells #[.slice Az z1.way.length cz, .int .i64 z1.p] 34)) := (Below.refl _ _).alloc (Nat.le_refl _) _
      have HC := hide (HSP.out z1.way z1.p Az cz _ hba.out hy hp0 (by omega) ((hrw.below (bra.mono hb.size)).more hba.out.size))
      have hl3 : ((spGo ts z1.p z1.way).flatMap T3.cells).length = z1.way.length * 3 := by rw [flatMap_len T3.cells 3 (fun _ => rfl), spGo_len]
      clear hz1 hy hc1 hc2 hrw bra
      go_wp2_with (first | (go_at_call 96; refine (HC.out).mono ?_; rintro e w2 ⟨A3, c3, rfl, ho3, s2⟩; have hown2 := own_below hoa.out s2 (Nat.le_refl _); have hb2 := hba.out.trans (s2.mono hba.out.size); have hr3 := Rd.of_own ho3) | (at_builtin; go_must (refine wp_app _ rfl _ _ 116 rfl w.heap.size 119 i0 (.agg #[.int .i64 0, .int .i64 0, .int .i64 0]) 3 24 Try.underlying116 hi0 hz0 hs0 hb0 rfl (by decide) _ _ _ rfl hown2 _ _ z1.way.length c3 ((spGo ts z1.p z1.way).flatMap T3.cells) rfl hl3 hr3 (T3.ones _) (by omega) (by decide) hb2.size ?_); intro v' w3 hown' hgrow hat))
      have hb3 := app_below hb2 hown2 hgrow (Nat.le_refl _) hb2.size
      go_roundg (x.length - (k + 1))
      case measure => have := hg.out; omega
      case rel => exact ⟨k + 1, tk ++ spansR ts z1, by omega, rfl, by go_num, by unfold Hid; rw [take_next Z1.out, takenOf, List.flatMap_append]; have h := HT.out; unfold takenOf at h; rw [h]; simp, by rw [List.flatMap_append, List.length_append, show (spansR ts z1).length = z1.way.length from spGo_len _ _ _]; exact hown', hb3⟩
    · obtain rfl : k = x.length := by omega
      have hT := HT.out
      rw [List.take_length] at hT
      obtain ⟨At, ct, hsh, _⟩ := own_shape hown
      subst hsh
      have HR := hide (Rd3.of_own hown)
      have HL := hide (show lastC tk f ≤ 1012000 by rw [← hT]; exact HLB.out)
      have HB := hide (show ∀ o ∈ tk, 0 ≤ o.b ∧ o.b < o.c ∧ o.c ≤ 1012000 by rw [← hT]; exact HTB.out)
      have HE := hide (show estOf ts (takenOf ts x) way f = estOf ts tk way f by rw [hT])
      have HBT := hide hb
      clear hT HT hown hb HLB HTB HTL hk hg hlt
      obtain ⟨wT, hwT⟩ : ∃ q, q = wr := ⟨wr, rfl⟩
      subst hwT
      go_wp2_with fail
      go_loopg [3] ((lastC tk f - f).toNat) (fun gm s wr => ∃ g : Int, s = .int .i64 g ∧ f ≤ g ∧ g ≤ lastC tk f ∧ Hid (gm = (lastC tk f - g).toNat) ∧ Hid (∀ c, f ≤ c → c < g → fits ts tk way c = false) ∧ Below wT.heap.size wT wr)
      case atStart => exact ⟨f, rfl, Int.le_refl _, (lastC_spec tk f).1, by simp [Hid], hide (fun c h1 h2 => by omega), Below.refl _ _⟩
      case round =>
        obtain ⟨g, rfl, hg1, hg2, hgm, HN, hbv⟩ := hrel
        have hbw := HBT.out.trans (hbv.mono HBT.out.size)
        have hg9 : g ≤ 1012000 := by have := HL.out; omega
        have HC := hide (HSP.out way g Aw cw wr hbw HWY.out (by omega) (by omega) ((HW.out.below hbw).more hbw.size))
        have HSB := hide (spGo_ge HTS.out (f := g) HWY.out.2)
        have hsl := spGo_len ts way g
        have HWZ := hide fun h => wait_zero (ts := ts) (tk := tk) (way := way) (f := g) h
        have HWP := hide fun h => wait_pos (ts := ts) (tk := tk) (way := way) (f := g) h
        have HWS := hide (waitOf_spec tk (spGo ts g way) 0)
        generalize hss : spGo ts g way = ss at *
        have HSS := hide hss
        clear hss
        go_wp2_with (go_at_call 96; refine (HC.out).mono ?_; rintro e wS ⟨A5, c5, rfl, ho5, s5⟩)
        have HRS : Hid (Rd3 wS wS.heap.size A5 ss) := by have := Rd3.of_own (xs := ss) (A := A5) (n := way.length) (c := c5) ho5; exact this
        have hbS := hide (hbw.trans (s5.mono hbw.size))
        have hbTS := hide (hbv.trans (s5.mono hbv.size))
        clear ho5 HC HW HX
        obtain ⟨wU, hwU⟩ : ∃ q, q = wr := ⟨wr, rfl⟩
        subst hwU
        go_loopg [12, 36] way.length (fun gi s i wr => ∃ (k : Nat) (wv : Int), k ≤ way.length ∧ Hid (gi = way.length - k) ∧ i = .int .i64 k ∧ s = .int .i64 wv ∧ 0 ≤ wv ∧ wv ≤ 2000000 ∧ Hid (waitOf tk ss 0 = waitOf tk (ss.drop k) wv) ∧ Below wS.heap.size wS wr)
        case atStart => exact ⟨0, 0, by omega, by simp [Hid], rfl, rfl, by omega, by omega, by simp [Hid], Below.refl _ _⟩
        case round =>
          obtain ⟨k, wv, hk, hgi, rfl, rfl, hw0, hw9, HWV, hb3⟩ := hrel
          have hsz3 := hb3.size
          by_cases hlt : k < way.length
          · obtain ⟨b5, o5, z, rfl, hbb5, hz, hza, hzb, hzc⟩ := (HRS.out.below hb3).at_ (show k < ss.length by omega)
            have hzs := HSB.out z (List.mem_of_getElem? hz)
            obtain ⟨hzs1, hzs2, hzs3⟩ := hzs
            have HWV' := HWV.out
            rw [waitOf_drop hz] at HWV'
            have HQ3 := hide HWV'
            clear HWV' HWV hz
            have HBX := hide (BoxN.new wr #[.int .i64 z.a, .int .i64 z.b, .int .i64 z.c] 119)
            have hb3a := hide (hb3.alloc hsz3 (.cells #[.int .i64 z.a, .int .i64 z.b, .int .i64 z.c] 119))
            have hsa : wr.heap.size < (wr.alloc (.cells #[.int .i64 z.a, .int .i64 z.b, .int .i64 z.c] 119)).heap.size := by simp
            go_wp2_with fail
            generalize hsb : wr.heap.size = sb at *
            have hsbS : wS.heap.size ≤ sb := hsz3
            go_loopg [12, 42] tk.length (fun gj s i wr => ∃ (j : Nat) (wv' : Int), j ≤ tk.length ∧ Hid (gj = tk.length - j) ∧ i = .int .i64 j ∧ s = .int .i64 wv' ∧ 0 ≤ wv' ∧ wv' ≤ 2000000 ∧ Hid (waitIn z tk wv = waitIn z (tk.drop j) wv') ∧ Hid (BoxN wr sb #[.int .i64 z.a, .int .i64 z.b, .int .i64 z.c] 119) ∧ Below wS.heap.size wS wr)
            case atStart => exact ⟨0, wv, by omega, by simp [Hid], rfl, rfl, hw0, hw9, by simp [Hid], HBX, hb3a.out⟩
            case round =>
              obtain ⟨j, wv', hj, hgj, rfl, rfl, hv0, hv9, HWI, HB4, hb4⟩ := hrel
              have hsz4 := hb4.size
              have hsbl := HB4.out.lt
              have hp0 := HB4.out.cell 0
              have hp1 := HB4.out.cell 1
              have hp2 := HB4.out.cell 2
              simp only [List.getElem?_cons_succ, List.getElem?_cons_zero] at hp0 hp1 hp2
              by_cases hjt : j < tk.length
              · obtain ⟨b6, o6, o, rfl, hbb6, ho, hoa, hob, hoc⟩ := (HR.out.below (hbTS.out.trans (hb4.mono hbTS.out.size))).at_ hjt
                have hos := HB.out o (List.mem_of_getElem? ho)
                obtain ⟨hos1, hos2, hos3⟩ := hos
                have HWI' := HWI.out
                rw [waitIn_drop ho] at HWI'
                clear HWI ho
                have HM := hide fun W => meet_any z o W
                have HO4 := hide (BoxN.new wr #[.int .i64 o.a, .int .i64 o.b, .int .i64 o.c] 119)
                have HS4 := hide (HB4.out.alloc (.cells #[.int .i64 o.a, .int .i64 o.b, .int .i64 o.c] 119))
                have hb5 := hide (hb4.alloc hsz4 (.cells #[.int .i64 o.a, .int .i64 o.b, .int .i64 o.c] 119))
                have hsa5 : wr.heap.size < (wr.alloc (.cells #[.int .i64 o.a, .int .i64 o.b, .int .i64 o.c] 119)).heap.size := by simp
                cases hm : meet z o
                · rw [hm] at HM HWI'
                  have HQ := hide (HWI'.trans (by rw [if_neg (by simp)] : _ = waitIn z (tk.drop (j + 1)) wv'))
                  clear HWI' hm
                  go_wp2_with (go_at_call 98; refine (HM.out _).mono ?_; rintro e w6 ⟨rfl, s6⟩)
                  go_roundg (tk.length - (j + 1))
                  case measure => have := hgj.out; omega
                  case rel => exact ⟨j + 1, wv', by omega, rfl, by go_num, rfl, hv0, hv9, HQ, HS4.out.below s6 (by omega), hb5.out.trans (s6.mono hb5.out.size)⟩
                · rw [hm] at HM HWI'
                  have HQ := hide (HWI'.trans (by rw [if_pos rfl] : _ = waitIn z (tk.drop (j + 1)) (max wv' (o.c - z.b))))
                  clear HWI' hm
                  by_cases gm : o.c - z.b ≤ wv'
                  · have HQ' := hide (HQ.out.trans (by rw [Int.max_eq_left gm] : _ = waitIn z (tk.drop (j + 1)) wv'))
                    go_wp2_with (go_at_call 98; refine (HM.out _).mono ?_; rintro e w6 ⟨rfl, s6⟩; have O6 := HO4.out.below s6 (by omega); have S6 := HS4.out.below s6 (by omega); have r2 := O6.cell 2; have r1 := S6.cell 1; simp only [List.getElem?_cons_succ, List.getElem?_cons_zero] at r1 r2)
                    go_roundg (tk.length - (j + 1))
                    case measure => have := hgj.out; omega
                    case rel => exact ⟨j + 1, wv', by omega, rfl, by go_num, rfl, hv0, hv9, HQ', S6, hb5.out.trans (s6.mono hb5.out.size)⟩
                  · have HQ' := hide (HQ.out.trans (by rw [Int.max_eq_right (by omega)] : _ = waitIn z (tk.drop (j + 1)) (o.c - z.b)))
                    go_wp2_with (go_at_call 98; refine (HM.out _).mono ?_; rintro e w6 ⟨rfl, s6⟩; have O6 := HO4.out.below s6 (by omega); have S6 := HS4.out.below s6 (by omega); have r2 := O6.cell 2; have r1 := S6.cell 1; simp only [List.getElem?_cons_succ, List.getElem?_cons_zero] at r1 r2)
                    go_roundg (tk.length - (j + 1))
                    case measure => have := hgj.out; omega
                    case rel => exact ⟨j + 1, o.c - z.b, by omega, rfl, by go_num, by go_num, by omega, by omega, HQ', S6, hb5.out.trans (s6.mono hb5.out.size)⟩
              · have HQ := hide (HQ3.out.trans (show waitOf tk (ss.drop (k + 1)) (waitIn z tk wv) = waitOf tk (ss.drop (k + 1)) wv' by rw [show waitIn z tk wv = wv' by rw [HWI.out, List.drop_eq_nil_of_le (by omega), waitIn]]))
                clear HQ3 HWI
                go_wp2_with fail
                go_roundg (way.length - (k + 1))
                case measure => have := hgi.out; omega
                case rel => exact ⟨k + 1, wv', by omega, rfl, by go_num, rfl, hv0, hv9, HQ, hb4⟩
          · have HF := hide (show waitOf tk ss 0 = wv by rw [HWV.out, List.drop_eq_nil_of_le (by omega), waitOf])
            by_cases hwz : wv = 0
            · have HF0 := hide (HWZ.out (by rw [HF.out]; exact hwz))
              have hB : (wv == 0) = true := by simp [hwz]
              have HEQ := hide (HE.out.trans (est_eq hg1 hg2 HF0.out HN.out))
              clear hwz
              go_wp2_with fail
              go_ret
              exact ⟨by rw [HEQ.out]; rfl, hbS.out.trans (hb3.mono hbS.out.size)⟩
            · obtain ⟨hp1, hp2⟩ := HWP.out (by rw [HF.out]; exact hwz)
              rw [HF.out] at hp1 hp2
              have hB : (wv == 0) = false := by simp [hwz]
              have HN' : Hid (∀ c, f ≤ c → c < g + wv → fits ts tk way c = false) := fun c k1 k2 => by
                by_cases hcg : c < g
                · exact HN.out c k1 hcg
                · exact hp2 c (by omega) k2
              have hle : g + wv ≤ lastC tk f := by
                refine Classical.byContradiction fun hlt' => ?_
                have h3 := hp2 (lastC tk f) (by omega) (by omega)
                rw [fits_last HTS.out HWY.out.2] at h3; cases h3
              clear hp2 hwz
              go_wp2_with fail
              go_roundg ((lastC tk f - (g + wv)).toNat)
              case measure => have := hgm.out; omega
              case rel => exact ⟨g + wv, by go_num, by omega, hle, rfl, HN', hbTS.out.trans (hb3.mono hbTS.out.size)⟩
end Go.Proofs.Ytfhociekhffjhaa
