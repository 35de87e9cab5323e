/-
  The spans of a run and the earliest start; in the program.
-/
import Derived.Test.YtflbddfmhjlknaaRunD
namespace Go.Proofs.Ytflbddfmhjlknaa
open Go.RowKit

/-- The spans of a run of a list. -/
def spansR (ts : List Int) (e : TN) : List T3 := spGo ts e.p e.way
def takenOf (ts : List Int) (x : List TN) : List T3 := x.flatMap (spansR ts)
def OkPlan (ts : List Int) (x : List TN) : Prop := x.length ≤ 12 ∧ ∀ e ∈ x, OkWay ts e.way ∧ 0 ≤ e.p ∧ e.p ≤ 1000000
theorem tm_get {ts : List Int} {n : Nat} {z : Int} (h : ts[n]? = some z) : tmOf ts (n : Int) = z := by simp [tmOf, h]
theorem spGo_drop {ts way : List Int} {k : Nat} {t : Int} (h : way[k]? = some t) (f : Int) : spGo ts f (way.drop k) = ⟨t, f, f + tmOf ts t⟩ :: spGo ts (f + tmOf ts t) (way.drop (k + 1)) := by rw [drop_cons h, spGo]
theorem taken_bd {ts : List Int} (hts : OkTimes ts) {x : List TN} (h : OkPlan ts x) : ∀ o ∈ takenOf ts x, 0 ≤ o.b ∧ o.b < o.c ∧ o.c ≤ 1012000 := by
  intro o ho
  obtain ⟨e, he, hoe⟩ := List.mem_flatMap.1 ho
  obtain ⟨⟨h1, h2⟩, h3, h4⟩ := h.2 e he
  have := spGo_ge hts h2 o hoe
  omega
theorem taken_len {ts : List Int} {x : List TN} (h : ∀ e ∈ x, e.way.length ≤ 12) : (takenOf ts x).length ≤ 12 * x.length := by
  unfold takenOf
  induction x with
  | nil => simp
  | cons e x ih =>
    rw [List.flatMap_cons, List.length_append, List.length_cons]
    have h1 := h e (List.mem_cons_self ..)
    have h2 := ih fun d hd => h d (List.mem_cons_of_mem _ hd)
    have h3 : (spansR ts e).length = e.way.length := spGo_len _ _ _
    omega
theorem waitIn_drop {s : T3} {tk : List T3} {j : Nat} {o : T3} {w : Int} (h : tk[j]? = some o) : waitIn s (tk.drop j) w = waitIn s (tk.drop (j + 1)) (if meet s o then max w (o.c - s.b) else w) := by rw [drop_cons h, waitIn]
theorem waitOf_drop {tk ss : List T3} {j : Nat} {s : T3} {w : Int} (h : ss[j]? = some s) : waitOf tk (ss.drop j) w = waitOf tk (ss.drop (j + 1)) (waitIn s tk w) := by rw [drop_cons h, waitOf]
theorem span_info : (Try.prog.info? 141).map (fun i => (i.zero, i.size, i.bytes)) = some (some (.agg #[.int .i64 0, .int .i64 0, .int .i64 0]), 3, 24) := by kernel_rfl
set_option maxRecDepth 100000 in
set_option maxHeartbeats 4000000 in
theorem spansOf_any (ts way : List Int) (f : Int) (A0 : Option Addr) (c0 : Nat) (Aw : Option Addr) (cw : Nat) (w : World) (hts : OkTimes ts) (hw : OkWay ts way) (hf : 0 ≤ f) (hf' : f ≤ 2000000) (h1 : RdI w w.heap.size A0 ts) (h2 : RdI w w.heap.size Aw way) :
    Calls Try.prog 149 #[.slice A0 ts.length c0, .agg #[.slice Aw way.length cw, .int .i64 f]] w fun e w' => ∃ A' c', e = .returned (.slice A' way.length c') ∧ w'.ownsRow w.heap.size 141 3 (.slice A' way.length c') way.length ((spGo ts f way).flatMap T3.cells) ∧ Below w.heap.size w w' := by
  obtain ⟨i0, hi0, hz0, hs0, hb0⟩ := info_parts span_info
  obtain ⟨⟨hw1, hw2⟩, hin⟩ := hw
  have HT := hide hts
  obtain ⟨⟨ht1, ht2⟩, htv⟩ := hts
  have HN := hide hin
  have HV := hide htv
  have HX := hide h1; have HW := hide h2
  clear h1 h2 hin htv
  have X0 := BoxN.new w #[.slice Aw way.length cw, .int .i64 f] 136
  have b0 : Below w.heap.size w (w.alloc (.cells #[.slice Aw way.length cw, .int .i64 f] 136)) := (by repeat (first | exact Below.refl _ _ | assumption | (refine Below.alloc ?_ (by simp <;> omega) _) | refine Below.drew ?_ | refine bdn ?_ _))
  have z0 : w.heap.size + 1 ≤ (w.alloc (.cells #[.slice Aw way.length cw, .int .i64 f] 136)).heap.size := by simp
  go_enter Try.func149, Try.ntmps149
  go_wp2_with fail
  generalize (w.alloc (.cells #[.slice Aw way.length cw, .int .i64 f] 136)) = wa at *
  have e0 : wa.drew.cell? ⟨w.heap.size, 1, none⟩ = some (.int .i64 f) := by have := X0.cell 1; simpa using this
  have e2 : wa.drew.cell? ⟨w.heap.size, 0, none⟩ = some (.slice Aw way.length cw) := by have := X0.cell 0; simpa using this
  have bd : Below w.heap.size w wa.drew := b0.drew
  have hsd : w.heap.size + 1 ≤ wa.drew.heap.size := z0
  refine wp_region_held_drew (S := fun W => W.cell? ⟨w.heap.size, 1, none⟩ = some (.int .i64 f)) (by kernel_rfl) (e0) (fun hHeld => ?_)
  refine wpAnyH_take (i := 1) (v := ?_) rfl (by kernel_rfl) (by kernel_rfl) (by kernel_rfl) (fun _ _ _ h => h) (Or.inl ⟨by rfl, ?_⟩) (by assumption) ?_
  rotate_left 1
  · (intro w hSw; (try dsimp only at hSw); go_simp; try with_reducible rfl)
  try simp only [Act.put, List.getElem_toArray, List.getElem_cons_succ, List.getElem_cons_zero, List.setIfInBounds_toArray, List.set_cons_zero, List.set_cons_succ]
  refine wpAnyH_take (i := 2) (v := ?_) rfl (by kernel_rfl) (by kernel_rfl) (by kernel_rfl) (fun _ _ _ h => h) (Or.inl ⟨by rfl, ?_⟩) (by assumption) ?_
  rotate_left 1
  · (intro w hSw; (try dsimp only at hSw); go_simp; try with_reducible rfl)
  try simp only [Act.put, List.getElem_toArray, List.getElem_cons_succ, List.getElem_cons_zero, List.setIfInBounds_toArray, List.set_cons_zero, List.set_cons_succ]
  refine wpAnyH_ready (rs := [0]) (by kernel_rfl) (by simp) ?_
  refine AllReadyH.cons rfl (fun K hK => ?_) AllReadyH.nil
  try simp only [Act.put, List.getElem_toArray, List.getElem_cons_succ, List.getElem_cons_zero, List.setIfInBounds_toArray, List.set_cons_zero, List.set_cons_succ]
  go_simp
  have g0 : (wa.drew.alloc (.cells #[] 141)).cell? ⟨w.heap.size, 1, none⟩ = some (.int .i64 f) := (World.cell?_alloc_old _ _ _ (by dsimp only; omega)).trans e0
  have g2 : (wa.drew.alloc (.cells #[] 141)).cell? ⟨w.heap.size, 0, none⟩ = some (.slice Aw way.length cw) := (World.cell?_alloc_old _ _ _ (by dsimp only; omega)).trans e2
  refine hK.out _ _ (g0) (fun hHeld => ?_)
  clear hK K
  try simp only [Act.put, List.getElem_toArray, List.getElem_cons_succ, List.getElem_cons_zero, List.setIfInBounds_toArray, List.set_cons_zero, List.set_cons_succ]
  have ho1 : (wa.alloc (.cells #[] 141)).drew.ownsRow (w.heap.size + 1) 141 3 (.slice (some ⟨wa.heap.size, 0, none⟩) 0 0) 0 [] := own_new0 wa.drew (w.heap.size + 1) 141 3 hsd
  have hb1 : Below w.heap.size w (wa.alloc (.cells #[] 141)).drew := bd.alloc bd.size _
  have q2 : (wa.alloc (.cells #[] 141)).drew.cell? ⟨w.heap.size, 0, none⟩ = some (.slice Aw way.length cw) := g2
  have hsz1 : w.heap.size + 1 ≤ (wa.alloc (.cells #[] 141)).drew.heap.size := Nat.le_trans hsd (by show wa.heap.size ≤ (wa.alloc (.cells #[] 141)).heap.size; simp)
  refine wpAnyH_take (i := 3) (v := ?_) rfl (by kernel_rfl) (by kernel_rfl) (by kernel_rfl) (fun _ _ _ h => h) (Or.inl ⟨by rfl, ?_⟩) (by assumption) ?_
  rotate_left 1
  · (intro w hSw; (try dsimp only at hSw); go_simp; try with_reducible rfl)
  try simp only [Act.put, List.getElem_toArray, List.getElem_cons_succ, List.getElem_cons_zero, List.setIfInBounds_toArray, List.set_cons_zero, List.set_cons_succ]
  refine wpAnyH_take (i := 4) (v := ?_) rfl (by kernel_rfl) (by kernel_rfl) (by kernel_rfl) (fun _ _ _ h => h) (Or.inl ⟨by rfl, ?_⟩) (by assumption) ?_
  rotate_left 1
  · (intro w hSw; (try dsimp only at hSw); go_simp; try with_reducible rfl)
  try simp only [Act.put, List.getElem_toArray, List.getElem_cons_succ, List.getElem_cons_zero, List.setIfInBounds_toArray, List.set_cons_zero, List.set_cons_succ]
  refine wpAnyH_done (by kernel_rfl) ?_ _
  clear g0 g2 e0 e2 X0 bd hsd b0 z0
  generalize (wa.alloc (.cells #[] 141)).drew = wq at *
  go_wp2_with fail
  clear q2
  go_loopg [5, 6, 15] way.length (fun g s a i wr => ∃ (k : Nat) (f' : Int) (acc : List T3), k ≤ way.length ∧ Hid (g = way.length - k) ∧ i = .int .i64 k ∧ a = .int .i64 f' ∧ 0 ≤ f' ∧ f' ≤ 2000000 + 1000 * k ∧ acc.length = k ∧ wr.ownsRow (w.heap.size + 1) 141 3 s k (acc.flatMap T3.cells) ∧ w.heap.size + 1 ≤ wr.heap.size ∧
    Hid (spGo ts f way = acc ++ spGo ts f' (way.drop k)) ∧ Below w.heap.size w wr)
  case atStart => exact ⟨0, f, [], by omega, by simp [Hid], rfl, rfl, hf, by omega, rfl, ho1, hsz1, by simp [Hid], hb1⟩
  case round =>
    obtain ⟨k, f', acc, hk, hg, rfl, rfl, hf0, hf9, hal, hown, hsz9, HS, hb⟩ := hrel
    clear ho1 hb1 hsz1
    have hsz := hb.size
    by_cases hlt : k < way.length
    · obtain ⟨b1, o1, t1, rfl, hbb1, hz1, hca⟩ := (HW.out.below hb).at_ hlt
      have hi1 := HN.out t1 (List.mem_of_getElem? hz1)
      obtain ⟨n1, rfl⟩ := Int.eq_ofNat_of_zero_le hi1.1
      obtain ⟨b2, o2, tv, rfl, hbb2, hz2, hcb⟩ := (HX.out.below hb).at_ (show n1 < ts.length by omega)
      have htv := HV.out tv (List.mem_of_getElem? hz2)
      obtain ⟨htv1, htv2⟩ := htv
      have HS' := HS.out
      rw [spGo_drop hz1, tm_get hz2] at HS'
      have HQ := hide (show spGo ts f way = (acc ++ [⟨(n1 : Int), f', f' + tv⟩]) ++ spGo ts (f' + tv) (way.drop (k + 1)) by rw [HS', List.append_assoc]; rfl)
      clear HS' HS hz1 hz2
      have hn1 : (n1 : Int) < ts.length := by omega
      have hn0 : (0 : Int) ≤ (n1 : Int) := by omega
      clear hi1
      go_wp2_with (at_builtin; go_must (refine wp_app _ rfl _ _ 138 rfl (w.heap.size + 1) 141 i0 (.agg #[.int .i64 0, .int .i64 0, .int .i64 0]) 3 24 Try.underlying138 hi0 hz0 hs0 hb0 rfl (by decide) _ _ _ rfl (hown.alloc _) _ _ 1 1 [.int .i64 (n1 : Int), .int .i64 f', .int .i64 (f' + tv)] rfl rfl (rd_new _ _ _ _ (by simp)) (by intro u hu; simp at hu; rcases hu with rfl | rfl | rfl <;> rfl) (by omega) (by decide) (by simp <;> omega) ?_); intro v' w2 hown' hgrow hat; have hb4 := app_below (hb.alloc hsz _) (hown.alloc _) hgrow (by omega) (by simp <;> omega); have hq2 := ((hb4.cell (p := ⟨b2, o2 + n1, none⟩) hbb2).trans ((hb.cell (p := ⟨b2, o2 + n1, none⟩) hbb2).symm)).trans hcb)
      go_roundg (way.length - (k + 1))
      case measure => have := hg.out; omega
      case rel => exact ⟨k + 1, f' + tv, acc ++ [⟨(n1 : Int), f', f' + tv⟩], by omega, rfl, by go_num, by go_num, by omega, by omega, by simp; omega, by rw [List.flatMap_append]; exact hown', by have := hgrow.size; simp at this; omega, HQ, hb4⟩
    · obtain rfl : k = way.length := by omega
      have hS := HS.out
      rw [List.drop_length, spGo, List.append_nil] at hS
      obtain ⟨A', c', rfl, _⟩ := own_shape hown
      go_wp2_with fail
      go_ret
      exact ⟨A', c', rfl, by rw [hS]; exact own_base hown (by omega), hb⟩
theorem lastC_bd {ts : List Int} (hts : OkTimes ts) {x : List TN} (h : OkPlan ts x) {f : Int} (hf : f ≤ 1000000) : lastC (takenOf ts x) f ≤ 1012000 := by
  rcases (lastC_spec (takenOf ts x) f).2.2 with h1 | ⟨o, ho, h1⟩
  · omega
  · have := taken_bd hts h o ho; omega
end Go.Proofs.Ytflbddfmhjlknaa
