/-
  Zones: the changes that change nothing; in the program and in the reference.
  Zones: the level by the reference's contract; a zone's tubes and the tubes with a level, in the program and in the reference.
  The kit's contract of strconv.FormatInt, laid (plain text as the kit's own lay-plain writes it; numbers by names).
  Decimal forms: the reference's loop. Plain lemmas.
  Rows of bytes. Plain lemmas.
-/
import Derived.Test.YtofjnmeblmbnmaaDoorQLevels4
import Derived.Shelf.Strconv.Itoa4
import Derived.Ground.Names2Prog
import Derived.Test.YtofjnmeblmbnmaaDoorProg
import Derived.Test.YtofjnmeblmbnmaaDoorQLevels0
import Derived.Lib.ItoaNum
import Derived.Laws.IdiomStrings
namespace Go.Proofs.YtofjnmeblmbnmaaDoor
open Go.RowKit

theorem lvlGo_append {zone t : Int} : ∀ {us vs : List T3} {acc : Int}, lvlGo zone t acc (us ++ vs) = lvlGo zone t (lvlGo zone t acc us) vs := by
  intro us
  induction us with
  | nil => intro vs acc; rfl
  | cons a us ih => intro vs acc; rw [List.cons_append, lvlGo, lvlGo, ih]
theorem lvlGo_ticks {zone t t' : Int} : ∀ {cs : List T3} {acc : Int}, (∀ c ∈ cs, c.b = zone → (c.a ≤ t ↔ c.a ≤ t')) → lvlGo zone t acc cs = lvlGo zone t' acc cs := by
  intro cs
  induction cs with
  | nil => intro acc _; rfl
  | cons c cs ih =>
    intro acc h
    have h1 := h c (List.mem_cons_self ..)
    rw [lvlGo, lvlGo, ih fun d hd => h d (List.mem_cons_of_mem _ hd)]
    congr 1
    by_cases hz : c.b = zone
    · by_cases ht : c.a ≤ t
      · rw [if_pos ⟨hz, ht⟩, if_pos ⟨hz, (h1 hz).1 ht⟩]
      · rw [if_neg fun k => ht k.2, if_neg fun k => ht ((h1 hz).2 k.2)]
    · rw [if_neg fun k => hz k.1, if_neg fun k => hz k.1]
theorem lvl_before {x : TZ} (hv : vZoned x = true) {k : Nat} {c : T3} (hk : x.ch[k]? = some c) : lvl x.ch c.b (c.a - 1) = lvlGo c.b 10000 0 (x.ch.take k) := by
  have hc := (vZoned_iff hv).2.2.2.2
  obtain ⟨hs, ho⟩ := chOk_sorted hc
  have hl := lt_of_get hk
  have hlate : ∀ d ∈ x.ch.drop k, c.a - 1 < d.a := fun d hd => by
    rw [drop_cons hk] at hd
    rcases List.mem_cons.1 hd with rfl | hd
    · omega
    · have := ltC_iff.1 ((chOk_at hc hk).2 d hd); omega
  have hearly : ∀ d ∈ x.ch.take k, d.b = c.b → (d.a ≤ c.a - 1 ↔ d.a ≤ 10000) := fun d hd hb => by
    obtain ⟨i, hi, he⟩ := List.getElem_of_mem hd
    rw [List.getElem_take] at he
    rw [List.length_take] at hi
    have hi2 : x.ch[i]? = some d := by rw [List.getElem?_eq_getElem (by omega), he]
    have hmem : c ∈ x.ch.drop (i + 1) := by
      refine List.mem_of_getElem? (i := k - (i + 1)) ?_
      rw [List.getElem?_drop, show i + 1 + (k - (i + 1)) = k by omega]; exact hk
    have h1 := ltC_iff.1 ((chOk_at hc hi2).2 c hmem)
    have h2 := (okC_iff.1 (ho d (List.mem_of_mem_take hd))).1
    omega
  unfold lvl
  conv => lhs; rw [← List.take_append_drop k x.ch]
  rw [lvlGo_append, lvlGo_late hlate, lvlGo_ticks hearly]
theorem lvl_next {cs : List T3} {k : Nat} {c : T3} (hk : cs[k]? = some c) (zone : Int) (hc : c.a ≤ 10000) : lvlGo zone 10000 0 (cs.take (k + 1)) = if c.b = zone then c.c else lvlGo zone 10000 0 (cs.take k) := by
  obtain ⟨hl, he⟩ := List.getElem?_eq_some_iff.1 hk
  rw [List.take_succ_eq_append_getElem hl, he, lvlGo_append, lvlGo, lvlGo]
  by_cases hz : c.b = zone
  · rw [if_pos ⟨hz, hc⟩, if_pos hz]
  · rw [if_neg fun k => hz k.1, if_neg hz]
def nlC (x : TZ) (c : T3) : Bool := decide (c.c = lvl x.ch c.b (c.a - 1))
theorem nlC_t {x : TZ} {c : T3} (h : c.c = lvl x.ch c.b (c.a - 1)) : nlC x c = true := decide_eq_true h
theorem nlC_f {x : TZ} {c : T3} (h : ¬ c.c = lvl x.ch c.b (c.a - 1)) : nlC x c = false := decide_eq_false h
theorem idx_hit {α : Type} {p : α → Bool} {xs : List α} {k : Nat} {z : α} {r acc : List Int} (hz : xs[k]? = some z) (hp : p z = true) (h : r = acc ++ idxFrom p (xs.drop k) k) : r = (acc ++ [(k : Int)]) ++ idxFrom p (xs.drop (k + 1)) (k + 1) := by
  rw [h, drop_cons hz, idxFrom, if_pos hp]; simp
theorem idx_miss {α : Type} {p : α → Bool} {xs : List α} {k : Nat} {z : α} {r acc : List Int} (hz : xs[k]? = some z) (hp : p z = false) (h : r = acc ++ idxFrom p (xs.drop k) k) : r = acc ++ idxFrom p (xs.drop (k + 1)) (k + 1) := by
  rw [h, drop_cons hz, idxFrom, if_neg (by simp [hp])]
theorem own_at9 {w : World} {base : Nat} {e : TypeId} {n c g : Nat} {zs : List Int} (h : w.ownsRow base e 1 (.slice (some ⟨g, 0, none⟩) n c) n (zs.map (Value.int .i64))) {i : Nat} {z : Int} (hz : zs[i]? = some z) : w.cell? ⟨g, i, none⟩ = some (.int .i64 z) := by
  have hl := h.1
  have hi := lt_of_get hz
  simp only [List.length_map, Nat.mul_one] at hl
  rw [h.cellAt i (by omega), List.getElem?_map, hz]; rfl
theorem own_set9 {w : World} {base : Nat} {e : TypeId} {n c g : Nat} {zs : List Int} (h : w.ownsRow base e 1 (.slice (some ⟨g, 0, none⟩) n c) n (zs.map (Value.int .i64))) (i : Nat) (z : Int) :
    (w.setCell ⟨g, i, none⟩ (.int .i64 z)).ownsRow base e 1 (.slice (some ⟨g, 0, none⟩) n c) n ((zs.set i z).map (Value.int .i64)) ∧ w.grownBy (w.setCell ⟨g, i, none⟩ (.int .i64 z)) (some g) := by
  have := h.stored i (.int .i64 z)
  rw [← List.map_set] at this
  exact this
theorem own_drew9 {w : World} {base : Nat} {e : TypeId} {size n : Nat} {v : Value} {xs : List Value} (h : w.ownsRow base e size v n xs) (k : Nat) : (w.drewN k).ownsRow base e size v n xs := h
def needlessChanges (x : TZ) : List Int × Int := if vZoned x = true then (idxFrom (nlC x) x.ch 0, 0) else ([], 1)
set_option maxRecDepth 100000 in
set_option maxHeartbeats 4000000 in
theorem P_NeedlessChanges (x : TZ) (v : Value) (w : World) (hs : Small_Zoned x) (hf : Fit_Zoned x) (h : R_Zoned w w.heap.size v x) :
    Calls Tryd.prog 33 #[v] w fun e w' => ∃ r, e = .returned (.tuple #[r, .int .i64 (needlessChanges x).2]) ∧ O_Int64S w' w.heap.size w'.heap.size r (needlessChanges x).1 ∧ Below w.heap.size w w' := by
  have h0 := h
  obtain ⟨A, c, A2, c2, rfl, h1, h2⟩ := h0
  obtain ⟨i0, hi0, hz0, hs0, hb0⟩ := info_parts int64_info
  have b0 : Below w.heap.size w (w.alloc (.cells #[.int .i64 x.z, .slice A x.of.length c, .slice A2 x.ch.length c2] 47)) := (by repeat (first | exact Below.refl _ _ | assumption | (refine Below.alloc ?_ (by simp <;> omega) _) | refine Below.drew ?_ | refine bdn ?_ _))
  have HC := hide (P_ValidZoned x _ _ hs hf ((h.below b0).more b0.size))
  have z0 : w.heap.size + 1 ≤ (w.alloc (.cells #[.int .i64 x.z, .slice A x.of.length c, .slice A2 x.ch.length c2] 47)).heap.size := by simp
  have X0 := hide (BoxAt.new w #[.int .i64 x.z, .slice A x.of.length c, .slice A2 x.ch.length c2] 47)
  have HM := hide h2
  have HL := hide fun zone tick W (hW : Below w.heap.size w W) => levelAt_any x (.agg #[.int .i64 x.z, .slice A x.of.length c, .slice A2 x.ch.length c2]) zone tick W hs ((h.below hW).more hW.size)
  clear h h1 h2
  cases hv : vZoned x
  · rw [hv] at HC
    have HR := hide (show needlessChanges x = ([], 1) by simp [needlessChanges, hv])
    clear hv
    go_enter Tryd.func33, Tryd.ntmps33
    go_wp2_with (go_at_call 40; refine (HC.out).mono ?_; rintro e w1 ⟨rfl, hb1⟩)
    go_ret2
    exact ⟨_, by rw [HR.out]; rfl, by rw [HR.out]; exact O_Int64S.nil _ _ _ _ _, b0.trans (hb1.mono b0.size)⟩
  rw [hv] at HC
  have HR := hide (show needlessChanges x = (idxFrom (nlC x) x.ch 0, 0) by simp [needlessChanges, hv])
  have h60 := (vZoned_iff hv).2.2.1
  have HO := hide (chOk_sorted (vZoned_iff hv).2.2.2.2).2
  clear hv
  go_enter Tryd.func33, Tryd.ntmps33
  go_wp2_with (go_at_call 40; refine (HC.out).mono ?_; rintro e w1 ⟨rfl, hb1⟩; have hb2 := hb1.mono z0; have X1 := X0.out.below hb2 (by omega); have hl1 := X1.lt; have k2 := X1.cell 2; simp only [List.getElem?_cons_succ, List.getElem?_cons_zero] at k2)
  have ho1 := own_new0 w1 (w.heap.size + 1) 2 1 hl1
  have hb3 : Below (w.heap.size + 1) (w.alloc (.cells #[.int .i64 x.z, .slice A x.of.length c, .slice A2 x.ch.length c2] 47)) (w1.alloc (.cells #[] 2)) := hb2.alloc hl1 _
  clear k2
  go_loopg [4, 14] x.ch.length (fun g s i wr => ∃ (k : Nat) (acc : List Int), k ≤ x.ch.length ∧ Hid (g = x.ch.length - k) ∧ i = .int .i64 k ∧ acc.length ≤ k ∧ wr.ownsRow (w.heap.size + 1) 2 1 s acc.length (acc.map (Value.int .i64)) ∧
    Hid (idxFrom (nlC x) x.ch 0 = acc ++ idxFrom (nlC x) (x.ch.drop k) k) ∧ Below (w.heap.size + 1) (w.alloc (.cells #[.int .i64 x.z, .slice A x.of.length c, .slice A2 x.ch.length c2] 47)) wr)
  case atStart => exact ⟨0, [], by omega, by simp [Hid], rfl, by simp, ho1, by simp [Hid], hb3⟩
  case round =>
    obtain ⟨k, acc, hk, hg, rfl, hal, hown, HS, hb⟩ := hrel
    clear ho1 hb3 hb2 hb1
    have hsz : w.heap.size + 1 ≤ wr.heap.size := by have := hb.size; omega
    have X1 := X0.out.below hb (by omega)
    have bw : Below w.heap.size w wr := b0.trans (hb.mono (by omega))
    by_cases hlt : k < x.ch.length
    · obtain ⟨b1, o1, z1, rfl, hbb, hz1, hca, hcb, hcc⟩ := (HM.out.below bw).at_ hlt
      have hok := okC_iff.1 (HO.out z1 (List.mem_of_getElem? hz1))
      obtain ⟨⟨ha1, ha2⟩, _, _⟩ := hok
      have hwr : IntKind.i64.wrap (z1.a - 1) = z1.a - 1 := by rw [IntKind.wrap_i64] <;> omega
      have Z1 := hide hz1
      clear hz1
      have X0' := hide (X1.alloc (.cells #[.int .i64 z1.a, .int .i64 z1.b, .int .i64 z1.c] 41))
      have C0 := hide (BoxAt.new wr #[.int .i64 z1.a, .int .i64 z1.b, .int .i64 z1.c] 41)
      have hca' := hb.alloc hsz (.cells #[.int .i64 z1.a, .int .i64 z1.b, .int .i64 z1.c] 41)
      have hoa := hown.alloc (.cells #[.int .i64 z1.a, .int .i64 z1.b, .int .i64 z1.c] 41)
      have hsw : wr.heap.size + 1 ≤ (wr.alloc (.cells #[.int .i64 z1.a, .int .i64 z1.b, .int .i64 z1.c] 41)).heap.size := by simp
      go_wp2_with fail
      generalize (wr.alloc (.cells #[.int .i64 z1.a, .int .i64 z1.b, .int .i64 z1.c] 41)) = wb at *
      have e0 : wb.drew.cell? ⟨w.heap.size, 0, none⟩ = some (.int .i64 x.z) := by have := X0'.out.cell 0; simpa using this
      have e1 : wb.drew.cell? ⟨w.heap.size, 1, none⟩ = some (.slice A x.of.length c) := by have := X0'.out.cell 1; simpa using this
      have e2 : wb.drew.cell? ⟨w.heap.size, 2, none⟩ = some (.slice (some ⟨b1, o1, none⟩) x.ch.length c2) := by have := X0'.out.cell 2; simpa using this
      have e3 : wb.drew.cell? ⟨wr.heap.size, 0, none⟩ = some (.int .i64 z1.a) := by have := C0.out.cell 0; simpa using this
      have e4 : wb.drew.cell? ⟨wr.heap.size, 1, none⟩ = some (.int .i64 z1.b) := by have := C0.out.cell 1; simpa using this
      have e5 : wb.drew.cell? ⟨wr.heap.size, 2, none⟩ = some (.int .i64 z1.c) := by have := C0.out.cell 2; simpa using this
      have bd := hca'.drew
      have hsd : wr.heap.size + 1 ≤ wb.drew.heap.size := hsw
      have hod : wb.drew.ownsRow (w.heap.size + 1) 2 1 u4 acc.length (acc.map (Value.int .i64)) := hoa
      have HQ := hide (HL.out z1.b (z1.a - 1) wb.drew (b0.trans (bd.mono (by omega))))
      clear hca hcb hcc hoa hca'
      have HI1 := hide fun h => idx_hit Z1.out (nlC_t (x := x) h) HS.out
      have HI2 := hide fun h => idx_miss Z1.out (nlC_f (x := x) h) HS.out
      clear HS
      generalize hlv : lvl x.ch z1.b (z1.a - 1) = lv at *
      have hlv' := hide hlv
      clear hlv
      refine wp_region_held_drew (S := fun W => W.cell? ⟨w.heap.size, 0, none⟩ = some (.int .i64 x.z) ∧ W.cell? ⟨w.heap.size, 1, none⟩ = some (.slice A x.of.length c) ∧ W.cell? ⟨w.heap.size, 2, none⟩ = some (.slice (some ⟨b1, o1, none⟩) x.ch.length c2) ∧ W.cell? ⟨wr.heap.size, 0, none⟩ = some (.int .i64 z1.a) ∧ W.cell? ⟨wr.heap.size, 1, none⟩ = some (.int .i64 z1.b) ∧ W.cell? ⟨wr.heap.size, 2, none⟩ = some (.int .i64 z1.c)) (by kernel_rfl) (⟨e0, e1, e2, e3, e4, e5⟩) (fun hHeld => ?_)
      refine wpAnyH_take (i := 0) (v := ?_) rfl (by kernel_rfl) (by kernel_rfl) (by kernel_rfl) (fun _ _ _ h => h) (Or.inl ⟨by rfl, ?_⟩) (by assumption) ?_
      rotate_left 1
      · (intro w hSw; (try dsimp only at hSw); go_simp; try with_reducible rfl)
      try simp only [Act.put, List.getElem_toArray, List.getElem_cons_succ, List.getElem_cons_zero, List.setIfInBounds_toArray, List.set_cons_zero, List.set_cons_succ]
      refine wpAnyH_take (i := 1) (v := ?_) rfl (by kernel_rfl) (by kernel_rfl) (by kernel_rfl) (fun _ _ _ h => h) (Or.inl ⟨by rfl, ?_⟩) (by assumption) ?_
      rotate_left 1
      · (intro w hSw; (try dsimp only at hSw); go_simp; try with_reducible rfl)
      try simp only [Act.put, List.getElem_toArray, List.getElem_cons_succ, List.getElem_cons_zero, List.setIfInBounds_toArray, List.set_cons_zero, List.set_cons_succ]
      refine wpAnyH_take (i := 2) (v := ?_) rfl (by kernel_rfl) (by kernel_rfl) (by kernel_rfl) (fun _ _ _ h => h) (Or.inl ⟨by rfl, ?_⟩) (by assumption) ?_
      rotate_left 1
      · (intro w hSw; (try dsimp only at hSw); go_simp; try with_reducible rfl)
      try simp only [Act.put, List.getElem_toArray, List.getElem_cons_succ, List.getElem_cons_zero, List.setIfInBounds_toArray, List.set_cons_zero, List.set_cons_succ]
      refine wpAnyH_take (i := 3) (v := ?_) rfl (by kernel_rfl) (by kernel_rfl) (by kernel_rfl) (fun _ _ _ h => h) (Or.inl ⟨by rfl, ?_⟩) (by assumption) ?_
      rotate_left 1
      · (intro w hSw; (try dsimp only at hSw); go_simp; try with_reducible rfl)
      try simp only [Act.put, List.getElem_toArray, List.getElem_cons_succ, List.getElem_cons_zero, List.setIfInBounds_toArray, List.set_cons_zero, List.set_cons_succ]
      refine wpAnyH_take (i := 4) (v := ?_) rfl (by kernel_rfl) (by kernel_rfl) (by kernel_rfl) (fun _ _ _ h => h) (Or.inl ⟨by rfl, ?_⟩) (by assumption) ?_
      rotate_left 1
      · (intro w hSw; (try dsimp only at hSw); go_simp; try with_reducible rfl)
      try simp only [Act.put, List.getElem_toArray, List.getElem_cons_succ, List.getElem_cons_zero, List.setIfInBounds_toArray, List.set_cons_zero, List.set_cons_succ]
      refine wpAnyH_take (i := 5) (v := ?_) rfl (by kernel_rfl) (by kernel_rfl) (by kernel_rfl) (fun _ _ _ h => h) (Or.inl ⟨by rfl, ?_⟩) (by assumption) ?_
      rotate_left 1
      · (intro w hSw; (try dsimp only at hSw); go_simp; try with_reducible rfl)
      try simp only [Act.put, List.getElem_toArray, List.getElem_cons_succ, List.getElem_cons_zero, List.setIfInBounds_toArray, List.set_cons_zero, List.set_cons_succ]
      refine wpAnyH_take (i := 6) (v := ?_) rfl (by kernel_rfl) (by kernel_rfl) (by kernel_rfl) (fun _ _ _ h => h) (Or.inl ⟨by rfl, ?_⟩) (by assumption) ?_
      rotate_left 1
      · (intro w hSw; (try dsimp only at hSw); go_simp; try with_reducible rfl)
      try simp only [Act.put, List.getElem_toArray, List.getElem_cons_succ, List.getElem_cons_zero, List.setIfInBounds_toArray, List.set_cons_zero, List.set_cons_succ]
      refine wpAnyH_take (i := 7) (v := ?_) rfl (by kernel_rfl) (by kernel_rfl) (by kernel_rfl) (fun _ _ _ h => h) (Or.inl ⟨by rfl, ?_⟩) (by assumption) ?_
      rotate_left 1
      · (intro w hSw; (try dsimp only at hSw); go_simp; try with_reducible rfl)
      try simp only [Act.put, List.getElem_toArray, List.getElem_cons_succ, List.getElem_cons_zero, List.setIfInBounds_toArray, List.set_cons_zero, List.set_cons_succ]
      refine wpAnyH_ready (rs := [8]) (by kernel_rfl) (by simp) ?_
      refine AllReadyH.cons rfl (fun K hK => ?_) AllReadyH.nil
      try simp only [Act.put, List.getElem_toArray, List.getElem_cons_succ, List.getElem_cons_zero, List.setIfInBounds_toArray, List.set_cons_zero, List.set_cons_succ]
      go_simp
      go_at_call 74
      refine HQ.out.mono ?_
      rintro e w2 ⟨rfl, s2⟩
      have f0 := (s2.cell (p := ⟨w.heap.size, 0, none⟩) (by dsimp only; omega)).trans e0
      have f1 := (s2.cell (p := ⟨w.heap.size, 1, none⟩) (by dsimp only; omega)).trans e1
      have f2 := (s2.cell (p := ⟨w.heap.size, 2, none⟩) (by dsimp only; omega)).trans e2
      have f3 := (s2.cell (p := ⟨wr.heap.size, 0, none⟩) (by dsimp only; omega)).trans e3
      have f4 := (s2.cell (p := ⟨wr.heap.size, 1, none⟩) (by dsimp only; omega)).trans e4
      have f5 := (s2.cell (p := ⟨wr.heap.size, 2, none⟩) (by dsimp only; omega)).trans e5
      dsimp only
      refine hK.out _ _ (⟨f0, f1, f2, f3, f4, f5⟩) (fun hHeld => ?_)
      clear hK K
      try simp only [Act.put, List.getElem_toArray, List.getElem_cons_succ, List.getElem_cons_zero, List.setIfInBounds_toArray, List.set_cons_zero, List.set_cons_succ]
      refine wpAnyH_take (i := 9) (v := ?_) rfl (by kernel_rfl) (by kernel_rfl) (by kernel_rfl) (fun _ _ _ h => h) (Or.inl ⟨by rfl, ?_⟩) (by assumption) ?_
      rotate_left 1
      · (intro w hSw; (try dsimp only at hSw); go_simp; try with_reducible rfl)
      try simp only [Act.put, List.getElem_toArray, List.getElem_cons_succ, List.getElem_cons_zero, List.setIfInBounds_toArray, List.set_cons_zero, List.set_cons_succ]
      refine wpAnyH_done (by kernel_rfl) ?_ _
      have hown2 := own_below hod s2 (Nat.le_refl _)
      have hb4 := bd.trans (s2.mono (show w.heap.size + 1 ≤ wb.drew.heap.size by omega))
      have hsz2 : w.heap.size + 1 ≤ w2.heap.size := by have := s2.size; omega
      by_cases he : z1.c = lv
      · have hB : (z1.c == lv) = true := by simp [he]
        have HS' := hide (HI1.out he)
        clear he HI1 HI2
        go_wp2_with (at_builtin; go_must (refine wp_app _ rfl _ _ 44 rfl ((w.heap.size + 1)) 2 i0 (.int .i64 0) 1 8 Tryd.underlying44 hi0 hz0 hs0 hb0 rfl (by decide) _ _ _ rfl (hown2.alloc _) _ _ 1 1 [.int .i64 (k : Int)] rfl rfl (rd_new _ _ _ _ (by simp)) (int_one _) (by omega) (by decide) (by simp <;> omega) ?_); intro v' w3 hown' hgrow hat)
        have hb5 := app_below (hb4.alloc hsz2 _) (hown2.alloc _) hgrow (Nat.le_refl _) (by simp <;> omega)
        go_roundg (x.ch.length - (k + 1))
        case measure => have := hg.out; omega
        case rel => exact ⟨k + 1, acc ++ [(k : Int)], by omega, rfl, by go_num, by simp; omega, by simpa using hown', HS', hb5⟩
      · have hB : (z1.c == lv) = false := by simp [he]
        have HS' := hide (HI2.out he)
        clear he HI1 HI2
        go_wp2_with fail
        go_roundg (x.ch.length - (k + 1))
        case measure => have := hg.out; omega
        case rel => exact ⟨k + 1, acc, by omega, rfl, by go_num, by omega, hown2, HS', hb4⟩
    · go_wp2_with fail
      go_ret2
      have := HS.out
      rw [List.drop_eq_nil_of_le (by omega)] at this
      simp only [idxFrom, List.append_nil] at this
      refine ⟨_, by rw [HR.out]; rfl, ?_, bw⟩
      rw [HR.out, this]
      exact O_Int64S.widen (OwnV.of_row hown (by dsimp only; omega)) (by omega) (Nat.le_refl _)
set_option maxRecDepth 100000 in
set_option maxHeartbeats 4000000 in
theorem S_NeedlessChanges (x : TZ) (v : Value) (w : World) (hs : Small_Zoned x) (hf : Fit_Zoned x) (h : R_Zoned w w.heap.size v x) :
    Calls Tryd.prog 34 #[v] w fun e w' => ∃ r, e = .returned (.tuple #[r, .int .i64 (needlessChanges x).2]) ∧ O_Int64S w' w.heap.size w'.heap.size r (needlessChanges x).1 ∧ Below w.heap.size w w' := by
  have h0 := h
  obtain ⟨A, c, A2, c2, rfl, h1, h2⟩ := h0
  obtain ⟨i0, hi0, hz0, hs0, hb0⟩ := info_parts int64_info
  have b0 : Below w.heap.size w (w.alloc (.cells #[.int .i64 x.z, .slice A x.of.length c, .slice A2 x.ch.length c2] 47)) := (by repeat (first | exact Below.refl _ _ | assumption | (refine Below.alloc ?_ (by simp <;> omega) _) | refine Below.drew ?_ | refine bdn ?_ _))
  have HC := hide (l09Ok_any x A c A2 c2 w.heap.size (w.alloc (.cells #[.int .i64 x.z, .slice A x.of.length c, .slice A2 x.ch.length c2] 47)) hs (by simp [go_sem]) (by simp [go_sem]) (by simp [go_sem]) ((h1.below b0).more b0.size) ((h2.below b0).more b0.size))
  have z0 : w.heap.size + 1 ≤ (w.alloc (.cells #[.int .i64 x.z, .slice A x.of.length c, .slice A2 x.ch.length c2] 47)).heap.size := by simp
  have X0 := hide (BoxAt.new w #[.int .i64 x.z, .slice A x.of.length c, .slice A2 x.ch.length c2] 47)
  have HM := hide h2
  clear h h1 h2
  cases hv : vZoned x
  · rw [hv] at HC
    have HR := hide (show needlessChanges x = ([], 1) by simp [needlessChanges, hv])
    clear hv
    go_enter Tryd.func34, Tryd.ntmps34
    go_wp2_with (go_at_call 88; refine (HC.out).mono ?_; rintro e w1 ⟨rfl, hb1⟩)
    go_ret2
    exact ⟨_, by rw [HR.out]; rfl, by rw [HR.out]; exact O_Int64S.nil _ _ _ _ _, b0.trans (hb1.mono b0.size)⟩
  rw [hv] at HC
  have HR := hide (show needlessChanges x = (idxFrom (nlC x) x.ch 0, 0) by simp [needlessChanges, hv])
  have h60 := (vZoned_iff hv).2.2.1
  obtain ⟨hzz1, hzz2⟩ := (vZoned_iff hv).1
  have HO := hide (chOk_sorted (vZoned_iff hv).2.2.2.2).2
  have HV := hide hv
  obtain ⟨m, hm⟩ := Int.eq_ofNat_of_zero_le (show 0 ≤ x.z by omega)
  have hm1 : m ≤ 8 := by omega
  have HZ := hide hm
  clear hv hm
  go_enter Tryd.func34, Tryd.ntmps34
  go_wp2_with (first | (go_at_call 88; refine (HC.out).mono ?_; rintro e w1 ⟨rfl, hb1⟩; have hb2 := hb1.mono z0; have X1 := X0.out.below hb2 (by omega); have hl1 := X1.lt; have k0 := X1.cell 0; simp only [List.getElem?_cons_succ, List.getElem?_cons_zero, HZ.out] at k0) | (refine wpList_make_full _ rfl _ _ _ rfl (w.heap.size + 1) 2 i0 _ 1 Tryd.underlying44 hi0 hz0 hs0 .i64 .i64 (m : Int) (m : Int) m rfl rfl rfl rfl (by rw [hb0]; omega) (by unfold maxLen; omega) (by simp; omega) ?_; intro w2 hown1 hgr1))
  have ho1 := own_new0 w1 (w.heap.size + 1) 2 1 hl1
  have hb3 : Below (w.heap.size + 1) (w.alloc (.cells #[.int .i64 x.z, .slice A x.of.length c, .slice A2 x.ch.length c2] 47)) (w1.alloc (.cells #[] 2)) := hb2.alloc hl1 _
  have hbg : Below (w1.alloc (.cells #[] 2)).heap.size (w1.alloc (.cells #[] 2)) w2 := (Below.refl _ _).grown hgr1 (Nat.le_refl _) (by intro k hk; cases hk)
  have hlo : w.heap.size + 1 ≤ (w1.alloc (.cells #[] 2)).heap.size := by simp; omega
  have hb4 : Below (w.heap.size + 1) (w.alloc (.cells #[.int .i64 x.z, .slice A x.of.length c, .slice A2 x.ch.length c2] 47)) w2 := hb3.trans (hbg.mono hlo)
  have ho2 := own_below ho1 hbg (Nat.le_refl _)
  have hlev : w2.ownsRow (w.heap.size + 1) 2 1 (.slice (some ⟨(w1.alloc (.cells #[] 2)).heap.size, 0, none⟩) m m) m ((List.replicate m (0 : Int)).map (Value.int .i64)) := by rw [← made_ints]; exact hown1
  have hne0 : (Value.slice (some ⟨w1.heap.size, 0, none⟩) 0 0).ownBlock ≠ some (w1.alloc (.cells #[] 2)).heap.size := by simp [Value.ownBlock]
  have hlbl : (w1.alloc (.cells #[] 2)).heap.size < w2.heap.size := (hlev.lt _ rfl).2
  have HLV0 : Hid (∀ n : Nat, n < m → (List.replicate m (0 : Int))[n]? = some (lvlGo (n : Int) 10000 0 (x.ch.take 0))) := fun n hn => by rw [List.getElem?_replicate, if_pos hn]; rfl
  clear k0 hown1 hgr1 ho1 hb3 hbg X1
  rw [show (w1.alloc (.cells #[] 2)).heap.size = w1.heap.size + 1 by simp] at hlev hne0 hlbl
  generalize hlb : w1.heap.size + 1 = lb at *
  clear hlb
  go_loopg [4, 6] x.ch.length (fun g s i wr => ∃ (k : Nat) (acc L : List Int), k ≤ x.ch.length ∧ Hid (g = x.ch.length - k) ∧ i = .int .i64 k ∧ acc.length ≤ k ∧ wr.ownsRow (w.heap.size + 1) 2 1 s acc.length (acc.map (Value.int .i64)) ∧ s.ownBlock ≠ some lb ∧
    wr.ownsRow (w.heap.size + 1) 2 1 (.slice (some ⟨lb, 0, none⟩) m m) m (L.map (Value.int .i64)) ∧ Hid (∀ n : Nat, n < m → L[n]? = some (lvlGo (n : Int) 10000 0 (x.ch.take k))) ∧
    Hid (idxFrom (nlC x) x.ch 0 = acc ++ idxFrom (nlC x) (x.ch.drop k) k) ∧ Below (w.heap.size + 1) (w.alloc (.cells #[.int .i64 x.z, .slice A x.of.length c, .slice A2 x.ch.length c2] 47)) wr)
  case atStart => exact ⟨0, [], _, by omega, by simp [Hid], rfl, by simp, ho2, hne0, hlev, HLV0, by simp [Hid], hb4⟩
  case round =>
    obtain ⟨k, acc, L, hk, hg, rfl, hal, hown, hne, hlv, HLV, HS, hb⟩ := hrel
    clear ho2 hne0 hlev hb4 hlbl HLV0 hb2 hb1 hl1 hlo
    have hsz : w.heap.size + 1 ≤ wr.heap.size := by have := hb.size; omega
    have X1 := X0.out.below hb (by omega)
    have hxl := X1.lt
    have k2 := X1.cell 2
    simp only [List.getElem?_cons_succ, List.getElem?_cons_zero] at k2
    have bw : Below w.heap.size w wr := b0.trans (hb.mono (by omega))
    have hlbw := hlv.lt lb rfl
    obtain ⟨hlb1, hlb2⟩ := hlbw
    by_cases hlt : k < x.ch.length
    · obtain ⟨b1, o1, z1, rfl, hbb, hz1, hca, hcb, hcc⟩ := (HM.out.below bw).at_ hlt
      have hok := okC_iff.1 (HO.out z1 (List.mem_of_getElem? hz1))
      obtain ⟨⟨ha1, ha2⟩, ⟨hy1, hy2⟩, _⟩ := hok
      have hlvb := lvl_before HV.out hz1
      have HNX := hide fun zone => lvl_next hz1 zone ha2
      have HI1 := hide fun h => idx_hit hz1 (nlC_t (x := x) h) HS.out
      have HI2 := hide fun h => idx_miss hz1 (nlC_f (x := x) h) HS.out
      clear hz1 HS
      obtain ⟨p0, p1, p2⟩ := z1
      dsimp only at *
      obtain ⟨n1, rfl⟩ := Int.eq_ofNat_of_zero_le hy1
      have hn1 : n1 < m := by have := HZ.out; omega
      have hn1' : (n1 : Int) < (m : Int) := by omega
      have hLn := HLV.out n1 hn1
      rw [← hlvb] at hLn
      clear hlvb
      generalize hlw : lvl x.ch (n1 : Int) (p0 - 1) = lv at *
      clear hlw
      have hlc := own_at9 hlv hLn
      have hlf := hlv.frozenAt n1
      have HLS : Hid (∀ n : Nat, n < m → (L.set n1 p2)[n]? = some (lvlGo (n : Int) 10000 0 (x.ch.take (k + 1)))) := fun n hn => by
        rw [HNX.out (n : Int)]
        by_cases hnn : n1 = n
        · subst hnn
          rw [List.getElem?_set_self (lt_of_get hLn), if_pos rfl]
        · rw [List.getElem?_set_ne hnn, if_neg (by omega)]
          exact HLV.out n hn
      clear HNX HLV
      have C0 := hide (BoxAt.new wr #[.int .i64 p0, .int .i64 (n1 : Int), .int .i64 p2] 41)
      have hca' := hide (hb.alloc hsz (.cells #[.int .i64 p0, .int .i64 (n1 : Int), .int .i64 p2] 41))
      have hoa := hide (hown.alloc (.cells #[.int .i64 p0, .int .i64 (n1 : Int), .int .i64 p2] 41))
      have hla := hide (hlv.alloc (.cells #[.int .i64 p0, .int .i64 (n1 : Int), .int .i64 p2] 41))
      have m0 : (wr.alloc (.cells #[.int .i64 p0, .int .i64 (n1 : Int), .int .i64 p2] 41)).cell? ⟨wr.heap.size, 0, none⟩ = some (.int .i64 p0) := by simp [go_sem]
      have m1 : (wr.alloc (.cells #[.int .i64 p0, .int .i64 (n1 : Int), .int .i64 p2] 41)).cell? ⟨wr.heap.size, 1, none⟩ = some (.int .i64 (n1 : Int)) := by simp [go_sem]
      have m2 : (wr.alloc (.cells #[.int .i64 p0, .int .i64 (n1 : Int), .int .i64 p2] 41)).cell? ⟨wr.heap.size, 2, none⟩ = some (.int .i64 p2) := by simp [go_sem]
      have m3 : (wr.alloc (.cells #[.int .i64 p0, .int .i64 (n1 : Int), .int .i64 p2] 41)).cell? ⟨lb, n1, none⟩ = some (.int .i64 lv) := own_at9 hla.out hLn
      have m4 : (wr.alloc (.cells #[.int .i64 p0, .int .i64 (n1 : Int), .int .i64 p2] 41)).frozen? ⟨lb, n1, none⟩ = false := hla.out.frozenAt n1
      have hsw : wr.heap.size + 1 ≤ (wr.alloc (.cells #[.int .i64 p0, .int .i64 (n1 : Int), .int .i64 p2] 41)).heap.size := by simp
      clear hlc hlf
      go_wp2_with fail
      generalize (wr.alloc (.cells #[.int .i64 p0, .int .i64 (n1 : Int), .int .i64 p2] 41)) = wb at *
      have hn0 : (0 : Int) ≤ (n1 : Int) := by omega
      clear hca hcb hcc
      by_cases he : p2 = lv
      · have hB : (lv == p2) = true := by simp [he]
        have HS' := hide (HI1.out he)
        have he' := hide he
        clear he HI1 HI2
        go_quiet (fail)
        have e0 : (wb.drewN nq).cell? ⟨wr.heap.size, 1, none⟩ = some (.int .i64 (n1 : Int)) := m1
        have e1 : (wb.drewN nq).cell? ⟨wr.heap.size, 2, none⟩ = some (.int .i64 p2) := m2
        have bq := hide (bdn hca'.out nq)
        have oq := hide (own_drew9 hoa.out nq)
        have lq := hide (own_drew9 hla.out nq)
        have hsq : wr.heap.size + 1 ≤ (wb.drewN nq).heap.size := hsw
        clear m0 m1 m2 m3 m4 hca' hoa hla hsw
        generalize wb.drewN nq = wq at *
        have hbk : Hid (∀ (w3 : World), (wq.alloc (.cells #[.int .i64 (k : Int)] 2)).grownBy w3 u4.ownBlock → ∀ j : Nat, w3.cell? ⟨wr.heap.size, j, none⟩ = wq.cell? ⟨wr.heap.size, j, none⟩) := fun w3 hgrow j => by
          have h1 : w3.heap[wr.heap.size]? = (wq.alloc (.cells #[.int .i64 (k : Int)] 2)).heap[wr.heap.size]? := hgrow.block wr.heap.size (by simp; omega) fun e => by have := (hown.lt _ e.symm).2; omega
          exact (World.cell?_of_block (a := ⟨wr.heap.size, j, none⟩) h1).trans (World.cell?_alloc_old _ _ _ (by dsimp only; omega))
        have hlbq : lb < wq.heap.size := by omega
        have hne2 := hide (show (Value.slice (some ⟨lb, 0, none⟩) m m).ownBlock = none ∨ (Value.slice (some ⟨lb, 0, none⟩) m m).ownBlock ≠ u4.ownBlock from .inr fun e => hne e.symm)
        go_wp2_with ((at_builtin; go_must (refine wp_app _ rfl _ _ 44 rfl ((w.heap.size + 1)) 2 i0 (.int .i64 0) 1 8 Tryd.underlying44 hi0 hz0 hs0 hb0 rfl (by decide) _ _ _ rfl (oq.out.alloc _) _ _ 1 1 [.int .i64 (k : Int)] rfl rfl (rd_new _ _ _ _ (by simp)) (int_one _) (by omega) (by decide) (by simp <;> omega) ?_); intro v' w3 hown' hgrow hat); have f1 := (hbk.out w3 hgrow 1).trans e0; have f2 := (hbk.out w3 hgrow 2).trans e1; have lq3 := hide ((lq.out.alloc _).kept hgrow hne2.out); have f3 := own_at9 lq3.out hLn; have f4 := lq3.out.frozenAt n1)
        have hb5 := app_below (bq.out.alloc (by omega) _) (oq.out.alloc _) hgrow (Nat.le_refl _) (by simp <;> omega)
        have hs3 := own_set9 lq3.out n1 p2
        have hne3 : v'.ownBlock ≠ some lb := by
          rcases hat with h | h
          · rw [h]; exact hne
          · rw [h]; simp; omega
        go_roundg (x.ch.length - (k + 1))
        case measure => have := hg.out; omega
        case rel => exact ⟨k + 1, acc ++ [(k : Int)], L.set n1 p2, by omega, rfl, by go_num, by simp; omega, by simpa using hown'.kept hs3.2 (.inr hne3), hne3, hs3.1, HLS, HS', hb5.setCell hlb1 _⟩
      · have hB : (lv == p2) = false := by simp; exact fun e => he e.symm
        have HS' := hide (HI2.out he)
        have he' := hide he
        clear he HI1 HI2
        go_quiet (fail)
        have e0 : (wb.drewN nq).cell? ⟨wr.heap.size, 1, none⟩ = some (.int .i64 (n1 : Int)) := m1
        have e1 : (wb.drewN nq).cell? ⟨wr.heap.size, 2, none⟩ = some (.int .i64 p2) := m2
        have e2 : (wb.drewN nq).cell? ⟨lb, n1, none⟩ = some (.int .i64 lv) := m3
        have e3 : (wb.drewN nq).frozen? ⟨lb, n1, none⟩ = false := m4
        have bq := hide (bdn hca'.out nq)
        have oq := hide (own_drew9 hoa.out nq)
        have lq := hide (own_drew9 hla.out nq)
        clear m0 m1 m2 m3 m4 hca' hoa hla hsw
        generalize wb.drewN nq = wq at *
        go_wp2_with fail
        have hs3 := own_set9 lq.out n1 p2
        go_roundg (x.ch.length - (k + 1))
        case measure => have := hg.out; omega
        case rel => exact ⟨k + 1, acc, L.set n1 p2, by omega, rfl, by go_num, by omega, oq.out.kept hs3.2 (.inr hne), hne, hs3.1, HLS, HS', bq.out.setCell hlb1 _⟩
    · go_wp2_with fail
      go_ret2
      have := HS.out
      rw [List.drop_eq_nil_of_le (by omega)] at this
      simp only [idxFrom, List.append_nil] at this
      refine ⟨_, by rw [HR.out]; rfl, ?_, bw⟩
      rw [HR.out, this]
      exact O_Int64S.widen (OwnV.of_row hown (by dsimp only; omega)) (by omega) (Nat.le_refl _)
end Go.Proofs.YtofjnmeblmbnmaaDoor
namespace Go.Proofs.YtofjnmeblmbnmaaDoor
open Go.RowKit

set_option maxRecDepth 100000 in
set_option maxHeartbeats 4000000 in
theorem S_LevelAt (x : TZ) (v : Value) (zone tick : Int) (w : World) (hs : Small_Zoned x) (_ : Fit_Zoned x) (h : R_Zoned w w.heap.size v x) (_ : -9223372036854775808 ≤ zone) (_ : zone ≤ 9223372036854775807) (_ : -9223372036854775808 ≤ tick) (_ : tick ≤ 9223372036854775807) :
    Calls Tryd.prog 26 #[v, .int .i64 zone, .int .i64 tick] w fun e w' => e = .returned (.tuple #[.int .i64 (levelAt x zone tick).1, .int .i64 (levelAt x zone tick).2]) ∧ Below w.heap.size w w' := by
  obtain ⟨A, c, A2, c2, rfl, h1, h2⟩ := h
  have b0 : Below w.heap.size w (w.alloc (.cells #[.int .i64 x.z, .slice A x.of.length c, .slice A2 x.ch.length c2] 47)) := (by repeat (first | exact Below.refl _ _ | assumption | (refine Below.alloc ?_ (by simp <;> omega) _) | refine Below.drew ?_ | refine bdn ?_ _))
  have HC := hide (l09Code_any x A c A2 c2 w.heap.size zone tick (w.alloc (.cells #[.int .i64 x.z, .slice A x.of.length c, .slice A2 x.ch.length c2] 47)) hs (by simp [go_sem]) (by simp [go_sem]) (by simp [go_sem]) ((h1.below b0).more b0.size) ((h2.below b0).more b0.size))
  have z0 : w.heap.size + 1 ≤ (w.alloc (.cells #[.int .i64 x.z, .slice A x.of.length c, .slice A2 x.ch.length c2] 47)).heap.size := by simp
  have X0 := hide (BoxAt.new w #[.int .i64 x.z, .slice A x.of.length c, .slice A2 x.ch.length c2] 47)
  have HM := hide h2
  clear h1 h2
  by_cases hc : codeZ x zone tick = 0
  case neg =>
    have HR := hide (show levelAt x zone tick = (0, codeZ x zone tick) by simp [levelAt, hc])
    have hne : (codeZ x zone tick != 0) = true := by simp [hc]
    generalize codeZ x zone tick = cd at *
    go_enter Tryd.func26, Tryd.ntmps26
    go_wp2_with (go_at_call 75; refine (HC.out).mono ?_; rintro e w1 ⟨rfl, hb1⟩)
    go_ret2
    exact ⟨by rw [HR.out]; rfl, b0.trans (hb1.mono b0.size)⟩
  have hv := (codeZ_ok hc).1
  have HR := hide (show levelAt x zone tick = (lvl x.ch zone tick, 0) by simp [levelAt, hc])
  have HL := hide fun W (hW : Below (w.heap.size + 1) (w.alloc (.cells #[.int .i64 x.z, .slice A x.of.length c, .slice A2 x.ch.length c2] 47)) W) => l09Level_any x A2 c2 w.heap.size zone tick W hv (by have := (X0.out.below hW (by omega)).cell 2; simpa using this) ((HM.out.below (b0.trans (hW.mono (by omega)))).more (by have := hW.size; omega))
  rw [hc] at HC
  clear hc hv
  go_enter Tryd.func26, Tryd.ntmps26
  go_wp2_with (first | (go_at_call 75; refine (HC.out).mono ?_; rintro e w1 ⟨rfl, hb1⟩; have hb2 := hb1.mono z0) | (go_at_call 76; refine (HL.out _ hb2).mono ?_; rintro e w' ⟨rfl, rfl⟩))
  go_ret2
  exact ⟨by rw [HR.out]; rfl, b0.trans (hb2.mono (by omega))⟩
def tubesOfZone (x : TZ) (zone : Int) : List Int × Int := if codeZ x zone 0 = 0 then (idxFrom (fun z => decide (z = zone)) x.of 0, 0) else ([], codeZ x zone 0)
end Go.Proofs.YtofjnmeblmbnmaaDoor
namespace Go.Proofs
open Go.Shelf
def YtofjnmeblmbnmaaDoor.fmtLay_ren : Go.Shelf.Ren := ⟨fun | 173 => 106 | 246 => 118 | 283 => 122 | 284 => 123 | 285 => 124 | 286 => 125 | 129 => 128 | 317 => 127 | 318 => 129 | 319 => 130 | 320 => 131 | 337 => 99 | 338 => 132 | n => n, fun | 2 => 2 | 3 => 3 | 9 => 9 | 4 => 4 | 171 => 134 | 0 => 0 | 53 => 116 | 37 => 22 | 5 => 5 | 173 => 137 | 212 => 142 | 51 => 71 | 20 => 20 | 213 => 143 | 46 => 73 | 232 => 129 | 233 => 146 | n => n, fun | 17 => 1 | 18 => 0 | 19 => 2 | n => n⟩
theorem YtofjnmeblmbnmaaDoor.fmtLay : Go.Proofs.LaysM.n173 Tryd.prog YtofjnmeblmbnmaaDoor.fmtLay_ren := {
  mixed := by kernel_rfl
  f129 := Tryd.func128.trans (congrArg some (by kernel_rfl))
  f173 := Tryd.func106.trans (congrArg some (by kernel_rfl))
  f246 := Tryd.func118.trans (congrArg some (by kernel_rfl))
  f283 := Tryd.func122.trans (congrArg some (by kernel_rfl))
  f284 := Tryd.func123.trans (congrArg some (by kernel_rfl))
  f285 := Tryd.func124.trans (congrArg some (by kernel_rfl))
  f286 := Tryd.func125.trans (congrArg some (by kernel_rfl))
  f317 := Tryd.func127.trans (congrArg some (by kernel_rfl))
  f318 := Tryd.func129.trans (congrArg some (by kernel_rfl))
  f319 := Tryd.func130.trans (congrArg some (by kernel_rfl))
  f320 := Tryd.func131.trans (congrArg some (by kernel_rfl))
  f337 := Tryd.func99.trans (congrArg some (by kernel_rfl))
  f338 := Tryd.func132.trans (congrArg some (by kernel_rfl))
  t0 := Tryd.underlying0
  a0 := Tryd.isAgg0
  z0 := Tryd.sizeOf0
  v0 := Tryd.zeroValue0
  t2 := Tryd.underlying2
  a2 := Tryd.isAgg2
  z2 := Tryd.sizeOf2
  v2 := Tryd.zeroValue2
  t3 := Tryd.underlying3
  a3 := Tryd.isAgg3
  z3 := Tryd.sizeOf3
  v3 := Tryd.zeroValue3
  t4 := Tryd.underlying4
  a4 := Tryd.isAgg4
  z4 := Tryd.sizeOf4
  v4 := Tryd.zeroValue4
  t5 := Tryd.underlying5
  a5 := Tryd.isAgg5
  z5 := Tryd.sizeOf5
  v5 := Tryd.zeroValue5
  t9 := Tryd.underlying9
  a9 := Tryd.isAgg9
  z9 := Tryd.sizeOf9
  v9 := Tryd.zeroValue9
  t20 := Tryd.underlying20
  a20 := Tryd.isAgg20
  z20 := Tryd.sizeOf20
  v20 := Tryd.zeroValue20
  t37 := Tryd.underlying22
  a37 := Tryd.isAgg22
  z37 := Tryd.sizeOf22
  v37 := Tryd.zeroValue22
  t46 := Tryd.underlying73
  a46 := Tryd.isAgg73
  z46 := Tryd.sizeOf73
  v46 := Tryd.zeroValue73
  t51 := Tryd.underlying71
  a51 := Tryd.isAgg71
  z51 := Tryd.sizeOf71
  v51 := Tryd.zeroValue71
  t53 := Tryd.underlying116
  a53 := Tryd.isAgg116
  z53 := Tryd.sizeOf116
  v53 := Tryd.zeroValue116
  t171 := Tryd.underlying134
  a171 := Tryd.isAgg134
  z171 := Tryd.sizeOf134
  v171 := Tryd.zeroValue134
  t173 := Tryd.underlying137
  a173 := Tryd.isAgg137
  z173 := Tryd.sizeOf137
  v173 := Tryd.zeroValue137
  t212 := Tryd.underlying142
  a212 := Tryd.isAgg142
  z212 := Tryd.sizeOf142
  v212 := Tryd.zeroValue142
  t213 := Tryd.underlying143
  a213 := Tryd.isAgg143
  z213 := Tryd.sizeOf143
  t232 := Tryd.underlying129
  a232 := Tryd.isAgg129
  z232 := Tryd.sizeOf129
  v232 := Tryd.zeroValue129
  t233 := Tryd.underlying146
  a233 := Tryd.isAgg146
  z233 := Tryd.sizeOf146
  v233 := Tryd.zeroValue146
  g17 := by kernel_rfl
  g18 := by kernel_rfl
  g19 := by kernel_rfl
  i0 := by kernel_rfl
  i2 := by kernel_rfl
  i3 := by kernel_rfl
  i4 := by kernel_rfl
  i5 := by kernel_rfl
  i9 := by kernel_rfl
  i20 := by kernel_rfl
  i37 := by kernel_rfl
  i46 := by kernel_rfl
  i51 := by kernel_rfl
  i53 := by kernel_rfl
  i171 := by kernel_rfl
  i173 := by kernel_rfl
  i212 := by kernel_rfl
  i232 := by kernel_rfl
  i233 := by kernel_rfl
  m17 := by kernel_rfl
  m18 := by kernel_rfl
  m19 := by kernel_rfl }
end Go.Proofs
namespace Go.Proofs.YtofjnmeblmbnmaaDoor
open Go.RowKit
theorem decDigits_ne (u : Nat) : Lib.decDigits u ≠ [] := by
  rw [Lib.decDigits]
  split
  · simp
  · simp
/-- Digits that are done stand in out, the rest in k. -/
def DecInv (n k : Int) (out : List UInt8) : Prop := (k ≠ 0 ∧ n ≠ 0 ∧ Lib.decDigits n.natAbs = Lib.decDigits k.natAbs ++ out) ∨ (k = 0 ∧ n = 0 ∧ out = []) ∨ (k = 0 ∧ n ≠ 0 ∧ out = Lib.decDigits n.natAbs)
theorem DecInv.start (n : Int) : DecInv n n [] := by
  by_cases h : n = 0
  · exact .inr (.inl ⟨h, h, rfl⟩)
  · exact .inl ⟨h, h, by simp⟩
theorem DecInv.step {n k : Int} {out : List UInt8} (h : DecInv n k out) (hk : k ≠ 0) : DecInv n (k.tdiv 10) (UInt8.ofNat (48 + k.natAbs % 10) :: out) := by
  rcases h with ⟨_, hn, h⟩ | ⟨h, _⟩ | ⟨h, _⟩
  · have e : (k.tdiv 10).natAbs = k.natAbs / 10 := by rw [Int.natAbs_tdiv]; rfl
    have hd := Lib.decDigits.eq_1 k.natAbs
    by_cases hs : k.natAbs < 10
    · rw [dif_pos hs] at hd
      rw [hd] at h
      refine .inr (.inr ⟨?_, hn, ?_⟩)
      · have : (k.tdiv 10).natAbs = 0 := by rw [e]; omega
        omega
      · rw [h, Nat.mod_eq_of_lt hs]; rfl
    · rw [dif_neg hs] at hd
      rw [hd] at h
      refine .inl ⟨?_, hn, ?_⟩
      · intro h0
        have : (k.tdiv 10).natAbs = 0 := by rw [h0]; rfl
        rw [e] at this; omega
      · rw [h, e]; simp
  · exact absurd h hk
  · exact absurd h hk
theorem DecInv.zero {n : Int} {out : List UInt8} (h : DecInv n 0 out) : (out = [] ∧ n = 0 ∧ Lib.itoa n = [48]) ∨ (out ≠ [] ∧ n < 0 ∧ Lib.itoa n = 45 :: out) ∨ (out ≠ [] ∧ 0 < n ∧ Lib.itoa n = out) := by
  rcases h with ⟨h, _⟩ | ⟨_, h, h2⟩ | ⟨_, h, h2⟩
  · exact absurd rfl h
  · subst h
    exact .inl ⟨h2, rfl, by unfold Lib.itoa; rw [if_neg (by decide), Lib.decDigits]; rfl⟩
  · by_cases hn : n < 0
    · exact .inr (.inl ⟨by rw [h2]; exact decDigits_ne _, hn, by unfold Lib.itoa; rw [if_pos hn, h2]⟩)
    · refine .inr (.inr ⟨by rw [h2]; exact decDigits_ne _, by omega, ?_⟩)
      unfold Lib.itoa
      rw [if_neg hn, h2]
      congr 1
      omega
theorem dec_digit (k : Int) : (if k.tmod 10 < 0 then -(k.tmod 10) else k.tmod 10) = ((k.natAbs % 10 : Nat) : Int) := by
  have h := Int.natAbs_tmod k 10
  have e : ((10 : Int)).natAbs = 10 := rfl
  rw [e] at h
  split <;> omega
end Go.Proofs.YtofjnmeblmbnmaaDoor
namespace Go.Proofs.YtofjnmeblmbnmaaDoor
open Go.RowKit
/-- Bytes as cells. -/
def bcs (l : List UInt8) : List Value := l.map fun x => Value.int .u8 (x.toNat : Int)
theorem bcs_snoc (l : List UInt8) {x : Nat} (h : x ≤ 255) : bcs l ++ [.int .u8 (x : Int)] = bcs (l ++ [UInt8.ofNat x]) := by
  unfold bcs
  rw [List.map_append, List.map_cons, List.map_nil, UInt8.toNat_ofNat', Nat.mod_eq_of_lt (by omega)]
theorem byte_one (z : Int) : ∀ u ∈ [Value.int .u8 z], u.oneCell' = true := by intro u hu; simp at hu; subst hu; rfl
theorem uint8_info : (Tryd.prog.info? 5).map (fun i => (i.zero, i.size, i.bytes)) = some (some (.int .u8 0), 1, 1) := by kernel_rfl
theorem bcs_cons (l : List UInt8) {x : Nat} (h : x ≤ 255) : .int .u8 (x : Int) :: bcs l = bcs (UInt8.ofNat x :: l) := by
  unfold bcs
  rw [List.map_cons, UInt8.toNat_ofNat', Nat.mod_eq_of_lt (by omega)]
theorem bcs_one (l : List UInt8) : ∀ u ∈ bcs l, u.oneCell' = true := by
  intro u hu
  obtain ⟨x, _, rfl⟩ := List.mem_map.1 hu
  rfl
theorem bcs_len (l : List UInt8) : (bcs l).length = l.length := by simp [bcs]
end Go.Proofs.YtofjnmeblmbnmaaDoor
