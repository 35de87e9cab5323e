/-
  Spans in order: the comparison of two spans, and the sort of a row of spans.
-/
import Derived.Test.YtflbddfmhjlknaaSpnL
import Derived.Test.YtflbddfmhjlknaaOpenW
import Derived.Test.YtflbddfmhjlknaaRunE
import Derived.Lib.OwnBridge
import Derived.Deep.RegionHeld3
namespace Go.Proofs.Ytflbddfmhjlknaa
open Go.RowKit


def cmpS (a b : Int) : Int := if a < b then -1 else if b < a then 1 else 0
def fNZ : List Int → Int
  | [] => 0
  | d :: r => if d = 0 then fNZ r else d
def cmpT (x y : T3) : Int := fNZ [cmpS x.b y.b, cmpS x.c y.c]
def ltT (x y : T3) : Bool := decide (x.b < y.b ∨ (x.b = y.b ∧ x.c < y.c))
theorem ltT_iff {x y : T3} : ltT x y = true ↔ x.b < y.b ∨ (x.b = y.b ∧ x.c < y.c) := by simp [ltT]
theorem ltT_no {x y : T3} : ltT x y = false ↔ ¬ (x.b < y.b ∨ (x.b = y.b ∧ x.c < y.c)) := by simp only [ltT, decide_eq_false_iff_not]
theorem lt_cmpT (x y : T3) : Go.Proofs.ltOf cmpT x y = ltT x y := by
  unfold Go.Proofs.ltOf ltT
  rw [decide_eq_decide]
  unfold cmpT cmpS
  simp only [fNZ]
  by_cases h1 : x.b < y.b
  · simp [h1]
  · by_cases h2 : y.b < x.b
    · simp [h1, h2]; omega
    · by_cases h3 : x.c < y.c
      · simp [h1, h2, h3]; omega
      · by_cases h4 : y.c < x.c
        · simp [h1, h2, h3, h4]
        · simp [h1, h2, h3, h4]
theorem swoT : Go.Sort.SWO (Go.Proofs.ltOf cmpT) where
  irrefl x := by rw [lt_cmpT, ltT_no]; omega
  trans x y z h1 h2 := by rw [lt_cmpT, ltT_iff] at *; omega
  ntrans x y z h1 h2 := by rw [lt_cmpT, ltT_no] at *; omega
/-! ### rows of spans in the sort's words -/
theorem flat3 (L : List T3) : Go.Sort.flatK T3.cells 3 L.toArray = (L.flatMap T3.cells).toArray := by
  have hl := flatMap_len T3.cells 3 (fun _ => rfl) L
  refine Go.Sort.ext_get! (by simp only [Go.Sort.size_flatK, List.size_toArray]; rw [hl]) fun t ht => ?_
  have ht' : t < L.length * 3 := by simpa using ht
  rw [Go.Sort.get_flatK _ _ _ t (by simpa using ht')]
  have hk : t / 3 < L.length := by omega
  have hg := flatMap_get T3.cells 3 (fun _ => rfl) L (t / 3) (t % 3) _ (List.getElem?_eq_getElem hk) (Nat.mod_lt _ (by omega))
  rw [show t / 3 * 3 + t % 3 = t by omega] at hg
  have e1 : (L.toArray)[t / 3]! = L[t / 3] := by simp [getElem!_pos, hk]
  rw [e1]
  have hm : t % 3 < (T3.cells L[t / 3]).length := by show t % 3 < 3; omega
  rw [List.getElem?_eq_getElem hm] at hg
  obtain ⟨hlt, he⟩ := List.getElem?_eq_some_iff.1 hg
  have e2 : (L[t / 3].cells)[t % 3]! = (L[t / 3].cells)[t % 3] := by simp [getElem!_pos, hm]
  have e3 : (L.flatMap T3.cells).toArray[t]! = (L.flatMap T3.cells)[t] := by
    have := getElem!_pos (L.flatMap T3.cells).toArray t (by simpa using hlt)
    rw [this]; simp
  rw [e2, e3, he]
theorem own_holds {w : World} {base : Nat} {e : TypeId} {g n cap : Nat} {xs : List Value} (h : w.ownsRow base e 3 (.slice (some ⟨g, 0, none⟩) n cap) n xs) : Go.Sort.Holds id w g 0 xs.toArray := by
  intro j hj
  have hl := h.1
  have hj' : j < xs.length := by simpa using hj
  rw [Nat.zero_add]
  refine ⟨?_, h.frozenAt j⟩
  rw [h.cellAt j (by omega), List.getElem?_eq_getElem hj']
  simp [getElem!_pos, hj']
theorem own_put {w : World} {base : Nat} {e : TypeId} {g n cap q : Nat} {xs ys : List Value} (h : w.ownsRow base e 3 (.slice (some ⟨g, 0, none⟩) n cap) n xs) (hy : ys.length = n * 3) :
    (Go.Sort.putRow id (Go.Sort.ahead w q) g 0 ys.toArray).ownsRow base e 3 (.slice (some ⟨g, 0, none⟩) n cap) n ys := by
  rcases h.2 with ⟨e0, _⟩ | ⟨g', cap', cur, e0, hb, hg, hn, hm, hs, ht⟩
  · cases e0
  · injection e0 with e1 _ e3
    injection e1 with e1
    injection e1 with e1
    subst e1; subst e3
    refine ⟨hy, .inr ⟨g, cap, Go.Sort.putCells id 0 ys.toArray cur, rfl, hb, ?_, hn, hm, by simpa [Go.Sort.putCells] using hs, ?_⟩⟩
    · simp [Go.Sort.putRow, Go.Sort.mapBlock, Go.Sort.ahead, Array.getElem?_modify, hg, Go.Sort.onCells]
    · apply List.ext_getElem?
      intro j
      rw [List.getElem?_take, Array.getElem?_toList]
      by_cases hj : j < n * 3
      · have hjc : j < cur.size := by rw [hs]; omega
        simp only [if_pos hj, Go.Sort.putCells, Array.getElem?_mapIdx, Array.getElem?_eq_getElem hjc, Option.map_some]
        rw [if_pos (by simp; omega), List.getElem?_eq_getElem (by omega)]
        simp [getElem!_pos, show j < ys.length by omega]
      · rw [if_neg hj, List.getElem?_eq_none (by omega)]
theorem own_grow {w : World} {base : Nat} {e : TypeId} {g n cap : Nat} {xs : List Value} (os : Array Obj) (h : w.ownsRow base e 3 (.slice (some ⟨g, 0, none⟩) n cap) n xs) : (Go.Sort.grow w os).ownsRow base e 3 (.slice (some ⟨g, 0, none⟩) n cap) n xs := by
  refine ⟨h.1, ?_⟩
  rcases h.2 with h0 | ⟨g', cap', cur, e0, hb, hg, rest⟩
  · exact .inl h0
  · refine .inr ⟨g', cap', cur, e0, hb, ?_, rest⟩
    show (w.heap ++ os)[g']? = _
    rw [Array.getElem?_append_left (lt_of_block hg)]; exact hg
theorem below_grow {B : Nat} {w0 w : World} (h : Below B w0 w) (hB : B ≤ w.heap.size) (os : Array Obj) : Below B w0 (Go.Sort.grow w os) :=
  ⟨h.os, h.tape, h.output, by have := h.size; simp [Go.Sort.grow]; omega, fun k hk => by
    rw [← h.block k hk]
    show (w.heap ++ os)[k]? = _
    rw [Array.getElem?_append_left (by omega)]⟩
set_option maxRecDepth 100000 in
theorem spNaN_any (z : Int) (w : World) : Calls Try.prog 174 #[.int .i64 z] w fun e w' => e = .returned (.bool false) ∧ w = w' := by
  go_enter Try.func174, Try.ntmps174
  go_wp2_with fail
  go_ret
  exact ⟨ret_b (by simp), rfl⟩
set_option maxRecDepth 100000 in
theorem spCompare_any (a b : Int) (w : World) : Calls Try.prog 153 #[.int .i64 a, .int .i64 b] w fun e w' => e = .returned (.int .i64 (cmpS a b)) ∧ w = w' := by
  by_cases h1 : a < b
  · have R := hide (show cmpS a b = -1 by simp [cmpS, h1])
    go_enter Try.func153, Try.ntmps153
    go_wp2_with (go_at_call 174; refine (spNaN_any _ _).mono ?_; rintro e w' ⟨rfl, rfl⟩)
    go_ret
    exact ⟨by rw [R.out]; rfl, rfl⟩
  by_cases h2 : b < a
  · have R := hide (show cmpS a b = 1 by simp [cmpS, h1, h2])
    go_enter Try.func153, Try.ntmps153
    go_wp2_with (go_at_call 174; refine (spNaN_any _ _).mono ?_; rintro e w' ⟨rfl, rfl⟩)
    go_ret
    exact ⟨by rw [R.out]; rfl, rfl⟩
  have R := hide (show cmpS a b = 0 by simp [cmpS, h1, h2])
  go_enter Try.func153, Try.ntmps153
  go_wp2_with (go_at_call 174; refine (spNaN_any _ _).mono ?_; rintro e w' ⟨rfl, rfl⟩)
  go_ret
  exact ⟨by rw [R.out]; rfl, rfl⟩
theorem fNZ_drop {ds : List Int} {k : Nat} {d : Int} (h : ds[k]? = some d) : fNZ (ds.drop k) = if d = 0 then fNZ (ds.drop (k + 1)) else d := by rw [drop_cons h, fNZ]
set_option maxRecDepth 100000 in
set_option maxHeartbeats 1000000 in
theorem spOr_any (ds : List Int) (A : Option Addr) (c : Nat) (w : World) (hd : ds.length ≤ 1048576) (h1 : RdI w w.heap.size A ds) : Calls Try.prog 152 #[.slice A ds.length c] w fun e w' => e = .returned (.int .i64 (fNZ ds)) ∧ w = w' := by
  have HX := hide h1; clear h1
  go_enter Try.func152, Try.ntmps152
  go_wp2_with fail
  go_loopg [8] ds.length (fun g i wr => ∃ k : Nat, k ≤ ds.length ∧ Hid (g = ds.length - k) ∧ i = .int .i64 k ∧ Hid (fNZ ds = fNZ (ds.drop k)) ∧ w = wr)
  case atStart => exact ⟨0, by omega, by simp [Hid], rfl, by simp [Hid], rfl⟩
  case round =>
    obtain ⟨k, hk, hg, rfl, HS, rfl⟩ := hrel
    by_cases hlt : k < ds.length
    · obtain ⟨b1, o1, z1, rfl, _, hz1, hc1⟩ := HX.out.at_ hlt
      have HS' := HS.out; rw [fNZ_drop hz1] at HS'
      clear hz1
      by_cases hz : z1 = 0
      · subst hz
        have HQ := hide HS'; clear HS'
        go_wp2_with fail
        go_roundg (ds.length - (k + 1))
        case measure => have := hg.out; omega
        case rel => exact ⟨k + 1, by omega, rfl, by go_num, hide (by have := HQ.out; simpa using this), rfl⟩
      · have hne : (z1 != 0) = true := by simp [hz]
        have HQ := hide (HS'.trans (if_neg hz)); clear HS'
        go_wp2_with fail
        go_ret
        exact ⟨by rw [HQ.out]; rfl, rfl⟩
    · have HQ := hide (HS.out.trans (show fNZ (ds.drop k) = 0 by rw [List.drop_eq_nil_of_le (by omega), fNZ]))
      go_wp2_with fail
      go_ret
      exact ⟨by rw [HQ.out]; rfl, rfl⟩
set_option maxRecDepth 100000 in
set_option maxHeartbeats 4000000 in
theorem spansIn1_any (a b : T3) (w : World) : Calls Try.prog 151 #[.agg #[.int .i64 a.a, .int .i64 a.b, .int .i64 a.c], .agg #[.int .i64 b.a, .int .i64 b.b, .int .i64 b.c]] w fun e w' => e = .returned (.int .i64 (cmpT a b)) ∧ ∃ q os', w' = Go.Sort.grow (w.drewN q) os' := by
  have k0 : ((w.alloc (.cells #[.int .i64 a.a, .int .i64 a.b, .int .i64 a.c] 141)).alloc (.cells #[.int .i64 b.a, .int .i64 b.b, .int .i64 b.c] 141)).cell? ⟨w.heap.size, 1, none⟩ = some (.int .i64 a.b) := by simp [go_sem]
  have k1 : ((w.alloc (.cells #[.int .i64 a.a, .int .i64 a.b, .int .i64 a.c] 141)).alloc (.cells #[.int .i64 b.a, .int .i64 b.b, .int .i64 b.c] 141)).cell? ⟨w.heap.size, 2, none⟩ = some (.int .i64 a.c) := by simp [go_sem]
  have k2 : ((w.alloc (.cells #[.int .i64 a.a, .int .i64 a.b, .int .i64 a.c] 141)).alloc (.cells #[.int .i64 b.a, .int .i64 b.b, .int .i64 b.c] 141)).cell? ⟨w.heap.size + 1, 1, none⟩ = some (.int .i64 b.b) := by simp [go_sem]
  have k3 : ((w.alloc (.cells #[.int .i64 a.a, .int .i64 a.b, .int .i64 a.c] 141)).alloc (.cells #[.int .i64 b.a, .int .i64 b.b, .int .i64 b.c] 141)).cell? ⟨w.heap.size + 1, 2, none⟩ = some (.int .i64 b.c) := by simp [go_sem]
  have z0 : w.heap.size + 2 ≤ ((w.alloc (.cells #[.int .i64 a.a, .int .i64 a.b, .int .i64 a.c] 141)).alloc (.cells #[.int .i64 b.a, .int .i64 b.b, .int .i64 b.c] 141)).heap.size := by simp
  go_enter Try.func151, Try.ntmps151
  go_wp2_with fail
  generalize hw0 : ((w.alloc (.cells #[.int .i64 a.a, .int .i64 a.b, .int .i64 a.c] 141)).alloc (.cells #[.int .i64 b.a, .int .i64 b.b, .int .i64 b.c] 141)) = w0 at *
  have HW0 := hide hw0
  clear hw0
  have e0 : w0.drew.cell? ⟨w.heap.size, 1, none⟩ = some (.int .i64 a.b) := k0
  have e1 : w0.drew.cell? ⟨w.heap.size, 2, none⟩ = some (.int .i64 a.c) := k1
  have e2 : w0.drew.cell? ⟨w.heap.size + 1, 1, none⟩ = some (.int .i64 b.b) := k2
  have e3 : w0.drew.cell? ⟨w.heap.size + 1, 2, none⟩ = some (.int .i64 b.c) := k3
  have zd : w.heap.size + 2 ≤ w0.drew.heap.size := z0
  have g0 : (w0.alloc (.cells #[.int .i64 (cmpS a.b b.b), .int .i64 (cmpS a.c b.c)] 3)).drew.cell? ⟨w.heap.size, 1, none⟩ = some (.int .i64 a.b) := (World.cell?_alloc_old _ _ _ (by dsimp only; omega)).trans e0
  have g1 : (w0.alloc (.cells #[.int .i64 (cmpS a.b b.b), .int .i64 (cmpS a.c b.c)] 3)).drew.cell? ⟨w.heap.size, 2, none⟩ = some (.int .i64 a.c) := (World.cell?_alloc_old _ _ _ (by dsimp only; omega)).trans e1
  have g2 : (w0.alloc (.cells #[.int .i64 (cmpS a.b b.b), .int .i64 (cmpS a.c b.c)] 3)).drew.cell? ⟨w.heap.size + 1, 1, none⟩ = some (.int .i64 b.b) := (World.cell?_alloc_old _ _ _ (by dsimp only; omega)).trans e2
  have g3 : (w0.alloc (.cells #[.int .i64 (cmpS a.b b.b), .int .i64 (cmpS a.c b.c)] 3)).drew.cell? ⟨w.heap.size + 1, 2, none⟩ = some (.int .i64 b.c) := (World.cell?_alloc_old _ _ _ (by dsimp only; omega)).trans e3
  have rd : RdI (w0.alloc (.cells #[.int .i64 (cmpS a.b b.b), .int .i64 (cmpS a.c b.c)] 3)).drew (w0.alloc (.cells #[.int .i64 (cmpS a.b b.b), .int .i64 (cmpS a.c b.c)] 3)).drew.heap.size (some ⟨w0.heap.size, 0, none⟩) [cmpS a.b b.b, cmpS a.c b.c] := ((rd_new w0 [.int .i64 (cmpS a.b b.b), .int .i64 (cmpS a.c b.c)] 3 _ rfl).more (by simp))
  have hl : [cmpS a.b b.b, cmpS a.c b.c].length ≤ 1048576 := by simp
  have hor := spOr_any [cmpS a.b b.b, cmpS a.c b.c] (some ⟨w0.heap.size, 0, none⟩) 2 _ hl rd
  change Calls _ _ #[.slice (some ⟨w0.heap.size, 0, none⟩) 2 2] _ _ at hor
  have hfin : ∃ q os', (w0.alloc (.cells #[.int .i64 (cmpS a.b b.b), .int .i64 (cmpS a.c b.c)] 3)).drew = Go.Sort.grow (w.drewN q) os' := ⟨1, _, by rw [← HW0.out, Go.Sort.alloc_eq_grow, Go.Sort.alloc_eq_grow, Go.Sort.alloc_eq_grow, Go.Sort.grow_grow, Go.Sort.grow_grow]; rfl⟩
  have HF := hide hfin
  clear hfin
  go_region_held3 (fun W => W.cell? ⟨w.heap.size, 1, none⟩ = some (.int .i64 a.b) ∧ W.cell? ⟨w.heap.size, 2, none⟩ = some (.int .i64 a.c) ∧ W.cell? ⟨w.heap.size + 1, 1, none⟩ = some (.int .i64 b.b) ∧ W.cell? ⟨w.heap.size + 1, 2, none⟩ = some (.int .i64 b.c))
    (first | exact ⟨e0, e1, e2, e3⟩ | exact ⟨g0, g1, g2, g3⟩)
    (first | (go_at_call 153; refine (spCompare_any _ _ _).mono ?_; rintro e w' ⟨rfl, rfl⟩) | (go_at_call 152; (with_reducible refine hor.mono ?_); rintro e w' ⟨rfl, rfl⟩))
  go_wp2_with fail
  go_ret
  exact ⟨rfl, HF.out⟩
theorem perm_of {d d' : Array T3} (h : Go.Sort.PermIn 0 d.size d d') : d'.size = d.size ∧ d'.toList.Perm d.toList := by
  obtain ⟨h1, _, h3⟩ := h
  refine ⟨h1, ?_⟩
  have e1 : d.extract 0 d.size = d := by simp
  have e2 : d'.extract 0 d.size = d' := by rw [← h1]; simp
  rw [e1, e2] at h3
  exact h3
theorem sorted_of {d : Array T3} {n : Nat} (hn : d.size = n) (h : Go.Sort.SortedIn (Go.Proofs.ltOf cmpT) 0 n d) : d.toList.Pairwise (fun x y => ltT y x = false) := by
  rw [List.pairwise_iff_getElem]
  intro i j hi hj hij
  have hj' : j < d.size := by simpa using hj
  have hi' : i < d.size := by simpa using hi
  have := h i j (Nat.zero_le _) hij (by omega)
  rw [lt_cmpT, getElem!_pos d j hj', getElem!_pos d i hi'] at this
  simpa using this
set_option maxRecDepth 100000 in
set_option maxHeartbeats 4000000 in
theorem sortSpan_any (L : List T3) (base g n cap : Nat) (w : World) (hown : w.ownsRow base 141 3 (.slice (some ⟨g, 0, none⟩) n cap) n (L.flatMap T3.cells)) (hn : n ≤ 1000000) :
    Calls Try.prog 150 #[.slice (some ⟨g, 0, none⟩) n cap, .func (.func 151) #[] #[]] w fun e w' => e = .returned (.tuple #[]) ∧ ∃ L' : List T3, L'.Perm L ∧ L'.Pairwise (fun x y => ltT y x = false) ∧ w'.ownsRow base 141 3 (.slice (some ⟨g, 0, none⟩) n cap) n (L'.flatMap T3.cells) ∧ Below base w w' := by
  have hll : L.length = n := by
    have := hown.1
    rw [flatMap_len T3.cells 3 (fun _ => rfl)] at this
    omega
  have hg := hown.lt g rfl
  have eg : ∀ args w, (callFunc 151 args).run Try.prog w = .ok (.enter 151 args) w := callFunc_gen (P := Try.prog) (F := 151) Try.func151 (by kernel_rfl) (by kernel_rfl)
  have hH : Go.Sort.HoldsK T3.cells 3 w g 0 L.toArray := by
    unfold Go.Sort.HoldsK
    rw [flat3]
    exact own_holds hown
  have hcmp : Go.Proofs.CmpLays Try.prog 151 #[] T3.cells 3 cmpT g 0 L.toArray.size w := fun m os dk _ x y => spansIn1_any x y _
  have hcon := Go.Proofs.AnyQ.slices_SortFunc sortSpan 3 Try.isAgg141 Try.sizeOf141 T3.cells (fun _ => rfl) (fun x v hv => by simp [T3.cells] at hv; rcases hv with rfl | rfl | rfl <;> rfl) cmpT swoT 151 #[] g 0 cap L.toArray w eg hcmp hH hg.2 (by simp; omega)
  have hs : L.toArray.size = n := by simpa using hll
  rw [hs] at hcon
  refine Calls.mono hcon ?_
  rintro e w' ⟨rfl, d', m, os, hp, hsd, rfl⟩
  rw [← hs] at hp
  obtain ⟨hp1, hp2⟩ := perm_of hp
  refine ⟨rfl, d'.toList, by simpa using hp2, sorted_of (by omega) hsd, ?_, ?_⟩
  · unfold Go.Proofs.sortWorldK Go.Sort.putRowK
    have hf : Go.Sort.flatK T3.cells 3 d' = (d'.toList.flatMap T3.cells).toArray := by rw [← flat3]
    rw [hf]
    exact own_grow os (own_put hown (by rw [flatMap_len T3.cells 3 (fun _ => rfl)]; simp; omega))
  · unfold Go.Proofs.sortWorldK Go.Sort.putRowK
    exact below_grow (Go.Lib.below_putRow (Below.refl _ _) hg.1) (by simp [Go.Sort.putRow, Go.Sort.mapBlock, Go.Sort.ahead]; omega) os
end Go.Proofs.Ytflbddfmhjlknaa
