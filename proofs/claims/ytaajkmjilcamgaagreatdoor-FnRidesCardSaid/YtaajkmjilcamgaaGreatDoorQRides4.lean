/-
  The laws' words and helpers for lists whose elements hold a list of numbers, by contract.
  Rides in the program: valid ones, ticks, speeds.
  Rides in the program: the slowest one, catching up.
  Rides in the program: the place after some ticks.
-/
import Derived.Test.YtaajkmjilcamgaaGreatDoorQRides3
import Derived.Test.YtaajkmjilcamgaaGreatDoorQRides1
import Derived.Deep.RegionHeld3
import Derived.Test.YtaajkmjilcamgaaGreatDoorQRides2
import Derived.Deep.DeepCutAuto
namespace Go.Proofs.YtaajkmjilcamgaaGreatDoor
open Go.RowKit

def BoxN (w : World) (b : Nat) (cs : Array Value) (e : TypeId) : Prop := w.heap[b]? = some (.cells cs e (0, 0))
theorem BoxN.new (w : World) (cs : Array Value) (e : TypeId) : BoxN (w.alloc (.cells cs e)) w.heap.size cs e := heap_alloc_new w _
theorem BoxN.lt {w : World} {b : Nat} {cs : Array Value} {e : TypeId} (h : BoxN w b cs e) : b < w.heap.size := lt_of_block h
theorem BoxN.alloc {w : World} {b : Nat} {cs : Array Value} {e : TypeId} (h : BoxN w b cs e) (o : Obj) : BoxN (w.alloc o) b cs e := by
  have := h.lt
  unfold BoxN at *
  rw [heap_alloc_old _ _ this]; exact h
theorem BoxN.below {w w' : World} {b B : Nat} {cs : Array Value} {e : TypeId} (h : BoxN w b cs e) (k : Below B w w') (hb : b < B) : BoxN w' b cs e := (k.block b hb).trans h
theorem BoxN.cell {w : World} {b : Nat} {cs : Array Value} {e : TypeId} (h : BoxN w b cs e) (j : Nat) : w.cell? ⟨b, j, none⟩ = cs.toList[j]? := by
  rw [cell_of_row w b j cs e (0, 0) h]; simp
theorem BoxN.fro {w : World} {b : Nat} {cs : Array Value} {e : TypeId} (h : BoxN w b cs e) (j : Nat) : w.frozen? ⟨b, j, none⟩ = false := frozen_of_row w b j cs e h
theorem BoxN.set {w : World} {b : Nat} {cs : Array Value} {e : TypeId} (h : BoxN w b cs e) (j : Nat) (v : Value) : BoxN (w.setCell ⟨b, j, none⟩ v) b (cs.setIfInBounds j v) e := by
  unfold BoxN at *
  simp [World.setCell, Array.getElem?_modify, h]
theorem BoxN.other {w : World} {b b' : Nat} {cs : Array Value} {e : TypeId} (h : BoxN w b cs e) (hne : b' ≠ b) (j : Nat) (v : Value) : BoxN (w.setCell ⟨b', j, none⟩ v) b cs e := by
  unfold BoxN at *
  rw [heap_setCell_other _ ⟨b', j, none⟩ _ v (Ne.symm hne)]; exact h
theorem onlyN_set {w : World} {b j lo hi : Nat} {v : Value} (h1 : lo ≤ b) (h2 : b < hi) : Only lo hi w (w.setCell ⟨b, j, none⟩ v) :=
  ⟨rfl, rfl, rfl, by simp, fun k _ ho => heap_setCell_other w ⟨b, j, none⟩ _ v (by simp; omega)⟩
def sizeN (x : List TN) : Nat := x.length + (x.map fun e => e.way.length).sum
def LenN (x : List TN) : Prop := x.length ≤ 9223372036854775807 ∧ ∀ e ∈ x, e.way.length ≤ 9223372036854775807
theorem smallN {x : List TN} (h : (sizeN x : Int) ≤ 1048576) : SmallN x := by unfold sizeN at h; unfold SmallN; omega
def zp : Value × TN := (.slice none 0 0, ⟨[], 0, 0⟩)
theorem nest_len {m n k : Nat} {ps : List (Value × TN)} (h : ps.length = k) (hk : k ≤ n) : (ps ++ List.replicate (n - k) zp).length = n := by simp; omega
theorem nest_get {n k : Nat} {ps : List (Value × TN)} (h : ps.length = k) (hk : k < n) : (ps ++ List.replicate (n - k) zp)[k]? = some zp := by
  rw [List.getElem?_append_right (by omega), List.getElem?_replicate, if_pos (by omega)]
theorem nest_set {n k : Nat} {ps : List (Value × TN)} (h : ps.length = k) (hk : k < n) (p : Value × TN) : (ps ++ List.replicate (n - k) zp).set k p = (ps ++ [p]) ++ List.replicate (n - (k + 1)) zp := by
  rw [List.set_append_right _ _ (by omega), h, Nat.sub_self, show n - k = (n - (k + 1)) + 1 by omega, List.replicate_succ, List.set_cons_zero, List.append_assoc]; rfl
theorem set_set_same {α : Type} (xs : List α) (k : Nat) (a b : α) : (xs.set k a).set k b = xs.set k b := by simp
theorem store1 {L : List (Value × TN)} {k : Nat} {y : Value × TN} (h : L[k]? = some y) (sv : Value) (e : TN) : ((L.flatMap (Nc 1)).set (k * 2) sv).set (k * 2 + 1) (.int .i64 e.p) = (L.set k (sv, e)).flatMap (Nc 1) := by
  have h1 := flatMap_set (Nc 1) 2 (fun _ => rfl) L k 0 y (sv, y.2) sv h (by omega) rfl
  rw [Nat.add_zero] at h1
  have h2 := flatMap_set (Nc 1) 2 (fun _ => rfl) (L.set k (sv, y.2)) k 1 (sv, y.2) (sv, e) (.int .i64 e.p) (List.getElem?_set_self (lt_of_get h)) (by omega) rfl
  rw [h1, h2, set_set_same]
theorem store2 {L : List (Value × TN)} {k : Nat} {y : Value × TN} (h : L[k]? = some y) (sv : Value) (e : TN) : (((L.flatMap (Nc 2)).set (k * 3) sv).set (k * 3 + 1) (.int .i64 e.p)).set (k * 3 + 2) (.int .i64 e.q) = (L.set k (sv, e)).flatMap (Nc 2) := by
  have h1 := flatMap_set (Nc 2) 3 (fun _ => rfl) L k 0 y (sv, y.2) sv h (by omega) rfl
  rw [Nat.add_zero] at h1
  have h2 := flatMap_set (Nc 2) 3 (fun _ => rfl) (L.set k (sv, y.2)) k 1 (sv, y.2) (sv, ⟨y.2.way, e.p, y.2.q⟩) (.int .i64 e.p) (List.getElem?_set_self (lt_of_get h)) (by omega) rfl
  have h3 := flatMap_set (Nc 2) 3 (fun _ => rfl) ((L.set k (sv, y.2)).set k (sv, ⟨y.2.way, e.p, y.2.q⟩)) k 2 (sv, ⟨y.2.way, e.p, y.2.q⟩) (sv, e) (.int .i64 e.q) (List.getElem?_set_self (by rw [List.length_set]; exact lt_of_get h)) (by omega) rfl
  rw [h1, h2, h3, set_set_same, set_set_same]
theorem store0 {L : List (Value × TN)} {k : Nat} {y : Value × TN} (h : L[k]? = some y) (sv : Value) (e : TN) : (L.flatMap (Nc 0)).set (k * 1) sv = (L.set k (sv, e)).flatMap (Nc 0) := by
  have h1 := flatMap_set (Nc 0) 1 (fun _ => rfl) L k 0 y (sv, e) sv h (by omega) rfl
  rw [Nat.add_zero] at h1
  exact h1
theorem szF_add {n k : Nat} {l : Int} (h : (n : Int) ≤ l) : szF (n + k) l = szF k (l - n) := by unfold szF; split <;> split <;> omega

end Go.Proofs.YtaajkmjilcamgaaGreatDoor
namespace Go.Proofs.YtaajkmjilcamgaaGreatDoor
open Go.RowKit
theorem mul_bd {a b m n : Int} (h1 : 0 ≤ a) (h2 : a ≤ m) (h3 : 0 ≤ b) (h4 : b ≤ n) : 0 ≤ a * b ∧ a * b ≤ m * n := ⟨Int.mul_nonneg h1 h3, Int.mul_le_mul h2 h4 h3 (by omega)⟩
theorem wrap_in {a : Int} (h1 : -9223372036854775808 ≤ a) (h2 : a ≤ 9223372036854775807) : IntKind.i64.wrap a = a := by rw [IntKind.wrap_i64]; omega
theorem okR_bd {x : T4} (h : okR x = true) : (1 ≤ x.a ∧ x.a ≤ 2000) ∧ (0 ≤ x.b ∧ x.b ≤ 500) ∧ (1 ≤ x.c ∧ x.c ≤ 100) ∧ (0 ≤ x.d ∧ x.d ≤ 40) := okR_iff.1 h
set_option maxRecDepth 100000 in
set_option maxHeartbeats 4000000 in
theorem implValidRide_any (x : T4) (w : World) :
    Calls Tryz.prog 32 #[.agg #[.int .i64 x.a, .int .i64 x.b, .int .i64 x.c, .int .i64 x.d]] w fun e w' => e = .returned (.bool (okR x)) ∧ Below w.heap.size w w' := by
  by_cases h1 : 1 ≤ x.a ∧ x.a ≤ 2000
  case neg =>
    have h1' : x.a < 1 ∨ 2000 < x.a := by omega
    have HK := hide (show okR x = false by simp [okR, inB_f h1'])
    clear h1
    go_enter Tryz.func32, Tryz.ntmps32
    go_wp2_with (go_at_call 67; first | (refine (within_t _ _ _ _ (by omega)).mono ?_; rintro e w' ⟨rfl, rfl⟩) | (refine (within_f _ _ _ _ (by omega)).mono ?_; rintro e w' ⟨rfl, rfl⟩))
    go_ret
    exact ⟨ret_b HK.out.symm, (by repeat (first | exact Below.refl _ _ | assumption | (refine Below.alloc ?_ (by simp <;> omega) _) | refine Below.drew ?_ | refine bdn ?_ _))⟩
  by_cases h2 : 0 ≤ x.b ∧ x.b ≤ 500
  case neg =>
    have h2' : x.b < 0 ∨ 500 < x.b := by omega
    have HK := hide (show okR x = false by simp [okR, inB_f h2'])
    clear h2
    obtain ⟨h1, h1'⟩ := h1
    go_enter Tryz.func32, Tryz.ntmps32
    go_wp2_with (go_at_call 67; first | (refine (within_t _ _ _ _ (by omega)).mono ?_; rintro e w' ⟨rfl, rfl⟩) | (refine (within_f _ _ _ _ (by omega)).mono ?_; rintro e w' ⟨rfl, rfl⟩))
    go_ret
    exact ⟨ret_b HK.out.symm, (by repeat (first | exact Below.refl _ _ | assumption | (refine Below.alloc ?_ (by simp <;> omega) _) | refine Below.drew ?_ | refine bdn ?_ _))⟩
  by_cases h3 : 1 ≤ x.c ∧ x.c ≤ 100
  case neg =>
    have h3' : x.c < 1 ∨ 100 < x.c := by omega
    have HK := hide (show okR x = false by simp [okR, inB_f h3'])
    clear h3
    obtain ⟨h1, h1'⟩ := h1; obtain ⟨h2, h2'⟩ := h2
    go_enter Tryz.func32, Tryz.ntmps32
    go_wp2_with (go_at_call 67; first | (refine (within_t _ _ _ _ (by omega)).mono ?_; rintro e w' ⟨rfl, rfl⟩) | (refine (within_f _ _ _ _ (by omega)).mono ?_; rintro e w' ⟨rfl, rfl⟩))
    go_ret
    exact ⟨ret_b HK.out.symm, (by repeat (first | exact Below.refl _ _ | assumption | (refine Below.alloc ?_ (by simp <;> omega) _) | refine Below.drew ?_ | refine bdn ?_ _))⟩
  by_cases h4 : 0 ≤ x.d ∧ x.d ≤ 40
  case neg =>
    have h4' : x.d < 0 ∨ 40 < x.d := by omega
    have HK := hide (show okR x = false by simp [okR, inB_f h4'])
    clear h4
    obtain ⟨h1, h1'⟩ := h1; obtain ⟨h2, h2'⟩ := h2; obtain ⟨h3, h3'⟩ := h3
    go_enter Tryz.func32, Tryz.ntmps32
    go_wp2_with (go_at_call 67; first | (refine (within_t _ _ _ _ (by omega)).mono ?_; rintro e w' ⟨rfl, rfl⟩) | (refine (within_f _ _ _ _ (by omega)).mono ?_; rintro e w' ⟨rfl, rfl⟩))
    go_ret
    exact ⟨ret_b HK.out.symm, (by repeat (first | exact Below.refl _ _ | assumption | (refine Below.alloc ?_ (by simp <;> omega) _) | refine Below.drew ?_ | refine bdn ?_ _))⟩
  have HK := hide (show okR x = true from okR_iff.2 ⟨h1, h2, h3, h4⟩)
  obtain ⟨h1, h1'⟩ := h1; obtain ⟨h2, h2'⟩ := h2; obtain ⟨h3, h3'⟩ := h3; obtain ⟨h4, h4'⟩ := h4
  go_enter Tryz.func32, Tryz.ntmps32
  go_wp2_with (go_at_call 67; first | (refine (within_t _ _ _ _ (by omega)).mono ?_; rintro e w' ⟨rfl, rfl⟩) | (refine (within_f _ _ _ _ (by omega)).mono ?_; rintro e w' ⟨rfl, rfl⟩))
  go_ret
  exact ⟨ret_b HK.out.symm, (by repeat (first | exact Below.refl _ _ | assumption | (refine Below.alloc ?_ (by simp <;> omega) _) | refine Below.drew ?_ | refine bdn ?_ _))⟩
theorem drag_any (x : T4) (w : World) (h : okR x = true) :
    Calls Tryz.prog 53 #[.agg #[.int .i64 x.a, .int .i64 x.b, .int .i64 x.c, .int .i64 x.d]] w fun e w' => e = .returned (.int .i64 (denR x)) ∧ Below w.heap.size w w' := by
  obtain ⟨⟨a1, a2⟩, ⟨b1, b2⟩, ⟨c1, c2⟩, d1, d2⟩ := okR_bd h
  clear h
  go_enter Tryz.func53, Tryz.ntmps53
  go_wp2_with fail
  go_ret
  exact ⟨ret_i (by unfold denR; first | rfl | (simp only [IntKind.wrap_i64]; omega)), (by repeat (first | exact Below.refl _ _ | assumption | (refine Below.alloc ?_ (by simp <;> omega) _) | refine Below.drew ?_ | refine bdn ?_ _))⟩
theorem roundedUp_any (n d : Int) (w : World) (h1 : 0 ≤ n) (h2 : n ≤ 1000000000000) (h3 : 1 ≤ d) (h4 : d ≤ 1000000000000) :
    Calls Tryz.prog 85 #[.int .i64 n, .int .i64 d] w fun e w' => e = .returned (.int .i64 ((n + d - 1) / d)) ∧ w = w' := by
  have h5 : (n + d - 1).tdiv d = (n + d - 1) / d := Int.tdiv_eq_ediv_of_nonneg (by omega)
  have h6 : (n + d - 1) / d ≤ n + d - 1 := Int.ediv_le_self _ (by omega)
  have h7 : 0 ≤ (n + d - 1) / d := Int.ediv_nonneg (by omega) (by omega)
  have h8 : ¬ (d = 0) := by omega
  have e1 : IntKind.i64.wrap (n + d) = n + d := wrap_in (by omega) (by omega)
  have e2 : IntKind.i64.wrap (n + d - 1) = n + d - 1 := wrap_in (by omega) (by omega)
  have e3 : IntKind.i64.wrap ((n + d - 1).tdiv d) = (n + d - 1) / d := by rw [h5]; exact wrap_in (by omega) (by omega)
  clear h5 h6 h7
  go_enter Tryz.func85, Tryz.ntmps85
  go_wp2_with fail
  go_ret
  exact ⟨rfl, rfl⟩
theorem ticks_any (x : T4) (w : World) (h : okR x = true) :
    Calls Tryz.prog 49 #[.agg #[.int .i64 x.a, .int .i64 x.b, .int .i64 x.c, .int .i64 x.d]] w fun e w' => e = .returned (.int .i64 (ticksR x)) ∧ Below w.heap.size w w' := by
  obtain ⟨⟨a1, a2⟩, ⟨b1, b2⟩, ⟨c1, c2⟩, d1, d2⟩ := okR_bd h
  obtain ⟨n1, n2⟩ := denR_pos h
  have HD := hide fun W => drag_any x W h
  have HT := hide (show ticksR x = (x.a * denR x + 100 * x.c - 1) / (100 * x.c) from rfl)
  generalize denR x = dn at *
  obtain ⟨m1, m2⟩ := mul_bd (a := x.a) (b := dn) (m := 2000) (n := 1000) (by omega) a2 (by omega) n2
  have e1 : IntKind.i64.wrap (x.a * dn) = x.a * dn := wrap_in (by omega) (by omega)
  have e2 : IntKind.i64.wrap (100 * x.c) = 100 * x.c := wrap_in (by omega) (by omega)
  have HR := hide fun W => roundedUp_any (x.a * dn) (100 * x.c) W m1 (by omega) (by omega) (by omega)
  have X0 := hide (BoxN.new w #[.int .i64 x.a, .int .i64 x.b, .int .i64 x.c, .int .i64 x.d] 44)
  have b0 : Below w.heap.size w (w.alloc (.cells #[.int .i64 x.a, .int .i64 x.b, .int .i64 x.c, .int .i64 x.d] 44)) := (by repeat (first | exact Below.refl _ _ | assumption | (refine Below.alloc ?_ (by simp <;> omega) _) | refine Below.drew ?_ | refine bdn ?_ _))
  have B0 := hide b0
  have z0 := X0.out.lt
  clear h b0
  go_enter Tryz.func49, Tryz.ntmps49
  go_upto_region 1 with fail
  generalize w.alloc (.cells #[.int .i64 x.a, .int .i64 x.b, .int .i64 x.c, .int .i64 x.d] 44) = w1 at *
  have XD := hide (X0.out.below (Below.refl _ _).drew z0)
  have BD : Hid (Below w.heap.size w w1.drew) := B0.out.drew
  have zd : w.heap.size < w1.drew.heap.size := z0
  refine wp_region_held_drew (S := fun W => W.cell? ⟨w.heap.size, 0, none⟩ = some (.int .i64 x.a) ∧ W.cell? ⟨w.heap.size, 1, none⟩ = some (.int .i64 x.b) ∧ W.cell? ⟨w.heap.size, 2, none⟩ = some (.int .i64 x.c) ∧ W.cell? ⟨w.heap.size, 3, none⟩ = some (.int .i64 x.d)) (by kernel_rfl) (⟨XD.out.cell 0, XD.out.cell 1, XD.out.cell 2, XD.out.cell 3⟩) (fun hHeld => ?_)
  generalize w1.drew = wd at *
  refine wpAnyH_take (i := 0) (v := ?_) rfl (by kernel_rfl) (by kernel_rfl) (by kernel_rfl) (fun _ _ _ h => h) (Or.inl ⟨by rfl, ?_⟩) (by assumption) ?_
  rotate_left 1
  · (intro w hSw; (try dsimp only at hSw); go_simp; try with_reducible rfl)
  try simp only [Act.put, List.getElem_toArray, List.getElem_cons_succ, List.getElem_cons_zero, List.setIfInBounds_toArray, List.set_cons_zero, List.set_cons_succ]
  refine wpAnyH_take (i := 1) (v := ?_) rfl (by kernel_rfl) (by kernel_rfl) (by kernel_rfl) (fun _ _ _ h => h) (Or.inl ⟨by rfl, ?_⟩) (by assumption) ?_
  rotate_left 1
  · (intro w hSw; (try dsimp only at hSw); go_simp; try with_reducible rfl)
  try simp only [Act.put, List.getElem_toArray, List.getElem_cons_succ, List.getElem_cons_zero, List.setIfInBounds_toArray, List.set_cons_zero, List.set_cons_succ]
  refine wpAnyH_take (i := 2) (v := ?_) rfl (by kernel_rfl) (by kernel_rfl) (by kernel_rfl) (fun _ _ _ h => h) (Or.inl ⟨by rfl, ?_⟩) (by assumption) ?_
  rotate_left 1
  · (intro w hSw; (try dsimp only at hSw); go_simp; try with_reducible rfl)
  try simp only [Act.put, List.getElem_toArray, List.getElem_cons_succ, List.getElem_cons_zero, List.setIfInBounds_toArray, List.set_cons_zero, List.set_cons_succ]
  refine wpAnyH_take (i := 5) (v := ?_) rfl (by kernel_rfl) (by kernel_rfl) (by kernel_rfl) (fun _ _ _ h => h) (Or.inl ⟨by rfl, ?_⟩) (by assumption) ?_
  rotate_left 1
  · (intro w hSw; (try dsimp only at hSw); go_simp; try with_reducible rfl)
  try simp only [Act.put, List.getElem_toArray, List.getElem_cons_succ, List.getElem_cons_zero, List.setIfInBounds_toArray, List.set_cons_zero, List.set_cons_succ]
  refine wpAnyH_take (i := 6) (v := ?_) rfl (by kernel_rfl) (by kernel_rfl) (by kernel_rfl) (fun _ _ _ h => h) (Or.inl ⟨by rfl, ?_⟩) (by assumption) ?_
  rotate_left 1
  · (intro w hSw; (try dsimp only at hSw); go_simp; try with_reducible rfl)
  try simp only [Act.put, List.getElem_toArray, List.getElem_cons_succ, List.getElem_cons_zero, List.setIfInBounds_toArray, List.set_cons_zero, List.set_cons_succ]
  refine wpAnyH_take (i := 7) (v := ?_) rfl (by kernel_rfl) (by kernel_rfl) (by kernel_rfl) (fun _ _ _ h => h) (Or.inl ⟨by rfl, ?_⟩) (by assumption) ?_
  rotate_left 1
  · (intro w hSw; (try dsimp only at hSw); go_simp; try with_reducible rfl)
  try simp only [Act.put, List.getElem_toArray, List.getElem_cons_succ, List.getElem_cons_zero, List.setIfInBounds_toArray, List.set_cons_zero, List.set_cons_succ]
  refine wpAnyH_ready (rs := [3]) (by kernel_rfl) (by simp) ?_
  refine AllReadyH.cons rfl (fun K hK => ?_) AllReadyH.nil
  try simp only [Act.put, List.getElem_toArray, List.getElem_cons_succ, List.getElem_cons_zero, List.setIfInBounds_toArray, List.set_cons_zero, List.set_cons_succ]
  go_simp
  go_at_call 53
  refine (HD.out wd).mono ?_
  rintro e w2 ⟨rfl, s2⟩
  have X2 := hide (XD.out.below s2 zd)
  have B2 := hide (BD.out.trans (s2.mono BD.out.size))
  dsimp only
  refine hK.out _ _ (⟨X2.out.cell 0, X2.out.cell 1, X2.out.cell 2, X2.out.cell 3⟩) (fun hHeld => ?_)
  clear hK K
  try simp only [Act.put, List.getElem_toArray, List.getElem_cons_succ, List.getElem_cons_zero, List.setIfInBounds_toArray, List.set_cons_zero, List.set_cons_succ]
  refine wpAnyH_take (i := 4) (v := ?_) rfl (by kernel_rfl) (by kernel_rfl) (by kernel_rfl) (fun _ _ _ h => h) (Or.inl ⟨by rfl, ?_⟩) (by assumption) ?_
  rotate_left 1
  · (intro w hSw; (try dsimp only at hSw); go_simp; try with_reducible rfl)
  try simp only [Act.put, List.getElem_toArray, List.getElem_cons_succ, List.getElem_cons_zero, List.setIfInBounds_toArray, List.set_cons_zero, List.set_cons_succ]
  refine wpAnyH_ready (rs := [8]) (by kernel_rfl) (by simp) ?_
  refine AllReadyH.cons rfl (fun K hK => ?_) AllReadyH.nil
  try simp only [Act.put, List.getElem_toArray, List.getElem_cons_succ, List.getElem_cons_zero, List.setIfInBounds_toArray, List.set_cons_zero, List.set_cons_succ]
  go_simp
  go_at_call 85
  refine (HR.out w2).mono ?_
  rintro e w3 ⟨rfl, rfl⟩
  dsimp only
  refine hK.out _ _ (⟨X2.out.cell 0, X2.out.cell 1, X2.out.cell 2, X2.out.cell 3⟩) (fun hHeld => ?_)
  clear hK K
  try simp only [Act.put, List.getElem_toArray, List.getElem_cons_succ, List.getElem_cons_zero, List.setIfInBounds_toArray, List.set_cons_zero, List.set_cons_succ]
  refine wpAnyH_take (i := 9) (v := ?_) rfl (by kernel_rfl) (by kernel_rfl) (by kernel_rfl) (fun _ _ _ h => h) (Or.inl ⟨by rfl, ?_⟩) (by assumption) ?_
  rotate_left 1
  · (intro w hSw; (try dsimp only at hSw); go_simp; try with_reducible rfl)
  try simp only [Act.put, List.getElem_toArray, List.getElem_cons_succ, List.getElem_cons_zero, List.setIfInBounds_toArray, List.set_cons_zero, List.set_cons_succ]
  refine wpAnyH_done (by kernel_rfl) ?_ _
  go_wp2_with fail
  go_ret
  exact ⟨ret_i HT.out.symm, B2.out⟩
theorem implGcd_any (a b : Int) (w : World) (ha : 0 ≤ a) (ha2 : a ≤ 1000000000000000) (hb : 0 ≤ b) (hb2 : b ≤ 1000000000000000) :
    Calls Tryz.prog 87 #[.int .i64 a, .int .i64 b] w fun e w' => e = .returned (.int .i64 (Int.gcd a b : Nat)) ∧ Below w.heap.size w w' := by
  go_enter Tryz.func87, Tryz.ntmps87
  go_wp2_with fail
  go_loopg [0, 1] b.toNat (fun g x y wr => ∃ m n : Nat, x = .int .i64 m ∧ y = .int .i64 n ∧ Hid (g = n) ∧ (m : Int) ≤ 1000000000000000 ∧ (n : Int) ≤ 1000000000000000 ∧ Hid (Nat.gcd m n = Int.gcd a b) ∧ Below w.heap.size w wr)
  case atStart => exact ⟨a.toNat, b.toNat, by rw [Int.toNat_of_nonneg ha], by rw [Int.toNat_of_nonneg hb], rfl, by omega, by omega, by show Nat.gcd a.toNat b.toNat = Nat.gcd a.natAbs b.natAbs; rw [show a.natAbs = a.toNat by omega, show b.natAbs = b.toNat by omega], Below.refl _ _⟩
  case round =>
    obtain ⟨m, n, rfl, rfl, hg, hm, hn, HG, hB⟩ := hrel
    by_cases hz : n = 0
    · subst hz
      have e : Nat.gcd m 0 = m := Nat.gcd_zero_right m
      have HE := hide (HG.out.symm.trans e)
      clear e HG
      go_wp2_with fail
      go_ret
      exact ⟨ret_i (by rw [HE.out]; try omega), hB⟩
    · have hz' : ¬ ((n : Int) = 0) := by omega
      have hmod : m % n < n := Nat.mod_lt _ (by omega)
      have e1 : ((m : Int)).tmod (n : Int) = ((m % n : Nat) : Int) := by rw [Int.tmod_eq_emod_of_nonneg (by omega)]; rfl
      have e2 : IntKind.i64.wrap (((m : Int)).tmod (n : Int)) = ((m % n : Nat) : Int) := by rw [e1]; exact wrap_in (by omega) (by omega)
      have HN := hide (show Nat.gcd n (m % n) = Int.gcd a b by rw [← HG.out, Nat.gcd_comm m n, Nat.gcd_rec n m]; exact Nat.gcd_comm _ _)
      clear e1 HG
      go_upto_region 2 with fail
      have BD : Hid (Below w.heap.size w wr.drew) := hB.drew
      refine wp_region_held_drew (S := fun W => True) (by kernel_rfl) (trivial) (fun hHeld => ?_)
      generalize wr.drew = wd at *
      refine wpAnyH_take (i := 0) (v := ?_) rfl (by kernel_rfl) (by kernel_rfl) (by kernel_rfl) (fun _ _ _ h => h) (Or.inl ⟨by rfl, ?_⟩) (by assumption) ?_
      rotate_left 1
      · (intro w hSw; (try dsimp only at hSw); go_simp; try with_reducible rfl)
      try simp only [Act.put, List.getElem_toArray, List.getElem_cons_succ, List.getElem_cons_zero, List.setIfInBounds_toArray, List.set_cons_zero, List.set_cons_succ]
      refine wpAnyH_take (i := 1) (v := ?_) rfl (by kernel_rfl) (by kernel_rfl) (by kernel_rfl) (fun _ _ _ h => h) (Or.inl ⟨by rfl, ?_⟩) (by assumption) ?_
      rotate_left 1
      · (intro w hSw; (try dsimp only at hSw); go_simp; try with_reducible rfl)
      try simp only [Act.put, List.getElem_toArray, List.getElem_cons_succ, List.getElem_cons_zero, List.setIfInBounds_toArray, List.set_cons_zero, List.set_cons_succ]
      refine wpAnyH_take (i := 2) (v := ?_) rfl (by kernel_rfl) (by kernel_rfl) (by kernel_rfl) (fun _ _ _ h => h) (Or.inl ⟨by rfl, ?_⟩) (by assumption) ?_
      rotate_left 1
      · (intro w hSw; (try dsimp only at hSw); go_simp; try with_reducible rfl)
      try simp only [Act.put, List.getElem_toArray, List.getElem_cons_succ, List.getElem_cons_zero, List.setIfInBounds_toArray, List.set_cons_zero, List.set_cons_succ]
      refine wpAnyH_take (i := 3) (v := ?_) rfl (by kernel_rfl) (by kernel_rfl) (by kernel_rfl) (fun _ _ _ h => h) (Or.inl ⟨by rfl, ?_⟩) (by assumption) ?_
      rotate_left 1
      · (intro w hSw; (try dsimp only at hSw); go_simp; try with_reducible rfl)
      try simp only [Act.put, List.getElem_toArray, List.getElem_cons_succ, List.getElem_cons_zero, List.setIfInBounds_toArray, List.set_cons_zero, List.set_cons_succ]
      refine wpAnyH_take (i := 4) (v := ?_) rfl (by kernel_rfl) (by kernel_rfl) (by kernel_rfl) (fun _ _ _ h => h) (Or.inl ⟨by rfl, ?_⟩) (by assumption) ?_
      rotate_left 1
      · (intro w hSw; (try dsimp only at hSw); go_simp; try with_reducible rfl)
      try simp only [Act.put, List.getElem_toArray, List.getElem_cons_succ, List.getElem_cons_zero, List.setIfInBounds_toArray, List.set_cons_zero, List.set_cons_succ]
      refine wpAnyH_take (i := 5) (v := ?_) rfl (by kernel_rfl) (by kernel_rfl) (by kernel_rfl) (fun _ _ _ h => h) (Or.inl ⟨by rfl, ?_⟩) (by assumption) ?_
      rotate_left 1
      · (intro w hSw; (try dsimp only at hSw); go_simp; try with_reducible rfl)
      try simp only [Act.put, List.getElem_toArray, List.getElem_cons_succ, List.getElem_cons_zero, List.setIfInBounds_toArray, List.set_cons_zero, List.set_cons_succ]
      refine wpAnyH_done (by kernel_rfl) ?_ _
      go_wp2_with fail
      go_roundg (m % n)
      case measure => have := hg.out; omega
      case rel => exact ⟨n, m % n, rfl, rfl, rfl, hn, by omega, HN, BD.out⟩
theorem lowest_any (n d : Int) (w : World) (hn : 0 ≤ n) (hn2 : n ≤ 1000000000000000) (hd : 1 ≤ d) (hd2 : d ≤ 1000000000000000) :
    Calls Tryz.prog 52 #[.int .i64 n, .int .i64 d] w fun e w' => e = .returned (.agg #[.int .i64 (lowF n d).1, .int .i64 (lowF n d).2]) ∧ Below w.heap.size w w' := by
  have hg0 : Int.gcd n d ≠ 0 := by intro e; rw [Int.gcd_eq_zero_iff] at e; omega
  have HG := hide fun W => implGcd_any n d W hn hn2 (by omega) hd2
  have H1 := hide (show (lowF n d).1 = n / (Int.gcd n d : Int) from rfl)
  have H2 := hide (show (lowF n d).2 = d / (Int.gcd n d : Int) from rfl)
  generalize Int.gcd n d = g at *
  have t1 : n.tdiv (g : Int) = n / (g : Int) := Int.tdiv_eq_ediv_of_nonneg hn
  have t2 : d.tdiv (g : Int) = d / (g : Int) := Int.tdiv_eq_ediv_of_nonneg (by omega)
  have l1 : n / (g : Int) ≤ n := Int.ediv_le_self _ hn
  have l2 : d / (g : Int) ≤ d := Int.ediv_le_self _ (by omega)
  have l3 : 0 ≤ n / (g : Int) := Int.ediv_nonneg hn (by omega)
  have l4 : 0 ≤ d / (g : Int) := Int.ediv_nonneg (by omega) (by omega)
  have e1 : IntKind.i64.wrap (n.tdiv (g : Int)) = n / (g : Int) := by rw [t1]; exact wrap_in (by omega) (by omega)
  have e2 : IntKind.i64.wrap (d.tdiv (g : Int)) = d / (g : Int) := by rw [t2]; exact wrap_in (by omega) (by omega)
  have hg0' : ¬ ((g : Int) = 0) := by omega
  have X0 := hide (BoxN.new w #[.int .i64 0, .int .i64 0] 48)
  have b0 : Below w.heap.size w (w.alloc (.cells #[.int .i64 0, .int .i64 0] 48)) := (by repeat (first | exact Below.refl _ _ | assumption | (refine Below.alloc ?_ (by simp <;> omega) _) | refine Below.drew ?_ | refine bdn ?_ _))
  have B0 := hide b0
  have z0 := X0.out.lt
  clear b0 t1 t2 l1 l2 l3 l4
  go_enter Tryz.func52, Tryz.ntmps52
  go_upto_region 3 with fail
  generalize w.alloc (.cells #[.int .i64 0, .int .i64 0] 48) = w1 at *
  go_upto_region 4 with (go_at_call 87; refine (HG.out _).mono ?_; rintro e w2 ⟨rfl, s2⟩)
  have XD := hide ((X0.out.below s2 z0).below (Below.refl _ _).drew (Nat.lt_of_lt_of_le z0 s2.size))
  have BD : Hid (Below w.heap.size w w2.drew) := (B0.out.trans (s2.mono B0.out.size)).drew
  have T0 := hide (XD.out.set 0 (.int .i64 (n / (g : Int))))
  have T1 := hide (T0.out.set 1 (.int .i64 (d / (g : Int))))
  have m0 : w2.drew.cell? ⟨w.heap.size, 0, none⟩ = some (.int .i64 0) := XD.out.cell 0
  have n0 := XD.out.fro 0
  have m1 : (w2.drew.setCell ⟨w.heap.size, 0, none⟩ (.int .i64 (n / (g : Int)))).cell? ⟨w.heap.size, 1, none⟩ = some (.int .i64 0) := T0.out.cell 1
  have n1 := T0.out.fro 1
  have q0 : ((w2.drew.setCell ⟨w.heap.size, 0, none⟩ (.int .i64 (n / (g : Int)))).setCell ⟨w.heap.size, 1, none⟩ (.int .i64 (d / (g : Int)))).cell? ⟨w.heap.size, 0, none⟩ = some (.int .i64 (n / (g : Int))) := T1.out.cell 0
  have q1 : ((w2.drew.setCell ⟨w.heap.size, 0, none⟩ (.int .i64 (n / (g : Int)))).setCell ⟨w.heap.size, 1, none⟩ (.int .i64 (d / (g : Int)))).cell? ⟨w.heap.size, 1, none⟩ = some (.int .i64 (d / (g : Int))) := T1.out.cell 1
  refine wp_region_held_drew (S := fun W => True) (by kernel_rfl) (trivial) (fun hHeld => ?_)
  generalize w2.drew = wd at *
  refine wpAnyH_take (i := 0) (v := ?_) rfl (by kernel_rfl) (by kernel_rfl) (by kernel_rfl) (fun _ _ _ h => h) (Or.inl ⟨by rfl, ?_⟩) (by assumption) ?_
  rotate_left 1
  · (intro w hSw; (try dsimp only at hSw); go_simp; try with_reducible rfl)
  try simp only [Act.put, List.getElem_toArray, List.getElem_cons_succ, List.getElem_cons_zero, List.setIfInBounds_toArray, List.set_cons_zero, List.set_cons_succ]
  refine wpAnyH_take (i := 1) (v := ?_) rfl (by kernel_rfl) (by kernel_rfl) (by kernel_rfl) (fun _ _ _ h => h) (Or.inl ⟨by rfl, ?_⟩) (by assumption) ?_
  rotate_left 1
  · (intro w hSw; (try dsimp only at hSw); go_simp; try with_reducible rfl)
  try simp only [Act.put, List.getElem_toArray, List.getElem_cons_succ, List.getElem_cons_zero, List.setIfInBounds_toArray, List.set_cons_zero, List.set_cons_succ]
  refine wpAnyH_take (i := 2) (v := ?_) rfl (by kernel_rfl) (by kernel_rfl) (by kernel_rfl) (fun _ _ _ h => h) (Or.inl ⟨by rfl, ?_⟩) (by assumption) ?_
  rotate_left 1
  · (intro w hSw; (try dsimp only at hSw); go_simp; try with_reducible rfl)
  try simp only [Act.put, List.getElem_toArray, List.getElem_cons_succ, List.getElem_cons_zero, List.setIfInBounds_toArray, List.set_cons_zero, List.set_cons_succ]
  refine wpAnyH_take (i := 3) (v := ?_) rfl (by kernel_rfl) (by kernel_rfl) (by kernel_rfl) (fun _ _ _ h => h) (Or.inl ⟨by rfl, ?_⟩) (by assumption) ?_
  rotate_left 1
  · (intro w hSw; (try dsimp only at hSw); go_simp; try with_reducible rfl)
  try simp only [Act.put, List.getElem_toArray, List.getElem_cons_succ, List.getElem_cons_zero, List.setIfInBounds_toArray, List.set_cons_zero, List.set_cons_succ]
  refine wpAnyH_take (i := 4) (v := ?_) rfl (by kernel_rfl) (by kernel_rfl) (by kernel_rfl) (fun _ _ _ h => h) (Or.inl ⟨by rfl, ?_⟩) (by assumption) ?_
  rotate_left 1
  · (intro w hSw; (try dsimp only at hSw); go_simp; try with_reducible rfl)
  try simp only [Act.put, List.getElem_toArray, List.getElem_cons_succ, List.getElem_cons_zero, List.setIfInBounds_toArray, List.set_cons_zero, List.set_cons_succ]
  refine wpAnyH_take (i := 5) (v := ?_) rfl (by kernel_rfl) (by kernel_rfl) (by kernel_rfl) (fun _ _ _ h => h) (Or.inl ⟨by rfl, ?_⟩) (by assumption) ?_
  rotate_left 1
  · (intro w hSw; (try dsimp only at hSw); go_simp; try with_reducible rfl)
  try simp only [Act.put, List.getElem_toArray, List.getElem_cons_succ, List.getElem_cons_zero, List.setIfInBounds_toArray, List.set_cons_zero, List.set_cons_succ]
  refine wpAnyH_take (i := 6) (v := ?_) rfl (by kernel_rfl) (by kernel_rfl) (by kernel_rfl) (fun _ _ _ h => h) (Or.inl ⟨by rfl, ?_⟩) (by assumption) ?_
  rotate_left 1
  · (intro w hSw; (try dsimp only at hSw); go_simp; try with_reducible rfl)
  try simp only [Act.put, List.getElem_toArray, List.getElem_cons_succ, List.getElem_cons_zero, List.setIfInBounds_toArray, List.set_cons_zero, List.set_cons_succ]
  refine wpAnyH_ready (rs := [7]) (by kernel_rfl) (by simp) ?_
  refine AllReadyH.cons rfl (fun K hK => ?_) AllReadyH.nil
  try simp only [Act.put, List.getElem_toArray, List.getElem_cons_succ, List.getElem_cons_zero, List.setIfInBounds_toArray, List.set_cons_zero, List.set_cons_succ]
  go_simp
  refine hK.out _ _ (trivial) (fun hHeld => ?_)
  clear hK K
  try simp only [Act.put, List.getElem_toArray, List.getElem_cons_succ, List.getElem_cons_zero, List.setIfInBounds_toArray, List.set_cons_zero, List.set_cons_succ]
  refine wpAnyH_done (by kernel_rfl) ?_ _
  go_wp2_with fail
  refine bodyPost_ret (v := .agg #[.int .i64 (n / (g : Int)), .int .i64 (d / (g : Int))]) (by simp [results, Tryz.results52, go_sem, q0, q1]) rfl ⟨by rw [H1.out, H2.out], ?_⟩
  exact (BD.out.setCell (p := ⟨w.heap.size, 0, none⟩) (Nat.le_refl _) _).setCell (p := ⟨w.heap.size, 1, none⟩) (Nat.le_refl _) _
theorem implTicksCode_any (b : Bool) (t : Int) (w : World) :
    Calls Tryz.prog 58 #[.bool b, .int .i64 t] w fun e w' => e = .returned (.int .i64 (tickCode b t)) ∧ w = w' := by
  cases b
  · go_enter Tryz.func58, Tryz.ntmps58
    go_wp2_with (go_at_call 67; first | (refine (within_t _ _ _ _ (by omega)).mono ?_; rintro e w' ⟨rfl, rfl⟩) | (refine (within_f _ _ _ _ (by omega)).mono ?_; rintro e w' ⟨rfl, rfl⟩))
    go_ret
    exact ⟨rfl, rfl⟩
  · by_cases h : 0 ≤ t ∧ t ≤ 1000000
    · have HK := hide (show tickCode true t = 0 by unfold tickCode; rw [inB_t h]; rfl)
      obtain ⟨h1, h2⟩ := h
      go_enter Tryz.func58, Tryz.ntmps58
      go_wp2_with (go_at_call 67; first | (refine (within_t _ _ _ _ (by omega)).mono ?_; rintro e w' ⟨rfl, rfl⟩) | (refine (within_f _ _ _ _ (by omega)).mono ?_; rintro e w' ⟨rfl, rfl⟩))
      go_ret
      exact ⟨ret_i HK.out.symm, rfl⟩
    · have h' : t < 0 ∨ 1000000 < t := by omega
      have HK := hide (show tickCode true t = 2 by unfold tickCode; rw [inB_f h']; rfl)
      clear h
      go_enter Tryz.func58, Tryz.ntmps58
      go_wp2_with (go_at_call 67; first | (refine (within_t _ _ _ _ (by omega)).mono ?_; rintro e w' ⟨rfl, rfl⟩) | (refine (within_f _ _ _ _ (by omega)).mono ?_; rintro e w' ⟨rfl, rfl⟩))
      go_ret
      exact ⟨ret_i HK.out.symm, rfl⟩
theorem sumR_bd {xs : List T4} (h : ∀ x ∈ xs, okR x = true) : 0 ≤ sumR xs ∧ sumR xs ≤ xs.length * 2010000 := by
  refine ⟨sumR_nonneg h, ?_⟩
  induction xs with
  | nil => simp [sumR]
  | cons x xs ih =>
    have h1 := ih fun y hy => h y (List.mem_cons_of_mem _ hy)
    have h2 := h x (List.mem_cons_self ..)
    have h3 := okR_bd h2
    have h4 := denR_pos h2
    obtain ⟨_, m2⟩ := mul_bd (a := x.a) (b := denR x) (m := 2000) (n := 1000) (by omega) h3.1.2 (by omega) h4.2
    have h5 : ticksR x ≤ 2010000 := by
      unfold ticksR
      exact Int.le_trans (Int.ediv_le_self _ (by omega)) (by omega)
    rw [sumR_cons, List.length_cons]; omega
theorem ticksR_le {x : T4} (h : okR x = true) : ticksR x ≤ 2010000 := by
  have := (sumR_bd (xs := [x]) (fun y hy => by rw [List.mem_singleton] at hy; subst hy; exact h)).2
  simpa [sumR] using this
theorem sumR_drop {xs : List T4} {k : Nat} {x : T4} (h : xs[k]? = some x) : sumR (xs.drop k) = ticksR x + sumR (xs.drop (k + 1)) := by
  obtain ⟨hk, rfl⟩ := List.getElem?_eq_some_iff.1 h
  rw [List.drop_eq_getElem_cons hk, sumR_cons]
theorem sumR_take {xs : List T4} {k : Nat} {x : T4} (h : xs[k]? = some x) : sumR (xs.take (k + 1)) = sumR (xs.take k) + ticksR x := by
  obtain ⟨hk, rfl⟩ := List.getElem?_eq_some_iff.1 h
  rw [List.take_succ_eq_append_getElem hk]; unfold sumR; rw [List.map_append, List.sum_append]; simp
theorem implSpeedOf_any (x : T4) (w : World) (h : okR x = true) :
    Calls Tryz.prog 18 #[.agg #[.int .i64 x.a, .int .i64 x.b, .int .i64 x.c, .int .i64 x.d]] w fun e w' => e = .returned (.tuple #[.agg #[.int .i64 (speedOf x).1.1, .int .i64 (speedOf x).1.2], .int .i64 (speedOf x).2]) ∧ Below w.heap.size w w' := by
  obtain ⟨⟨a1, a2⟩, ⟨b1, b2⟩, ⟨c1, c2⟩, d1, d2⟩ := okR_bd h
  obtain ⟨n1, n2⟩ := denR_pos h
  have HV := hide fun W => implValidRide_any x W
  rw [h] at HV
  have HD := hide fun W => drag_any x W h
  have HK := hide (show speedOf x = (lowF (100 * x.c) (denR x), 0) by unfold speedOf; rw [if_neg (by simp [h])])
  generalize denR x = dn at *
  have HL := hide fun W => lowest_any (100 * x.c) dn W (by omega) (by omega) (by omega) (by omega)
  obtain ⟨f1, f2⟩ : ∃ f, f = lowF (100 * x.c) dn := ⟨_, rfl⟩
  rw [← f2] at HL HK
  clear f2
  have e2 : IntKind.i64.wrap (100 * x.c) = 100 * x.c := wrap_in (by omega) (by omega)
  have X0 := hide (show BoxN ((w.alloc (.cells #[.int .i64 x.a, .int .i64 x.b, .int .i64 x.c, .int .i64 x.d] 44)).alloc (.cells #[.int .i64 0, .int .i64 0] 48)) w.heap.size #[.int .i64 x.a, .int .i64 x.b, .int .i64 x.c, .int .i64 x.d] 44 from (BoxN.new w _ _).alloc _)
  have Y0 := hide (show BoxN ((w.alloc (.cells #[.int .i64 x.a, .int .i64 x.b, .int .i64 x.c, .int .i64 x.d] 44)).alloc (.cells #[.int .i64 0, .int .i64 0] 48)) (w.heap.size + 1) #[.int .i64 0, .int .i64 0] 48 by have h := BoxN.new (w.alloc (.cells #[.int .i64 x.a, .int .i64 x.b, .int .i64 x.c, .int .i64 x.d] 44)) #[.int .i64 0, .int .i64 0] 48; simpa using h)
  have b0 : Below w.heap.size w ((w.alloc (.cells #[.int .i64 x.a, .int .i64 x.b, .int .i64 x.c, .int .i64 x.d] 44)).alloc (.cells #[.int .i64 0, .int .i64 0] 48)) := (by repeat (first | exact Below.refl _ _ | assumption | (refine Below.alloc ?_ (by simp <;> omega) _) | refine Below.drew ?_ | refine bdn ?_ _))
  have B0 := hide b0
  have z0 := Y0.out.lt
  clear h b0
  go_enter Tryz.func18, Tryz.ntmps18
  go_upto_region 1 with fail
  generalize ((w.alloc (.cells #[.int .i64 x.a, .int .i64 x.b, .int .i64 x.c, .int .i64 x.d] 44)).alloc (.cells #[.int .i64 0, .int .i64 0] 48)) = w1 at *
  have k0 := X0.out.cell 0
  have k1 := X0.out.cell 1
  have k2 := X0.out.cell 2
  have k3 := X0.out.cell 3
  go_upto_region 3 with (go_at_call 32; refine (HV.out _).mono ?_; rintro e w2 ⟨rfl, s2⟩)
  have XD := hide ((X0.out.below s2 (by omega)).below (Below.refl w2.heap.size w2).drew (by have := s2.size; omega))
  have YD := hide ((Y0.out.below s2 (by omega)).below (Below.refl w2.heap.size w2).drew (by have := s2.size; omega))
  have BD : Hid (Below w.heap.size w w2.drew) := (B0.out.trans (s2.mono B0.out.size)).drew
  have zd : w.heap.size + 1 < w2.drew.heap.size := Nat.lt_of_lt_of_le z0 s2.size
  clear k0 k1 k2 k3 s2
  refine wp_region_held_drew (S := fun W => W.cell? ⟨w.heap.size, 0, none⟩ = some (.int .i64 x.a) ∧ W.cell? ⟨w.heap.size, 1, none⟩ = some (.int .i64 x.b) ∧ W.cell? ⟨w.heap.size, 2, none⟩ = some (.int .i64 x.c) ∧ W.cell? ⟨w.heap.size, 3, none⟩ = some (.int .i64 x.d)) (by kernel_rfl) (⟨XD.out.cell 0, XD.out.cell 1, XD.out.cell 2, XD.out.cell 3⟩) (fun hHeld => ?_)
  generalize w2.drew = wd at *
  refine wpAnyH_take (i := 0) (v := ?_) rfl (by kernel_rfl) (by kernel_rfl) (by kernel_rfl) (fun _ _ _ h => h) (Or.inl ⟨by rfl, ?_⟩) (by assumption) ?_
  rotate_left 1
  · (intro w hSw; (try dsimp only at hSw); go_simp; try with_reducible rfl)
  try simp only [Act.put, List.getElem_toArray, List.getElem_cons_succ, List.getElem_cons_zero, List.setIfInBounds_toArray, List.set_cons_zero, List.set_cons_succ]
  refine wpAnyH_take (i := 1) (v := ?_) rfl (by kernel_rfl) (by kernel_rfl) (by kernel_rfl) (fun _ _ _ h => h) (Or.inl ⟨by rfl, ?_⟩) (by assumption) ?_
  rotate_left 1
  · (intro w hSw; (try dsimp only at hSw); go_simp; try with_reducible rfl)
  try simp only [Act.put, List.getElem_toArray, List.getElem_cons_succ, List.getElem_cons_zero, List.setIfInBounds_toArray, List.set_cons_zero, List.set_cons_succ]
  refine wpAnyH_take (i := 2) (v := ?_) rfl (by kernel_rfl) (by kernel_rfl) (by kernel_rfl) (fun _ _ _ h => h) (Or.inl ⟨by rfl, ?_⟩) (by assumption) ?_
  rotate_left 1
  · (intro w hSw; (try dsimp only at hSw); go_simp; try with_reducible rfl)
  try simp only [Act.put, List.getElem_toArray, List.getElem_cons_succ, List.getElem_cons_zero, List.setIfInBounds_toArray, List.set_cons_zero, List.set_cons_succ]
  refine wpAnyH_take (i := 3) (v := ?_) rfl (by kernel_rfl) (by kernel_rfl) (by kernel_rfl) (fun _ _ _ h => h) (Or.inl ⟨by rfl, ?_⟩) (by assumption) ?_
  rotate_left 1
  · (intro w hSw; (try dsimp only at hSw); go_simp; try with_reducible rfl)
  try simp only [Act.put, List.getElem_toArray, List.getElem_cons_succ, List.getElem_cons_zero, List.setIfInBounds_toArray, List.set_cons_zero, List.set_cons_succ]
  refine wpAnyH_ready (rs := [4]) (by kernel_rfl) (by simp) ?_
  refine AllReadyH.cons rfl (fun K hK => ?_) AllReadyH.nil
  try simp only [Act.put, List.getElem_toArray, List.getElem_cons_succ, List.getElem_cons_zero, List.setIfInBounds_toArray, List.set_cons_zero, List.set_cons_succ]
  go_simp
  go_at_call 53
  refine (HD.out _).mono ?_
  rintro e w3 ⟨rfl, s3⟩
  have X3 := hide (XD.out.below s3 (by omega))
  have Y3 := hide (YD.out.below s3 (by omega))
  have B3 := hide (BD.out.trans (s3.mono BD.out.size))
  have z3 := s3.size
  dsimp only
  refine hK.out _ _ (⟨X3.out.cell 0, X3.out.cell 1, X3.out.cell 2, X3.out.cell 3⟩) (fun hHeld => ?_)
  clear hK K
  try simp only [Act.put, List.getElem_toArray, List.getElem_cons_succ, List.getElem_cons_zero, List.setIfInBounds_toArray, List.set_cons_zero, List.set_cons_succ]
  refine wpAnyH_ready (rs := [5]) (by kernel_rfl) (by simp) ?_
  refine AllReadyH.cons rfl (fun K hK => ?_) AllReadyH.nil
  try simp only [Act.put, List.getElem_toArray, List.getElem_cons_succ, List.getElem_cons_zero, List.setIfInBounds_toArray, List.set_cons_zero, List.set_cons_succ]
  go_simp
  go_at_call 52
  refine (HL.out _).mono ?_
  rintro e w4 ⟨rfl, s4⟩
  have X4 := hide (X3.out.below s4 (by omega))
  have Y4 := hide (Y3.out.below s4 (by omega))
  have B4 := hide (B3.out.trans (s4.mono B3.out.size))
  have T0 := hide (Y4.out.set 0 (.int .i64 f1.1))
  have T1 := hide (T0.out.set 1 (.int .i64 f1.2))
  have XE := hide ((X4.out.other (b' := w.heap.size + 1) (by omega) 0 (.int .i64 f1.1)).other (b' := w.heap.size + 1) (by omega) 1 (.int .i64 f1.2))
  have m0 : w4.cell? ⟨w.heap.size + 1, 0, none⟩ = some (.int .i64 0) := Y4.out.cell 0
  have n0 := Y4.out.fro 0
  have m1 : (w4.setCell ⟨w.heap.size + 1, 0, none⟩ (.int .i64 f1.1)).cell? ⟨w.heap.size + 1, 1, none⟩ = some (.int .i64 0) := T0.out.cell 1
  have n1' := T0.out.fro 1
  dsimp only
  refine hK.out _ _ (⟨X4.out.cell 0, X4.out.cell 1, X4.out.cell 2, X4.out.cell 3⟩) (fun hHeld => ?_)
  clear hK K
  try simp only [Act.put, List.getElem_toArray, List.getElem_cons_succ, List.getElem_cons_zero, List.setIfInBounds_toArray, List.set_cons_zero, List.set_cons_succ]
  refine wpAnyH_ready (rs := [6]) (by kernel_rfl) (by simp) ?_
  refine AllReadyH.cons rfl (fun K hK => ?_) AllReadyH.nil
  try simp only [Act.put, List.getElem_toArray, List.getElem_cons_succ, List.getElem_cons_zero, List.setIfInBounds_toArray, List.set_cons_zero, List.set_cons_succ]
  go_simp
  refine hK.out _ _ (⟨XE.out.cell 0, XE.out.cell 1, XE.out.cell 2, XE.out.cell 3⟩) (fun hHeld => ?_)
  clear hK K
  try simp only [Act.put, List.getElem_toArray, List.getElem_cons_succ, List.getElem_cons_zero, List.setIfInBounds_toArray, List.set_cons_zero, List.set_cons_succ]
  refine wpAnyH_take (i := 7) (v := ?_) rfl (by kernel_rfl) (by kernel_rfl) (by kernel_rfl) (fun _ _ _ h => h) (Or.inl ⟨by rfl, ?_⟩) (by assumption) ?_
  rotate_left 1
  · (intro w hSw; (try dsimp only at hSw); go_simp; try with_reducible rfl)
  try simp only [Act.put, List.getElem_toArray, List.getElem_cons_succ, List.getElem_cons_zero, List.setIfInBounds_toArray, List.set_cons_zero, List.set_cons_succ]
  refine wpAnyH_done (by kernel_rfl) ?_ _
  go_wp2_with fail
  have q0 : ((w4.setCell ⟨w.heap.size + 1, 0, none⟩ (.int .i64 f1.1)).setCell ⟨w.heap.size + 1, 1, none⟩ (.int .i64 f1.2)).cell? ⟨w.heap.size + 1, 0, none⟩ = some (.int .i64 f1.1) := T1.out.cell 0
  have q1 : ((w4.setCell ⟨w.heap.size + 1, 0, none⟩ (.int .i64 f1.1)).setCell ⟨w.heap.size + 1, 1, none⟩ (.int .i64 f1.2)).cell? ⟨w.heap.size + 1, 1, none⟩ = some (.int .i64 f1.2) := T1.out.cell 1
  refine bodyPost_ret (v := .tuple #[.agg #[.int .i64 f1.1, .int .i64 f1.2], .int .i64 0]) (by simp [results, Tryz.results18, go_sem, q0, q1]) rfl ⟨by rw [HK.out], ?_⟩
  exact (B4.out.setCell (p := ⟨w.heap.size + 1, 0, none⟩) (by dsimp only; omega) _).setCell (p := ⟨w.heap.size + 1, 1, none⟩) (by dsimp only; omega) _
end Go.Proofs.YtaajkmjilcamgaaGreatDoor
namespace Go.Proofs.YtaajkmjilcamgaaGreatDoor
open Go.RowKit
theorem slowGo_step {xs : List T4} {k : Nat} {z y : T4} {kb : Nat} (h : xs[k]? = some z) : slowGo (xs.drop k) k y kb = if z.c * denR y < y.c * denR z then slowGo (xs.drop (k + 1)) (k + 1) z k else slowGo (xs.drop (k + 1)) (k + 1) y kb := by
  rw [drop_cons h, slowGo]
end Go.Proofs.YtaajkmjilcamgaaGreatDoor
namespace Go.Proofs.YtaajkmjilcamgaaGreatDoor
open Go.RowKit
theorem placeGo_step {xs : List T4} {k : Nat} {z : T4} {t : Int} (h : xs[k]? = some z) : placeGo (xs.drop k) t k = if t < ticksR z then ((k : Int), lowF (100 * z.c * t) (denR z), 0) else placeGo (xs.drop (k + 1)) (t - ticksR z) (k + 1) := by
  rw [drop_cons h, placeGo]
/-- A fraction is stored into a struct variable. -/
theorem boxF {w : World} {b : Nat} {u0 u1 v0 v1 : Value} {e : TypeId} (h : BoxN w b #[u0, u1] e) : BoxN ((w.setCell ⟨b, 0, none⟩ v0).setCell ⟨b, 1, none⟩ v1) b #[v0, v1] e := (h.set 0 v0).set 1 v1
end Go.Proofs.YtaajkmjilcamgaaGreatDoor
