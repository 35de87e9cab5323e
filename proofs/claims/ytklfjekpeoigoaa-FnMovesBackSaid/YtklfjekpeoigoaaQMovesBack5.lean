/-
  The laws' words and helpers for lists whose elements hold a list of numbers, by contract.
  The laws' helpers mark and held for lists whose elements hold a list of numbers, by contract.
  Costs between stations, and what moves cost; in the program and in the reference.
-/
import Derived.Test.YtklfjekpeoigoaaQMovesBack4
import Derived.Test.YtklfjekpeoigoaaQMovesBack2
import Derived.Deep.RegionHeld3
namespace Go.Proofs.Ytklfjekpeoigoaa
open Go.RowKit

def BoxN (w : World) (b : Nat) (cs : Array Value) (e : TypeId) : Prop := w.heap[b]? = some (.cells cs e (0, 0))
theorem BoxN.new (w : World) (cs : Array Value) (e : TypeId) : BoxN (w.alloc (.cells cs e)) w.heap.size cs e := heap_alloc_new w _
theorem BoxN.lt {w : World} {b : Nat} {cs : Array Value} {e : TypeId} (h : BoxN w b cs e) : b < w.heap.size := lt_of_block h
theorem BoxN.alloc {w : World} {b : Nat} {cs : Array Value} {e : TypeId} (h : BoxN w b cs e) (o : Obj) : BoxN (w.alloc o) b cs e := by
  have := h.lt
  unfold BoxN at *
  rw [heap_alloc_old _ _ this]; exact h
theorem BoxN.below {w w' : World} {b B : Nat} {cs : Array Value} {e : TypeId} (h : BoxN w b cs e) (k : Below B w w') (hb : b < B) : BoxN w' b cs e := (k.block b hb).trans h
theorem BoxN.cell {w : World} {b : Nat} {cs : Array Value} {e : TypeId} (h : BoxN w b cs e) (j : Nat) : w.cell? ⟨b, j, none⟩ = cs.toList[j]? := by
  rw [cell_of_row w b j cs e (0, 0) h]; simp
theorem BoxN.fro {w : World} {b : Nat} {cs : Array Value} {e : TypeId} (h : BoxN w b cs e) (j : Nat) : w.frozen? ⟨b, j, none⟩ = false := frozen_of_row w b j cs e h
theorem BoxN.set {w : World} {b : Nat} {cs : Array Value} {e : TypeId} (h : BoxN w b cs e) (j : Nat) (v : Value) : BoxN (w.setCell ⟨b, j, none⟩ v) b (cs.setIfInBounds j v) e := by
  unfold BoxN at *
  simp [World.setCell, Array.getElem?_modify, h]
theorem BoxN.other {w : World} {b b' : Nat} {cs : Array Value} {e : TypeId} (h : BoxN w b cs e) (hne : b' ≠ b) (j : Nat) (v : Value) : BoxN (w.setCell ⟨b', j, none⟩ v) b cs e := by
  unfold BoxN at *
  rw [heap_setCell_other _ ⟨b', j, none⟩ _ v (Ne.symm hne)]; exact h
theorem onlyN_set {w : World} {b j lo hi : Nat} {v : Value} (h1 : lo ≤ b) (h2 : b < hi) : Only lo hi w (w.setCell ⟨b, j, none⟩ v) :=
  ⟨rfl, rfl, rfl, by simp, fun k _ ho => heap_setCell_other w ⟨b, j, none⟩ _ v (by simp; omega)⟩
theorem eqI_refl (x : List Int) (A A2 : Option Addr) (c c2 : Nat) (w : World) (hs : x.length ≤ 9223372036854775807) (h1 : RdI w w.heap.size A x) (h2 : RdI w w.heap.size A2 x) :
    Calls Try.prog 17 #[.slice A x.length c, .slice A2 x.length c2] w fun e w' => e = .returned (.bool true) ∧ Below w.heap.size w w' := by
  have := eqInt64S_any x x A A2 c c2 w hs hs h1 h2
  rwa [decide_eq_true (rfl : x = x)] at this
def sizeN (x : List TN) : Nat := x.length + (x.map fun e => e.way.length).sum
def LenN (x : List TN) : Prop := x.length ≤ 9223372036854775807 ∧ ∀ e ∈ x, e.way.length ≤ 9223372036854775807
theorem smallN {x : List TN} (h : (sizeN x : Int) ≤ 1048576) : SmallN x := by unfold sizeN at h; unfold SmallN; omega
def zp : Value × TN := (.slice none 0 0, ⟨[], 0, 0⟩)
theorem nest_len {m n k : Nat} {ps : List (Value × TN)} (h : ps.length = k) (hk : k ≤ n) : (ps ++ List.replicate (n - k) zp).length = n := by simp; omega
theorem nest_get {n k : Nat} {ps : List (Value × TN)} (h : ps.length = k) (hk : k < n) : (ps ++ List.replicate (n - k) zp)[k]? = some zp := by
  rw [List.getElem?_append_right (by omega), List.getElem?_replicate, if_pos (by omega)]
theorem nest_set {n k : Nat} {ps : List (Value × TN)} (h : ps.length = k) (hk : k < n) (p : Value × TN) : (ps ++ List.replicate (n - k) zp).set k p = (ps ++ [p]) ++ List.replicate (n - (k + 1)) zp := by
  rw [List.set_append_right _ _ (by omega), h, Nat.sub_self, show n - k = (n - (k + 1)) + 1 by omega, List.replicate_succ, List.set_cons_zero, List.append_assoc]; rfl
theorem set_set_same {α : Type} (xs : List α) (k : Nat) (a b : α) : (xs.set k a).set k b = xs.set k b := by simp
theorem store1 {L : List (Value × TN)} {k : Nat} {y : Value × TN} (h : L[k]? = some y) (sv : Value) (e : TN) : ((L.flatMap (Nc 1)).set (k * 2) sv).set (k * 2 + 1) (.int .i64 e.p) = (L.set k (sv, e)).flatMap (Nc 1) := by
  have h1 := flatMap_set (Nc 1) 2 (fun _ => rfl) L k 0 y (sv, y.2) sv h (by omega) rfl
  rw [Nat.add_zero] at h1
  have h2 := flatMap_set (Nc 1) 2 (fun _ => rfl) (L.set k (sv, y.2)) k 1 (sv, y.2) (sv, e) (.int .i64 e.p) (List.getElem?_set_self (lt_of_get h)) (by omega) rfl
  rw [h1, h2, set_set_same]
theorem store2 {L : List (Value × TN)} {k : Nat} {y : Value × TN} (h : L[k]? = some y) (sv : Value) (e : TN) : (((L.flatMap (Nc 2)).set (k * 3) sv).set (k * 3 + 1) (.int .i64 e.p)).set (k * 3 + 2) (.int .i64 e.q) = (L.set k (sv, e)).flatMap (Nc 2) := by
  have h1 := flatMap_set (Nc 2) 3 (fun _ => rfl) L k 0 y (sv, y.2) sv h (by omega) rfl
  rw [Nat.add_zero] at h1
  have h2 := flatMap_set (Nc 2) 3 (fun _ => rfl) (L.set k (sv, y.2)) k 1 (sv, y.2) (sv, ⟨y.2.way, e.p, y.2.q⟩) (.int .i64 e.p) (List.getElem?_set_self (lt_of_get h)) (by omega) rfl
  have h3 := flatMap_set (Nc 2) 3 (fun _ => rfl) ((L.set k (sv, y.2)).set k (sv, ⟨y.2.way, e.p, y.2.q⟩)) k 2 (sv, ⟨y.2.way, e.p, y.2.q⟩) (sv, e) (.int .i64 e.q) (List.getElem?_set_self (by rw [List.length_set]; exact lt_of_get h)) (by omega) rfl
  rw [h1, h2, h3, set_set_same, set_set_same]
theorem store0 {L : List (Value × TN)} {k : Nat} {y : Value × TN} (h : L[k]? = some y) (sv : Value) (e : TN) : (L.flatMap (Nc 0)).set (k * 1) sv = (L.set k (sv, e)).flatMap (Nc 0) := by
  have h1 := flatMap_set (Nc 0) 1 (fun _ => rfl) L k 0 y (sv, e) sv h (by omega) rfl
  rw [Nat.add_zero] at h1
  exact h1
theorem szF_add {n k : Nat} {l : Int} (h : (n : Int) ≤ l) : szF (n + k) l = szF k (l - n) := by unfold szF; split <;> split <;> omega

/-! ### Int64SS -/
def R_Int64SS (w : World) (B : Nat) (v : Value) (x : List TN) : Prop := ∃ A c, v = .slice A x.length c ∧ RN 0 w B A x
def O_Int64SS (w : World) (lo hi : Nat) (v : Value) (x : List TN) : Prop := ON 22 0 w lo hi v x
theorem R_Int64SS.below {w w' : World} {B : Nat} {v : Value} {x : List TN} (h : R_Int64SS w B v x) (k : Below B w w') : R_Int64SS w' B v x := by
  obtain ⟨A, c, e, r⟩ := h; exact ⟨A, c, e, r.below k⟩
theorem R_Int64SS.more {w : World} {B B' : Nat} {v : Value} {x : List TN} (h : R_Int64SS w B v x) (k : B ≤ B') : R_Int64SS w B' v x := by
  obtain ⟨A, c, e, r⟩ := h; exact ⟨A, c, e, r.more k⟩
theorem O_Int64SS.r {w : World} {lo hi : Nat} {v : Value} {x : List TN} (h : O_Int64SS w lo hi v x) : R_Int64SS w w.heap.size v x := ON.r h
theorem O_Int64SS.small {w : World} {lo hi : Nat} {v : Value} {x : List TN} (h : O_Int64SS w lo hi v x) : SmallN x := ON.small h
theorem O_Int64SS.kept {w w' : World} {lo hi lo' hi' : Nat} {v : Value} {x : List TN} (h : O_Int64SS w lo hi v x) (k : Only lo' hi' w w') (hd : hi ≤ lo' ∨ hi' ≤ lo) : O_Int64SS w' lo hi v x := ON.kept h k hd
theorem O_Int64SS.below {w w' : World} {lo hi B : Nat} {v : Value} {x : List TN} (h : O_Int64SS w lo hi v x) (k : Below B w w') (hd : hi ≤ B) : O_Int64SS w' lo hi v x := ON.below h k hd
theorem O_Int64SS.widen {w : World} {lo hi lo' hi' : Nat} {v : Value} {x : List TN} (h : O_Int64SS w lo hi v x) (h1 : lo' ≤ lo) (h2 : hi ≤ hi') : O_Int64SS w lo' hi' v x := ON.widen h h1 h2
theorem O_Int64SS.nil (w : World) (lo hi : Nat) (A : Option Addr) (c : Nat) : O_Int64SS w lo hi (.slice A 0 c) [] := ON.nil _ _ _ _ _ _ _
def mark_Int64SS (x : List TN) (k : Int) : List TN := mkN 0 x k
def cnt_Int64SS (x : List TN) : Int := cntN 0 x
theorem O_Int64SS.cnt {w : World} {lo hi : Nat} {v : Value} {x : List TN} (h : O_Int64SS w lo hi v x) : 0 ≤ cnt_Int64SS x ∧ cnt_Int64SS x ≤ 4194304 := by
  have h1 := h.small
  have h2 := cntN_bd 0 (by omega) x
  unfold SmallN at h1
  unfold cnt_Int64SS
  omega
theorem Int64SS_info : (Try.prog.info? 22).map (fun i => (i.zero, i.size, i.bytes)) = some (some (.slice none 0 0), 1, 24) := by kernel_rfl
set_option maxRecDepth 100000 in
set_option maxHeartbeats 4000000 in
theorem L_to_Int64SS (x : List TN) (v : Value) (w : World) (hs : SmallN x) (h : R_Int64SS w w.heap.size v x) :
    Calls Try.prog 14 #[v] w fun e w' => ∃ v', e = .returned v' ∧ O_Int64SS w' w.heap.size w'.heap.size v' x ∧ Below w.heap.size w w' := by
  obtain ⟨A, c, rfl, h1⟩ := h
  have hxl : x.length ≤ 1048576 := by unfold SmallN at hs; omega
  obtain ⟨i0, hi0, hz0, hs0, hb0⟩ := info_parts Int64SS_info
  have HX := hide h1; clear h1
  go_enter Try.func14, Try.ntmps14
  go_wp2_with (refine wpList_make_full _ rfl _ _ _ rfl w.heap.size 22 i0 _ 1 Try.underlying23 hi0 hz0 hs0 .i64 .i64 (x.length : Int) (x.length : Int) x.length rfl rfl rfl rfl (by rw [hb0]; omega) (by unfold maxLen; omega) (Nat.le_refl _) ?_; intro w1 hown1 hgr1)
  have hown2 : w1.ownsRow w.heap.size 22 1 (.slice (some ⟨w.heap.size, 0, none⟩) x.length x.length) x.length ((([] : List (Value × TN)) ++ List.replicate (x.length - 0) zp).flatMap (Nc 0)) := by
    rw [List.nil_append, Nat.sub_zero, ← made_flatMap (Nc 0) 1 (fun _ => rfl) zp (by omega)]; exact hown1
  have hbel1 : Below w.heap.size w w1 := (Below.refl _ _).grown hgr1 (Nat.le_refl _) (by intro k hk; cases hk)
  have hsz1 : w.heap.size < w1.heap.size := (hown1.lt _ rfl).2
  clear hown1 hgr1
  go_loopg [4] x.length (fun g i wr => ∃ (k : Nat) (ps : List (Value × TN)), k ≤ x.length ∧ Hid (g = x.length - k) ∧ i = .int .i64 k ∧ Below w.heap.size w wr ∧ w.heap.size < wr.heap.size ∧ Hid (ps.map (·.2) = x.take k) ∧ Hid (FamO wr (some w.heap.size) (w.heap.size + 1) wr.heap.size ps) ∧
    wr.ownsRow w.heap.size 22 1 (.slice (some ⟨w.heap.size, 0, none⟩) x.length x.length) x.length ((ps ++ List.replicate (x.length - k) zp).flatMap (Nc 0)))
  case atStart => exact ⟨0, [], by omega, by simp [Hid], rfl, hbel1, hsz1, by simp [Hid], trivial, hown2⟩
  case round =>
    obtain ⟨k, ps, hk, hg, rfl, hb, hsl, HP, HF, hown⟩ := hrel
    clear hown2 hbel1 hsz1
    have hpl : ps.length = k := by have := congrArg List.length HP.out; simp at this; omega
    by_cases hlt : k < x.length
    · obtain ⟨b1, o1, z1, Aw, cw, rfl, hb1, hz1, hrw, hc0, hc1, hc2⟩ := (HX.out.below hb).at_ (by omega) hlt
      have Z1 := hide hz1
      have hw1 := hs.way hz1
      clear hz1
      rw [Nat.zero_add, Nat.mul_one] at hc0
      have HT := hide (L_to_Int64S z1.way (.slice Aw z1.way.length cw) wr hw1 ⟨Aw, cw, rfl, hrw.more hb.size⟩)
      have hgt := hide (nest_get hpl hlt)
      have hlen := hide (nest_len (m := 0) hpl hk)
      have Hs := hide hs
      clear hrw hs
      clear hc1 hc2
      go_wp2_with (go_at_call 13; refine (HT.out).mono ?_; rintro e w2 ⟨v3, rfl, ho3, hbw⟩; obtain ⟨A3, c3, rfl⟩ := ho3.1; have hownw := own_below hown hbw (Nat.le_refl _); have hq0 : w2.cell? ⟨w.heap.size, k, none⟩ = some (.slice none 0 0) := (hownw.cellAt (k) (by omega)).trans ((by have h := flatMap_get (Nc 0) 1 (fun _ => rfl) _ k 0 _ hgt.out (by omega); rw [Nat.mul_one] at h; exact h)); have hf0 := hownw.frozenAt (k))
      have hz := hbw.size
      have hbb := hb.trans (hbw.mono hb.size)
      have hs0 := hownw.stored (k) (.slice A3 z1.way.length c3)
      have hfin := store0 hgt.out (.slice A3 z1.way.length c3) z1
      rw [Nat.mul_one] at hfin
      rw [nest_set hpl hlt] at hfin
      have KO := onlyN_set (w := w2) (b := w.heap.size) (j := k) (v := .slice A3 z1.way.length c3) (lo := w.heap.size) (hi := w.heap.size + 1) (by omega) (by omega)
      have HF' := ((HF.out.below hbw (Nat.le_refl _)).snoc (hi := w2.heap.size) (p := (.slice A3 z1.way.length c3, z1)) (Nat.le_refl _) hz (Nat.le_refl _) (fun g hg => by cases hg; omega) ho3 (by omega)).keptB KO
      go_roundg (x.length - (k + 1))
      case measure => have := hg.out; omega
      case rel =>
        refine ⟨k + 1, ps ++ [(.slice A3 z1.way.length c3, z1)], by omega, rfl, by go_num, (hbb.setCell (by simp) _), by simp; omega, ?_, ?_, ?_⟩
        · unfold Hid; rw [List.map_append, HP.out]; obtain ⟨hq, he⟩ := List.getElem?_eq_some_iff.1 Z1.out; rw [List.take_succ_eq_append_getElem hq, he]; rfl
        · exact HF'.widen (by simp) (Nat.le_refl _)
        · rw [← hfin]; exact hs0.1
    · go_wp2_with fail
      go_ret
      obtain rfl : k = x.length := by omega
      rw [Nat.sub_self, List.replicate_zero, List.append_nil] at hown
      have hP := HP.out
      rw [List.take_length] at hP
      exact ⟨_, rfl, ⟨ps, hP, OwnV.of_row hown hxl, (HF.out : FamO wr _ _ _ _).widen (Nat.le_refl _) (by omega), hs⟩, hb⟩
set_option maxRecDepth 100000 in
set_option maxHeartbeats 4000000 in
theorem L_eq_Int64SS (x : List TN) (v1 v2 : Value) (lo1 hi1 lo2 hi2 : Nat) (w : World) (h1 : O_Int64SS w lo1 hi1 v1 x) (h2 : O_Int64SS w lo2 hi2 v2 x) :
    Calls Try.prog 18 #[v1, v2] w fun e w' => e = .returned (.bool true) ∧ Below w.heap.size w w' := by
  have hs := h1.small
  have hxl : x.length ≤ 1048576 := by unfold SmallN at hs; omega
  obtain ⟨A, c, rfl, r1⟩ := h1.r
  obtain ⟨A2, c2, rfl, r2⟩ := h2.r
  have HX := hide r1; have HY := hide r2
  have Hs := hide hs
  have hB : ((x.length : Int) != x.length) = false := by simp
  clear h1 h2 r1 r2 hs
  go_enter Try.func18, Try.ntmps18
  go_wp2_with fail
  go_loopg [5] x.length (fun g i wr => ∃ k : Nat, k ≤ x.length ∧ Hid (g = x.length - k) ∧ i = .int .i64 k ∧ Below w.heap.size w wr)
  case atStart => exact ⟨0, by omega, by simp [Hid], rfl, Below.refl _ _⟩
  case round =>
    obtain ⟨k, hk, hg, rfl, hb⟩ := hrel
    by_cases hlt : k < x.length
    · obtain ⟨b1, o1, z1, Aw, cw, rfl, hb1, hz1, hrw, hc0, hc1, hc2⟩ := (HX.out.below hb).at_ (by omega) hlt
      obtain ⟨b2, o2, z2, Aw2, cw2, rfl, hb2, hz2, hrw2, hd0, hd1, hd2⟩ := (HY.out.below hb).at_ (by omega) hlt
      obtain rfl : z1 = z2 := by rw [hz1] at hz2; exact Option.some.inj hz2
      have hw1 := Hs.out.way hz1
      clear hz1 hz2
      rw [Nat.zero_add, Nat.mul_one] at hc0
      rw [Nat.zero_add, Nat.mul_one] at hd0
      clear hc1 hc2 hd1 hd2
      have HC := hide fun W (hW : Below w.heap.size wr W) => eqI_refl z1.way Aw Aw2 cw cw2 W (by omega) ((hrw.below hW).more (Nat.le_trans hb.size hW.size)) ((hrw2.below hW).more (Nat.le_trans hb.size hW.size))
      clear hrw hrw2
      go_wp2_with fail
      go_still_tail 8, (by kernel_rfl)
      change wpList _ _ _ _ _ wr.drew
      have hb3 : Below w.heap.size w wr.drew := hb.drew
      have hb4 : Below w.heap.size wr wr.drew := (Below.refl _ _).drew
      have HC2 := hide (HC.out _ hb4)
      generalize wr.drew = w2 at *
      go_wp2_with (go_at_call 17; refine (HC2.out).mono ?_; rintro e w1 ⟨rfl, hb1⟩)
      go_roundg (x.length - (k + 1))
      case measure => have := hg.out; omega
      case rel => exact ⟨k + 1, by omega, rfl, by go_num, hb3.trans (hb1.mono hb3.size)⟩
    · go_wp2_with fail
      go_ret
      exact ⟨rfl, hb⟩
set_option maxRecDepth 100000 in
set_option maxHeartbeats 4000000 in
theorem L_sz_Int64SS (x : List TN) (v : Value) (left : Int) (B : Nat) (w : World) (hx : LenN x) (hl : 0 ≤ left) (hl2 : left ≤ 1048576) (hB : B ≤ w.heap.size) (h : R_Int64SS w B v x) :
    Calls Try.prog 11 #[v, .int .i64 left] w fun e w' => e = .returned (.int .i64 (szF (sizeN x) left)) ∧ Below w.heap.size w w' := by
  obtain ⟨A, c, rfl, h1⟩ := h
  obtain ⟨hx1, hx2⟩ := hx
  have HX := hide (h1.more hB)
  have HW := hide hx2
  clear h1 hx2
  by_cases g0 : (x.length : Int) ≤ left
  case neg =>
    have HR := hide (szF_no (n := sizeN x) (left := left) (by unfold sizeN; omega))
    have g0' : left - (x.length : Int) < 0 := by omega
    go_enter Try.func11, Try.ntmps11
    go_wp2_with fail
    go_ret
    exact ⟨by rw [HR.out]; rfl, Below.refl _ _⟩
  have HR := hide (show szF (sizeN x) left = szF ((x.drop 0).map fun e => e.way.length).sum (left - x.length) by rw [List.drop_zero]; exact szF_add g0)
  have g1 : 0 ≤ left - (x.length : Int) := by omega
  go_enter Try.func11, Try.ntmps11
  go_wp2_with fail
  go_loopg [1, 5] x.length (fun g l i wr => ∃ (k : Nat) (l' : Int), k ≤ x.length ∧ Hid (g = x.length - k) ∧ i = .int .i64 k ∧ l = .int .i64 l' ∧ 0 ≤ l' ∧ l' ≤ 1048576 ∧ Hid (szF (sizeN x) left = szF ((x.drop k).map fun e => e.way.length).sum l') ∧ Below w.heap.size w wr)
  case atStart => exact ⟨0, left - x.length, by omega, by simp [Hid], rfl, by go_num, by omega, by omega, HR, Below.refl _ _⟩
  case round =>
    obtain ⟨k, l', hk, hg, rfl, rfl, hl0, hl9, HS, hb⟩ := hrel
    clear HR
    by_cases hlt : k < x.length
    · obtain ⟨b1, o1, z1, Aw, cw, rfl, hb1, hz1, hrw, hc0, hc1, hc2⟩ := (HX.out.below hb).at_ (by omega) hlt
      have hwl := HW.out z1 (List.mem_of_getElem? hz1)
      rw [Nat.zero_add, Nat.mul_one] at hc0
      clear hc1 hc2
      have HC := hide (szInt64S_any Aw z1.way.length cw l' wr hwl hl0 hl9)
      have HS' := HS.out
      rw [drop_cons hz1, List.map_cons, List.sum_cons] at HS'
      clear hz1 hrw HS
      by_cases g2 : (z1.way.length : Int) ≤ l'
      · rw [szF_yes g2] at HC
        rw [szF_add g2] at HS'
        have HQ := hide HS'
        have g3 : 0 ≤ l' - (z1.way.length : Int) := by omega
        clear HS'
        go_wp2_with (go_at_call 118; refine (HC.out).mono ?_; rintro e w1 ⟨rfl, rfl⟩)
        go_roundg (x.length - (k + 1))
        case measure => have := hg.out; omega
        case rel => exact ⟨k + 1, l' - z1.way.length, by omega, rfl, by go_num, rfl, by omega, by omega, HQ, hb⟩
      · rw [szF_no (n := z1.way.length) (left := l') (by omega)] at HC
        rw [szF_no (n := z1.way.length + ((x.drop (k + 1)).map fun e => e.way.length).sum) (left := l') (by omega)] at HS'
        have HQ := hide HS'
        clear HS'
        go_wp2_with (go_at_call 118; refine (HC.out).mono ?_; rintro e w1 ⟨rfl, rfl⟩)
        go_ret
        exact ⟨by rw [HQ.out]; rfl, hb⟩
    · have HQ := hide (HS.out.trans (show szF ((x.drop k).map fun e => e.way.length).sum l' = l' by rw [List.drop_eq_nil_of_le (by omega)]; unfold szF; simp; omega))
      go_wp2_with fail
      go_ret
      exact ⟨by rw [HQ.out]; rfl, hb⟩
end Go.Proofs.Ytklfjekpeoigoaa
namespace Go.Proofs.Ytklfjekpeoigoaa
open Go.RowKit

theorem own_only {w w' : World} {g a b n c s : Nat} {e : TypeId} {xs : List Value} (h : w.ownsRow g e s (.slice (some ⟨g, 0, none⟩) n c) n xs) (k : Only a b w w') (hd : b ≤ g ∨ g < a) : w'.ownsRow g e s (.slice (some ⟨g, 0, none⟩) n c) n xs := by
  refine ⟨h.1, ?_⟩
  rcases h.2 with h0 | ⟨g', cap, cur, he, hb, hg, rest⟩
  · exact .inl h0
  · simp only [Value.slice.injEq, Option.some.injEq, Addr.mk.injEq, and_true, true_and] at he
    obtain ⟨rfl, rfl⟩ := he
    exact .inr ⟨g, _, cur, rfl, hb, (k.2.2.2.2 g (lt_of_block hg) (by omega)).trans hg, rest⟩
theorem onv_block {e : TypeId} {s : Nat} {w : World} {lo hi n : Nat} {v : Value} {xs : List Value} (h : OwnV e s w lo hi v n xs) (hn : 0 < n) : ∃ g c, v = .slice (some ⟨g, 0, none⟩) n c ∧ lo ≤ g ∧ g < hi ∧ w.ownsRow g e s v n xs ∧ w.ownsRow lo e s v n xs := by
  obtain ⟨⟨A, c, rfl⟩, _, h0 | ⟨ho, hlt⟩⟩ := h
  · omega
  · rcases ho.2 with ⟨_, h0⟩ | ⟨g, cap, cur, he, hb, hg, rest⟩
    · omega
    · simp only [Value.slice.injEq, true_and] at he
      obtain ⟨rfl, rfl⟩ := he
      exact ⟨g, _, rfl, hb, hlt g rfl, ⟨ho.1, .inr ⟨g, _, cur, rfl, Nat.le_refl _, hg, rest⟩⟩, ho⟩
theorem set_mid {α : Type} {us vs : List α} {p q : α} {j : Nat} (h : us.length = j) : (us ++ p :: vs).set j q = (us ++ [q]) ++ vs := by
  rw [List.set_append_right _ _ (by omega), h, Nat.sub_self, List.set_cons_zero, List.append_assoc]; rfl
theorem get_mid {α : Type} {us vs : List α} {p : α} {j : Nat} (h : us.length = j) : (us ++ p :: vs)[j]? = some p := by
  rw [List.getElem?_append_right (by omega), h, Nat.sub_self]; rfl
theorem mark1 {L : List (Value × TN)} {k : Nat} {p : Value × TN} (h : L[k]? = some p) (way : List Int) (a : Int) : (L.flatMap (Nc 1)).set (k * 2 + 1) (.int .i64 a) = (L.set k (p.1, ⟨way, a, p.2.q⟩)).flatMap (Nc 1) :=
  flatMap_set (Nc 1) 2 (fun _ => rfl) L k 1 p (p.1, ⟨way, a, p.2.q⟩) (.int .i64 a) h (by omega) rfl
theorem mark2 {L : List (Value × TN)} {k : Nat} {p : Value × TN} (h : L[k]? = some p) (way : List Int) (a b : Int) : ((L.flatMap (Nc 2)).set (k * 3 + 1) (.int .i64 a)).set (k * 3 + 2) (.int .i64 b) = (L.set k (p.1, ⟨way, a, b⟩)).flatMap (Nc 2) := by
  have h1 := flatMap_set (Nc 2) 3 (fun _ => rfl) L k 1 p (p.1, ⟨way, a, p.2.q⟩) (.int .i64 a) h (by omega) rfl
  have h2 := flatMap_set (Nc 2) 3 (fun _ => rfl) (L.set k (p.1, ⟨way, a, p.2.q⟩)) k 2 (p.1, ⟨way, a, p.2.q⟩) (p.1, ⟨way, a, b⟩) (.int .i64 b) (List.getElem?_set_self (lt_of_get h)) (by omega) rfl
  rw [h1, h2, set_set_same]
theorem mark0 {L : List (Value × TN)} {k : Nat} {p : Value × TN} (h : L[k]? = some p) (z : TN) : L.flatMap (Nc 0) = (L.set k (p.1, z)).flatMap (Nc 0) := by
  have h1 := flatMap_set (Nc 0) 1 (fun _ => rfl) L k 0 p (p.1, z) p.1 h (by omega) rfl
  rw [Nat.add_zero, Nat.mul_one] at h1
  rw [← h1]
  have h2 := flatMap_get (Nc 0) 1 (fun _ => rfl) L k 0 p h (by omega)
  rw [Nat.add_zero, Nat.mul_one] at h2
  refine (List.ext_getElem? fun i => ?_)
  by_cases hi : i = k
  · subst hi; rw [List.getElem?_set_self (lt_of_get h2), h2]; rfl
  · rw [List.getElem?_set_ne (fun e => hi e.symm)]
theorem take_next {α : Type} {x : List α} {j : Nat} {e : α} (h : x[j]? = some e) : x.take (j + 1) = x.take j ++ [e] := by
  obtain ⟨hl, he⟩ := List.getElem?_eq_some_iff.1 h
  rw [List.take_succ_eq_append_getElem hl, he]
theorem mkN_next {m : Nat} {x : List TN} {j : Nat} {e : TN} (h : x[j]? = some e) (k : Int) : mkN m (x.take (j + 1)) k = mkN m (x.take j) k ++ [⟨mark_Int64S e.way (k + cntN m (x.take j)), if 1 ≤ m then k + cntN m (x.take j) + e.way.length else e.p, if 2 ≤ m then k + cntN m (x.take j) + e.way.length + 1 else e.q⟩] := by
  rw [take_next h, mkN_append, mkN, mkN]
theorem cntN_le {m : Nat} (hm : m ≤ 2) {x : List TN} (hs : SmallN x) (j : Nat) : 0 ≤ cntN m (x.take j) ∧ cntN m (x.take j) ≤ 4194304 := by
  have h1 := cntN_bd m hm x
  have h2 := cntN_bd m hm (x.take j)
  have h3 := cntN_bd m hm (x.drop j)
  have h4 := cntN_append m (x.take j) (x.drop j)
  rw [List.take_append_drop] at h4
  unfold SmallN at hs
  omega
set_option maxRecDepth 100000 in
set_option maxHeartbeats 4000000 in
theorem L_mark_Int64SS (x : List TN) (v : Value) (k : Int) (lo hi : Nat) (w : World) (hk0 : 0 ≤ k) (hk1 : k ≤ 1099491627776) (hh : hi ≤ w.heap.size) (h : O_Int64SS w lo hi v x) :
    Calls Try.prog 20 #[v, .int .i64 k] w fun e w' => e = .returned (.int .i64 (k + cnt_Int64SS x)) ∧ O_Int64SS w' lo hi v (mark_Int64SS x k) ∧ Only lo hi w w' := by
  have hs := h.small
  have hxl : x.length ≤ 1048576 := by unfold SmallN at hs; omega
  by_cases hx0 : x = []
  · subst hx0
    obtain ⟨A, c, rfl, _⟩ := h.r
    go_enter Try.func20, Try.ntmps20
    go_wp2_with fail
    go_loopg [1, 5] 0 (fun g l i wr => i = .int .i64 0 ∧ l = .int .i64 k ∧ w = wr)
    case atStart => exact ⟨rfl, rfl, rfl⟩
    case round =>
      obtain ⟨rfl, rfl, rfl⟩ := hrel
      go_wp2_with fail
      go_ret
      exact ⟨by simp [cnt_Int64SS, cntN], O_Int64SS.nil _ _ _ _ _, only_of_below (Below.refl _ _)⟩
  have hxp : 0 < x.length := List.length_pos_iff.2 hx0
  obtain ⟨ps, hP, hO, hF, _⟩ := h
  obtain ⟨g, c, rfl, hlg, hgh, how0, _⟩ := onv_block hO hxp
  have HS := hide hs
  have HP0 := hide hP
  have HF0 : Hid (FamO w (some g) lo hi ps) := hF
  have how0 := hide how0
  clear hs hP hF hO hx0
  go_enter Try.func20, Try.ntmps20
  go_wp2_with fail
  go_loopg [1, 5] x.length (fun gk kk i wr => ∃ (j : Nat) (pm pr : List (Value × TN)) (mid : Nat), j ≤ x.length ∧ Hid (gk = x.length - j) ∧ i = .int .i64 j ∧ kk = .int .i64 (k + cntN 0 (x.take j)) ∧ Hid (pm.map (·.2) = mkN 0 (x.take j) k) ∧ Hid (pr.map (·.2) = x.drop j) ∧ Hid (pm.length = j) ∧
    Hid (wr.ownsRow g 22 1 (.slice (some ⟨g, 0, none⟩) x.length c) x.length ((pm ++ pr).flatMap (Nc 0))) ∧ Hid (FamO wr (some g) lo mid pm) ∧ lo ≤ mid ∧ mid ≤ hi ∧ Hid (FamO wr (some g) mid hi pr) ∧ Hid (Only lo hi w wr))
  case atStart => exact ⟨0, [], ps, lo, by omega, by simp [Hid], rfl, by simp [cntN], by simp [Hid, mkN], by simpa [Hid] using HP0.out, rfl, how0, trivial, Nat.le_refl _, by omega, HF0, hide (only_of_below (Below.refl _ _))⟩
  case round =>
    obtain ⟨j, pm, pr0, mid, hj, hg, rfl, rfl, HM, HR, hpl, how, HF1, hlm, hmh, HF2, HO⟩ := hrel
    clear how0 HP0 HF0
    obtain ⟨hc0, hc1⟩ := cntN_le (m := 0) (by omega) HS.out j
    by_cases hlt : j < x.length
    · obtain ⟨z1, hz1⟩ : ∃ z, x[j]? = some z := ⟨_, List.getElem?_eq_getElem hlt⟩
      have hpr := HR.out
      rw [drop_cons hz1] at hpr
      match pr0, hpr with
      | p :: pr, hpr =>
      rw [List.map_cons] at hpr
      obtain ⟨hp2, hpr'⟩ := List.cons.inj hpr
      obtain ⟨a, b, hma, hab, hbh, hgab0, ho, HF3⟩ := HF2.out
      obtain ⟨sv, z1'⟩ := p
      obtain rfl : z1' = z1 := hp2
      dsimp only at ho
      obtain ⟨Aw, cw, rfl⟩ := ho.1
      have hgab := hgab0 g rfl
      have hla : lo ≤ a := by omega
      have hwl : z1'.way.length ≤ 1048576 := HS.out.way hz1
      have HZ := hide hz1
      have HPR := hide hpr'
      have HF4 := hide HF3
      have hct := hide (cntN_take (m := 0) hz1)
      clear hgab0 hpr hpr' hz1 HF3 HF2 HR
      have HC := hide (L_mark_Int64S z1'.way _ (k + cntN 0 (x.take j)) a b wr (by omega) (by omega) ho)
      rw [show cnt_Int64S z1'.way = z1'.way.length from rfl] at HC
      have hr0 : wr.cell? ⟨g, j * 1, none⟩ = some (.slice Aw z1'.way.length cw) := (how.out.cellAt (j * 1) (by omega)).trans (flatMap_get _ 1 (fun _ => rfl) _ j 0 _ (get_mid hpl.out) (by omega))
      clear ho
      rw [Nat.mul_one] at hr0
      go_wp2_with (go_at_call 19; refine (HC.out).mono ?_; rintro e w1 ⟨rfl, o1, s1⟩; have how1 := own_only how.out s1 hgab)
      have hfin := mark0 (get_mid (us := pm) (vs := pr) (p := (.slice Aw z1'.way.length cw, z1')) hpl.out) ⟨mark_Int64S z1'.way (k + cntN 0 (x.take j)), z1'.p, z1'.q⟩
      rw [set_mid hpl.out] at hfin
      have HF1' := (HF1.out.kept s1 (.inl hma))
      have HF4' := (HF4.out.kept s1 (.inr (Nat.le_refl _)))
      have o2 := (o1)
      go_roundg (x.length - (j + 1))
      case measure => have := hg.out; omega
      case rel =>
        refine ⟨j + 1, pm ++ [(.slice Aw z1'.way.length cw, ⟨mark_Int64S z1'.way (k + cntN 0 (x.take j)), z1'.p, z1'.q⟩)], pr, b, by omega, rfl, by go_num, ?_, ?_, HPR, ?_, by rw [← hfin]; exact how1, ?_, by omega, hbh, HF4', only_trans HO.out (s1.wider hla hbh)⟩
        · rw [hct.out]; go_num
        · unfold Hid; rw [mkN_next HZ.out, List.map_append, HM.out]; rfl
        · unfold Hid; rw [List.length_append, hpl.out]; rfl
        · exact HF1'.snoc (hi := b) (p := (.slice Aw z1'.way.length cw, ⟨mark_Int64S z1'.way (k + cntN 0 (x.take j)), z1'.p, z1'.q⟩)) hma hab (Nat.le_refl _) (fun g' hg' => by cases hg'; omega) o2 hlm
    · obtain rfl : j = x.length := by omega
      have hM := HM.out
      rw [List.take_length] at hM
      have hR := HR.out
      rw [List.drop_length] at hR
      have hpr : pr0 = [] := List.map_eq_nil_iff.1 hR
      subst hpr
      have hw := how.out
      rw [List.append_nil] at hw
      have HE := hide (show k + cntN 0 (x.take x.length) = k + cnt_Int64SS x by rw [List.take_length]; rfl)
      clear hR
      go_wp2_with fail
      go_ret
      refine ⟨rfl, ⟨pm, hM, ?_, HF1.out.widen hmh (Nat.le_refl _), mkN_small HS.out⟩, HO.out⟩
      unfold mark_Int64SS
      rw [mkN_len]
      exact ⟨⟨_, _, rfl⟩, hxl, .inr ⟨own_base hw hlg, fun g' hg' => by cases hg'; exact hgh⟩⟩
end Go.Proofs.Ytklfjekpeoigoaa
namespace Go.Proofs.Ytklfjekpeoigoaa
open Go.RowKit

def costRow (n : Int) (z : TN) : Bool := decide ((z.way.length : Int) = n) && z.way.all (inB 0 1000)
def vCosts (n : Int) (l : List TN) : Bool := decide ((l.length : Int) = n) && l.all (costRow n)
theorem costRow_iff {n : Int} {z : TN} : costRow n z = true ↔ (z.way.length : Int) = n ∧ ∀ u ∈ z.way, 0 ≤ u ∧ u ≤ 1000 := by
  unfold costRow
  rw [Bool.and_eq_true, decide_eq_true_eq, List.all_eq_true]
  constructor
  · intro h; exact ⟨h.1, fun u hu => inB_iff.1 (h.2 u hu)⟩
  · intro h; exact ⟨h.1, fun u hu => inB_iff.2 (h.2 u hu)⟩
theorem vCosts_iff {n : Int} {l : List TN} : vCosts n l = true ↔ (l.length : Int) = n ∧ ∀ z ∈ l, (z.way.length : Int) = n ∧ ∀ u ∈ z.way, 0 ≤ u ∧ u ≤ 1000 := by
  unfold vCosts
  rw [Bool.and_eq_true, decide_eq_true_eq, List.all_eq_true]
  constructor
  · intro h; exact ⟨h.1, fun u hu => costRow_iff.1 (h.2 u hu)⟩
  · intro h; exact ⟨h.1, fun u hu => costRow_iff.2 (h.2 u hu)⟩
def costAt (l : List TN) (i j : Int) : Int := (((l[i.toNat]?).map fun e => e.way).getD [])[j.toNat]?.getD 0
def coGo (l : List TN) : List T3 → Int → Int
  | [], s => s
  | m :: r, s => coGo l r (s + m.c * costAt l m.a m.b)
def costOfMoves (ms : List T3) (l : List TN) : Int × Int :=
  if inB 2 10 l.length = true ∧ vCosts l.length l = true then (if vMoves l.length ms = true then (coGo l ms 0, 0) else (0, 2)) else (0, 1)
theorem coGo_drop {l : List TN} {xs : List T3} {k : Nat} {m : T3} (h : xs[k]? = some m) (s : Int) : coGo l (xs.drop k) s = coGo l (xs.drop (k + 1)) (s + m.c * costAt l m.a m.b) := by rw [drop_cons h, coGo]
set_option maxRecDepth 100000 in
set_option maxHeartbeats 4000000 in
theorem indexFuncRowN_any (p : TN → Bool) (F : FuncId) (cap : Array Value) (x : List TN) (A : Option Addr) (c : Nat) (w : World) (hx : x.length ≤ 1048576)
    (hcf : ∀ args w, (callFunc F args).run Try.prog w = .ok (.enter F args) w) (h1 : RN 0 w w.heap.size A x)
    (hp : ∀ z Aw cw W, z ∈ x → Below w.heap.size w W → RdI W W.heap.size Aw z.way → Calls Try.prog F (#[.slice Aw z.way.length cw] ++ cap) W fun e w' => e = .returned (.bool (p z)) ∧ Below W.heap.size W w') :
    Calls Try.prog 249 #[.slice A x.length c, .func (.func F) #[] cap] w fun e w' => e = .returned (.int .i64 (firstI p x 0)) ∧ Below w.heap.size w w' := by
  have HP := hide hp
  have HX := hide h1
  clear hp h1
  go_enter Try.func249, Try.ntmps249
  go_wp2_with fail
  go_loopg [8] x.length (fun g i wr => ∃ k : Nat, k ≤ x.length ∧ Hid (g = x.length - k) ∧ i = .int .i64 k ∧ Below w.heap.size w wr ∧ Hid (firstI p x 0 = firstI p (x.drop k) k))
  case atStart => exact ⟨0, by omega, by simp [Hid], rfl, Below.refl _ _, hide (by simp)⟩
  case round =>
    obtain ⟨k, hk, hg, rfl, hb, HE⟩ := hrel
    by_cases hlt : k < x.length
    · obtain ⟨b1, o1, z, Aw, cw, rfl, _, hz1, hrw, hn0, hc1, hc2⟩ := (HX.out.below hb).at_ (by omega) hlt
      rw [Nat.zero_add, Nat.mul_one] at hn0
      clear hc1 hc2
      have HQ := HP.out z Aw cw wr (List.mem_of_getElem? hz1) hb (hrw.more hb.size)
      have h := HE.out
      rw [drop_cons hz1] at h
      clear hz1 hrw
      cases hpz : p z
      · rw [hpz] at HQ
        have h' := hide (show firstI p x 0 = firstI p (x.drop (k + 1)) (k + 1) by simpa [firstI, hpz] using h)
        have HQ' := hide HQ
        clear h HQ hpz HE
        go_wp2_with fail
        refine HQ'.out.mono ?_
        rintro e w1 ⟨rfl, hb1⟩
        go_wp2_with fail
        go_roundg (x.length - (k + 1))
        case measure => have := hg.out; omega
        case rel => exact ⟨k + 1, by omega, rfl, by go_num, hb.trans (hb1.mono hb.size), h'⟩
      · rw [hpz] at HQ
        have h' := hide (show firstI p x 0 = k by simpa [firstI, hpz] using h)
        have HQ' := hide HQ
        clear h HQ hpz HE
        go_wp2_with fail
        refine HQ'.out.mono ?_
        rintro e w1 ⟨rfl, hb1⟩
        go_wp2_with fail
        go_ret
        exact ⟨ret_i h'.out.symm, hb.trans (hb1.mono hb.size)⟩
    · have h := HE.out
      rw [List.drop_eq_nil_of_le (by omega)] at h
      have HF := hide h
      clear h
      go_wp2_with fail
      go_ret
      exact ⟨ret_i (by rw [HF.out]; rfl), hb⟩
set_option maxRecDepth 100000 in
set_option maxHeartbeats 4000000 in
theorem containsFuncRowN_any (p : TN → Bool) (F : FuncId) (cap : Array Value) (x : List TN) (A : Option Addr) (c : Nat) (w : World) (hx : x.length ≤ 1048576)
    (hcf : ∀ args w, (callFunc F args).run Try.prog w = .ok (.enter F args) w) (h1 : RN 0 w w.heap.size A x)
    (hp : ∀ z Aw cw W, z ∈ x → Below w.heap.size w W → RdI W W.heap.size Aw z.way → Calls Try.prog F (#[.slice Aw z.way.length cw] ++ cap) W fun e w' => e = .returned (.bool (p z)) ∧ Below W.heap.size W w') :
    Calls Try.prog 166 #[.slice A x.length c, .func (.func F) #[] cap] w fun e w' => e = .returned (.bool (x.any p)) ∧ Below w.heap.size w w' := by
  have HC := hide (indexFuncRowN_any p F cap x A c w hx hcf h1 hp)
  clear hp h1
  have HE := hide (firstI_ge p x 0)
  go_enter Try.func166, Try.ntmps166
  go_wp2_with fail
  refine HC.out.mono ?_
  rintro e w1 ⟨rfl, hb⟩
  go_wp2_with fail
  go_ret
  exact ⟨ret_b HE.out, hb⟩
set_option maxRecDepth 100000 in
set_option maxHeartbeats 1000000 in
theorem areCosts1_any (n : Int) (z : TN) (Aw : Option Addr) (cw b : Nat) (w : World) (hx : z.way.length ≤ 1048576) (hr : RdI w w.heap.size Aw z.way) (hc : w.cell? ⟨b, 0, none⟩ = some (.int .i64 n)) :
    Calls Try.prog 233 #[.slice Aw z.way.length cw, .pointer (some ⟨b, 0, none⟩)] w fun e w' => e = .returned (.bool (!costRow n z)) ∧ Below w.heap.size w w' := by
  have HO := hide (outside_any z.way 0 1000 Aw cw w (by omega) hr)
  rw [any_not_all] at HO
  clear hr
  by_cases hl : (z.way.length : Int) = n
  · have hB : ((z.way.length : Int) != n) = false := by simp [hl]
    have HR := hide (show costRow n z = z.way.all (inB 0 1000) by unfold costRow; rw [decide_eq_true hl]; rfl)
    clear hl
    generalize z.way.all (inB 0 1000) = bb at *
    go_enter Try.func233, Try.ntmps233
    go_wp2_with (go_at_call 147; refine (HO.out).mono ?_; rintro e w1 ⟨rfl, hb1⟩)
    go_ret
    exact ⟨ret_b (by rw [HR.out]), hb1⟩
  · have hB : ((z.way.length : Int) != n) = true := by simp [hl]
    have HR := hide (show costRow n z = false by unfold costRow; rw [decide_eq_false hl]; rfl)
    clear hl
    go_enter Try.func233, Try.ntmps233
    go_wp2_with (go_at_call 147; refine (HO.out).mono ?_; rintro e w1 ⟨rfl, hb1⟩)
    go_ret
    exact ⟨ret_b (by rw [HR.out]; rfl), Below.refl _ _⟩
set_option maxRecDepth 100000 in
set_option maxHeartbeats 1000000 in
theorem areCosts_any (n : Int) (l : List TN) (A : Option Addr) (c : Nat) (w : World) (hs : SmallN l) (h1 : RN 0 w w.heap.size A l) :
    Calls Try.prog 125 #[.int .i64 n, .slice A l.length c] w fun e w' => e = .returned (.bool (vCosts n l)) ∧ Below w.heap.size w w' := by
  have hlx : l.length ≤ 1048576 := by unfold SmallN at hs; omega
  have b0 : Below w.heap.size w (w.alloc (.cells #[.int .i64 n] 3)) := (by repeat (first | exact Below.refl _ _ | assumption | (refine Below.alloc ?_ (by simp <;> omega) _) | refine Below.drew ?_ | refine bdn ?_ _))
  have z0 : w.heap.size + 1 ≤ (w.alloc (.cells #[.int .i64 n] 3)).heap.size := by simp
  have e0 : (w.alloc (.cells #[.int .i64 n] 3)).cell? ⟨w.heap.size, 0, none⟩ = some (.int .i64 n) := by simp [go_sem]
  have hcf := callFunc_gen (P := Try.prog) (F := 233) Try.func233 (by kernel_rfl) (by kernel_rfl)
  have HC := hide (containsFuncRowN_any (fun z => !costRow n z) 233 #[.pointer (some ⟨w.heap.size, 0, none⟩)] l A c _ hlx hcf ((h1.below b0).more b0.size) (fun z Aw cw W hz hW hr => by
    obtain ⟨i, hi⟩ := List.getElem?_of_mem hz
    exact areCosts1_any n z Aw cw w.heap.size W (hs.way hi) hr ((hW.cell (p := ⟨w.heap.size, 0, none⟩) z0).trans e0)))
  rw [any_not_all] at HC
  clear h1 hcf
  by_cases hl : (l.length : Int) = n
  · have hB : ((l.length : Int) == n) = true := by simp [hl]
    have HR := hide (show vCosts n l = l.all (costRow n) by unfold vCosts; rw [decide_eq_true hl]; rfl)
    clear hl
    generalize l.all (costRow n) = bb at *
    go_enter Try.func125, Try.ntmps125
    go_wp2_with (go_at_call 166; refine (HC.out).mono ?_; rintro e w1 ⟨rfl, hb1⟩)
    go_ret
    exact ⟨ret_b (by rw [HR.out] <;> simp), b0.trans (hb1.mono b0.size)⟩
  · have hB : ((l.length : Int) == n) = false := by simp [hl]
    have HR := hide (show vCosts n l = false by unfold vCosts; rw [decide_eq_false hl]; rfl)
    clear hl
    go_enter Try.func125, Try.ntmps125
    go_wp2_with (go_at_call 166; refine (HC.out).mono ?_; rintro e w1 ⟨rfl, hb1⟩)
    go_ret
    exact ⟨ret_b HR.out.symm, b0⟩
end Go.Proofs.Ytklfjekpeoigoaa
