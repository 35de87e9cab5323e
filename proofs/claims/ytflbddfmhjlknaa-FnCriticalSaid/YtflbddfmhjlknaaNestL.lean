/-
  The laws' words and helpers for lists whose elements hold a list of numbers, by contract.
-/
import Derived.Test.YtflbddfmhjlknaaNestW
import Derived.Test.YtflbddfmhjlknaaRec
import Derived.Deep.RegionHeld3
namespace Go.Proofs.Ytflbddfmhjlknaa
open Go.RowKit

def BoxN (w : World) (b : Nat) (cs : Array Value) (e : TypeId) : Prop := w.heap[b]? = some (.cells cs e (0, 0))
theorem BoxN.new (w : World) (cs : Array Value) (e : TypeId) : BoxN (w.alloc (.cells cs e)) w.heap.size cs e := heap_alloc_new w _
theorem BoxN.lt {w : World} {b : Nat} {cs : Array Value} {e : TypeId} (h : BoxN w b cs e) : b < w.heap.size := lt_of_block h
theorem BoxN.alloc {w : World} {b : Nat} {cs : Array Value} {e : TypeId} (h : BoxN w b cs e) (o : Obj) : BoxN (w.alloc o) b cs e := by
  have := h.lt
  unfold BoxN at *
  rw [heap_alloc_old _ _ this]; exact h
theorem BoxN.below {w w' : World} {b B : Nat} {cs : Array Value} {e : TypeId} (h : BoxN w b cs e) (k : Below B w w') (hb : b < B) : BoxN w' b cs e := (k.block b hb).trans h
theorem BoxN.cell {w : World} {b : Nat} {cs : Array Value} {e : TypeId} (h : BoxN w b cs e) (j : Nat) : w.cell? ⟨b, j, none⟩ = cs.toList[j]? := by
  rw [cell_of_row w b j cs e (0, 0) h]; simp
theorem BoxN.fro {w : World} {b : Nat} {cs : Array Value} {e : TypeId} (h : BoxN w b cs e) (j : Nat) : w.frozen? ⟨b, j, none⟩ = false := frozen_of_row w b j cs e h
theorem BoxN.set {w : World} {b : Nat} {cs : Array Value} {e : TypeId} (h : BoxN w b cs e) (j : Nat) (v : Value) : BoxN (w.setCell ⟨b, j, none⟩ v) b (cs.setIfInBounds j v) e := by
  unfold BoxN at *
  simp [World.setCell, Array.getElem?_modify, h]
theorem BoxN.other {w : World} {b b' : Nat} {cs : Array Value} {e : TypeId} (h : BoxN w b cs e) (hne : b' ≠ b) (j : Nat) (v : Value) : BoxN (w.setCell ⟨b', j, none⟩ v) b cs e := by
  unfold BoxN at *
  rw [heap_setCell_other _ ⟨b', j, none⟩ _ v (Ne.symm hne)]; exact h
theorem onlyN_set {w : World} {b j lo hi : Nat} {v : Value} (h1 : lo ≤ b) (h2 : b < hi) : Only lo hi w (w.setCell ⟨b, j, none⟩ v) :=
  ⟨rfl, rfl, rfl, by simp, fun k _ ho => heap_setCell_other w ⟨b, j, none⟩ _ v (by simp; omega)⟩
theorem eqI_refl (x : List Int) (A A2 : Option Addr) (c c2 : Nat) (w : World) (hs : x.length ≤ 9223372036854775807) (h1 : RdI w w.heap.size A x) (h2 : RdI w w.heap.size A2 x) :
    Calls Try.prog 52 #[.slice A x.length c, .slice A2 x.length c2] w fun e w' => e = .returned (.bool true) ∧ Below w.heap.size w w' := by
  have := eqInt64S_any x x A A2 c c2 w hs hs h1 h2
  rwa [decide_eq_true (rfl : x = x)] at this
def sizeN (x : List TN) : Nat := x.length + (x.map fun e => e.way.length).sum
def LenN (x : List TN) : Prop := x.length ≤ 9223372036854775807 ∧ ∀ e ∈ x, e.way.length ≤ 9223372036854775807
theorem smallN {x : List TN} (h : (sizeN x : Int) ≤ 1048576) : SmallN x := by unfold sizeN at h; unfold SmallN; omega
def zp : Value × TN := (.slice none 0 0, ⟨[], 0, 0⟩)
theorem nest_len {m n k : Nat} {ps : List (Value × TN)} (h : ps.length = k) (hk : k ≤ n) : (ps ++ List.replicate (n - k) zp).length = n := by simp; omega
theorem nest_get {n k : Nat} {ps : List (Value × TN)} (h : ps.length = k) (hk : k < n) : (ps ++ List.replicate (n - k) zp)[k]? = some zp := by
  rw [List.getElem?_append_right (by omega), List.getElem?_replicate, if_pos (by omega)]
theorem nest_set {n k : Nat} {ps : List (Value × TN)} (h : ps.length = k) (hk : k < n) (p : Value × TN) : (ps ++ List.replicate (n - k) zp).set k p = (ps ++ [p]) ++ List.replicate (n - (k + 1)) zp := by
  rw [List.set_append_right _ _ (by omega), h, Nat.sub_self, show n - k = (n - (k + 1)) + 1 by omega, List.replicate_succ, List.set_cons_zero, List.append_assoc]; rfl
theorem set_set_same {α : Type} (xs : List α) (k : Nat) (a b : α) : (xs.set k a).set k b = xs.set k b := by simp
theorem store1 {L : List (Value × TN)} {k : Nat} {y : Value × TN} (h : L[k]? = some y) (sv : Value) (e : TN) : ((L.flatMap (Nc 1)).set (k * 2) sv).set (k * 2 + 1) (.int .i64 e.p) = (L.set k (sv, e)).flatMap (Nc 1) := by
  have h1 := flatMap_set (Nc 1) 2 (fun _ => rfl) L k 0 y (sv, y.2) sv h (by omega) rfl
  rw [Nat.add_zero] at h1
  have h2 := flatMap_set (Nc 1) 2 (fun _ => rfl) (L.set k (sv, y.2)) k 1 (sv, y.2) (sv, e) (.int .i64 e.p) (List.getElem?_set_self (lt_of_get h)) (by omega) rfl
  rw [h1, h2, set_set_same]
theorem store2 {L : List (Value × TN)} {k : Nat} {y : Value × TN} (h : L[k]? = some y) (sv : Value) (e : TN) : (((L.flatMap (Nc 2)).set (k * 3) sv).set (k * 3 + 1) (.int .i64 e.p)).set (k * 3 + 2) (.int .i64 e.q) = (L.set k (sv, e)).flatMap (Nc 2) := by
  have h1 := flatMap_set (Nc 2) 3 (fun _ => rfl) L k 0 y (sv, y.2) sv h (by omega) rfl
  rw [Nat.add_zero] at h1
  have h2 := flatMap_set (Nc 2) 3 (fun _ => rfl) (L.set k (sv, y.2)) k 1 (sv, y.2) (sv, ⟨y.2.way, e.p, y.2.q⟩) (.int .i64 e.p) (List.getElem?_set_self (lt_of_get h)) (by omega) rfl
  have h3 := flatMap_set (Nc 2) 3 (fun _ => rfl) ((L.set k (sv, y.2)).set k (sv, ⟨y.2.way, e.p, y.2.q⟩)) k 2 (sv, ⟨y.2.way, e.p, y.2.q⟩) (sv, e) (.int .i64 e.q) (List.getElem?_set_self (by rw [List.length_set]; exact lt_of_get h)) (by omega) rfl
  rw [h1, h2, h3, set_set_same, set_set_same]
theorem store0 {L : List (Value × TN)} {k : Nat} {y : Value × TN} (h : L[k]? = some y) (sv : Value) (e : TN) : (L.flatMap (Nc 0)).set (k * 1) sv = (L.set k (sv, e)).flatMap (Nc 0) := by
  have h1 := flatMap_set (Nc 0) 1 (fun _ => rfl) L k 0 y (sv, e) sv h (by omega) rfl
  rw [Nat.add_zero] at h1
  exact h1
theorem szF_add {n k : Nat} {l : Int} (h : (n : Int) ≤ l) : szF (n + k) l = szF k (l - n) := by unfold szF; split <;> split <;> omega

/-! ### Int64SS -/
def R_Int64SS (w : World) (B : Nat) (v : Value) (x : List TN) : Prop := ∃ A c, v = .slice A x.length c ∧ RN 0 w B A x
def O_Int64SS (w : World) (lo hi : Nat) (v : Value) (x : List TN) : Prop := ON 30 0 w lo hi v x
theorem R_Int64SS.below {w w' : World} {B : Nat} {v : Value} {x : List TN} (h : R_Int64SS w B v x) (k : Below B w w') : R_Int64SS w' B v x := by
  obtain ⟨A, c, e, r⟩ := h; exact ⟨A, c, e, r.below k⟩
theorem R_Int64SS.more {w : World} {B B' : Nat} {v : Value} {x : List TN} (h : R_Int64SS w B v x) (k : B ≤ B') : R_Int64SS w B' v x := by
  obtain ⟨A, c, e, r⟩ := h; exact ⟨A, c, e, r.more k⟩
theorem O_Int64SS.r {w : World} {lo hi : Nat} {v : Value} {x : List TN} (h : O_Int64SS w lo hi v x) : R_Int64SS w w.heap.size v x := ON.r h
theorem O_Int64SS.small {w : World} {lo hi : Nat} {v : Value} {x : List TN} (h : O_Int64SS w lo hi v x) : SmallN x := ON.small h
theorem O_Int64SS.kept {w w' : World} {lo hi lo' hi' : Nat} {v : Value} {x : List TN} (h : O_Int64SS w lo hi v x) (k : Only lo' hi' w w') (hd : hi ≤ lo' ∨ hi' ≤ lo) : O_Int64SS w' lo hi v x := ON.kept h k hd
theorem O_Int64SS.below {w w' : World} {lo hi B : Nat} {v : Value} {x : List TN} (h : O_Int64SS w lo hi v x) (k : Below B w w') (hd : hi ≤ B) : O_Int64SS w' lo hi v x := ON.below h k hd
theorem O_Int64SS.widen {w : World} {lo hi lo' hi' : Nat} {v : Value} {x : List TN} (h : O_Int64SS w lo hi v x) (h1 : lo' ≤ lo) (h2 : hi ≤ hi') : O_Int64SS w lo' hi' v x := ON.widen h h1 h2
theorem O_Int64SS.nil (w : World) (lo hi : Nat) (A : Option Addr) (c : Nat) : O_Int64SS w lo hi (.slice A 0 c) [] := ON.nil _ _ _ _ _ _ _
def mark_Int64SS (x : List TN) (k : Int) : List TN := mkN 0 x k
def cnt_Int64SS (x : List TN) : Int := cntN 0 x
theorem O_Int64SS.cnt {w : World} {lo hi : Nat} {v : Value} {x : List TN} (h : O_Int64SS w lo hi v x) : 0 ≤ cnt_Int64SS x ∧ cnt_Int64SS x ≤ 4194304 := by
  have h1 := h.small
  have h2 := cntN_bd 0 (by omega) x
  unfold SmallN at h1
  unfold cnt_Int64SS
  omega
theorem Int64SS_info : (Try.prog.info? 30).map (fun i => (i.zero, i.size, i.bytes)) = some (some (.slice none 0 0), 1, 24) := by kernel_rfl
set_option maxRecDepth 100000 in
set_option maxHeartbeats 4000000 in
theorem L_to_Int64SS (x : List TN) (v : Value) (w : World) (hs : SmallN x) (h : R_Int64SS w w.heap.size v x) :
    Calls Try.prog 61 #[v] w fun e w' => ∃ v', e = .returned v' ∧ O_Int64SS w' w.heap.size w'.heap.size v' x ∧ Below w.heap.size w w' := by
  obtain ⟨A, c, rfl, h1⟩ := h
  have hxl : x.length ≤ 1048576 := by unfold SmallN at hs; omega
  obtain ⟨i0, hi0, hz0, hs0, hb0⟩ := info_parts Int64SS_info
  have HX := hide h1; clear h1
  go_enter Try.func61, Try.ntmps61
  go_wp2_with (refine wpList_make_full _ rfl _ _ _ rfl w.heap.size 30 i0 _ 1 Try.underlying39 hi0 hz0 hs0 .i64 .i64 (x.length : Int) (x.length : Int) x.length rfl rfl rfl rfl (by rw [hb0]; omega) (by unfold maxLen; omega) (Nat.le_refl _) ?_; intro w1 hown1 hgr1)
  have hown2 : w1.ownsRow w.heap.size 30 1 (.slice (some ⟨w.heap.size, 0, none⟩) x.length x.length) x.length ((([] : List (Value × TN)) ++ List.replicate (x.length - 0) zp).flatMap (Nc 0)) := by
    rw [List.nil_append, Nat.sub_zero, ← made_flatMap (Nc 0) 1 (fun _ => rfl) zp (by omega)]; exact hown1
  have hbel1 : Below w.heap.size w w1 := (Below.refl _ _).grown hgr1 (Nat.le_refl _) (by intro k hk; cases hk)
  have hsz1 : w.heap.size < w1.heap.size := (hown1.lt _ rfl).2
  clear hown1 hgr1
  go_loopg [4] x.length (fun g i wr => ∃ (k : Nat) (ps : List (Value × TN)), k ≤ x.length ∧ Hid (g = x.length - k) ∧ i = .int .i64 k ∧ Below w.heap.size w wr ∧ w.heap.size < wr.heap.size ∧ Hid (ps.map (·.2) = x.take k) ∧ Hid (FamO wr (some w.heap.size) (w.heap.size + 1) wr.heap.size ps) ∧
    wr.ownsRow w.heap.size 30 1 (.slice (some ⟨w.heap.size, 0, none⟩) x.length x.length) x.length ((ps ++ List.replicate (x.length - k) zp).flatMap (Nc 0)))
  case atStart => exact ⟨0, [], by omega, by simp [Hid], rfl, hbel1, hsz1, by simp [Hid], trivial, hown2⟩
  case round =>
    obtain ⟨k, ps, hk, hg, rfl, hb, hsl, HP, HF, hown⟩ := hrel
    clear hown2 hbel1 hsz1
    have hpl : ps.length = k := by have := congrArg List.length HP.out; simp at this; omega
    by_cases hlt : k < x.length
    · obtain ⟨b1, o1, z1, Aw, cw, rfl, hb1, hz1, hrw, hc0, hc1, hc2⟩ := (HX.out.below hb).at_ (by omega) hlt
      have Z1 := hide hz1
      have hw1 := hs.way hz1
      clear hz1
      rw [Nat.zero_add, Nat.mul_one] at hc0
      have HT := hide (L_to_Int64S z1.way (.slice Aw z1.way.length cw) wr hw1 ⟨Aw, cw, rfl, hrw.more hb.size⟩)
      have hgt := hide (nest_get hpl hlt)
      have hlen := hide (nest_len (m := 0) hpl hk)
      have Hs := hide hs
      clear hrw hs
      clear hc1 hc2
      go_wp2_with (go_at_call 48; refine (HT.out).mono ?_; rintro e w2 ⟨v3, rfl, ho3, hbw⟩; obtain ⟨A3, c3, rfl⟩ := ho3.1; have hownw := own_below hown hbw (Nat.le_refl _); have hq0 : w2.cell? ⟨w.heap.size, k, none⟩ = some (.slice none 0 0) := (hownw.cellAt (k) (by omega)).trans ((by have h := flatMap_get (Nc 0) 1 (fun _ => rfl) _ k 0 _ hgt.out (by omega); rw [Nat.mul_one] at h; exact h)); have hf0 := hownw.frozenAt (k))
      have hz := hbw.size
      have hbb := hb.trans (hbw.mono hb.size)
      have hs0 := hownw.stored (k) (.slice A3 z1.way.length c3)
      have hfin := store0 hgt.out (.slice A3 z1.way.length c3) z1
      rw [Nat.mul_one] at hfin
      rw [nest_set hpl hlt] at hfin
      have KO := onlyN_set (w := w2) (b := w.heap.size) (j := k) (v := .slice A3 z1.way.length c3) (lo := w.heap.size) (hi := w.heap.size + 1) (by omega) (by omega)
      have HF' := ((HF.out.below hbw (Nat.le_refl _)).snoc (hi := w2.heap.size) (p := (.slice A3 z1.way.length c3, z1)) (Nat.le_refl _) hz (Nat.le_refl _) (fun g hg => by cases hg; omega) ho3 (by omega)).keptB KO
      go_roundg (x.length - (k + 1))
      case measure => have := hg.out; omega
      case rel =>
        refine ⟨k + 1, ps ++ [(.slice A3 z1.way.length c3, z1)], by omega, rfl, by go_num, (hbb.setCell (by simp) _), by simp; omega, ?_, ?_, ?_⟩
        · unfold Hid; rw [List.map_append, HP.out]; obtain ⟨hq, he⟩ := List.getElem?_eq_some_iff.1 Z1.out; rw [List.take_succ_eq_append_getElem hq, he]; rfl
        · exact HF'.widen (by simp) (Nat.le_refl _)
        · rw [← hfin]; exact hs0.1
    · go_wp2_with fail
      go_ret
      obtain rfl : k = x.length := by omega
      rw [Nat.sub_self, List.replicate_zero, List.append_nil] at hown
      have hP := HP.out
      rw [List.take_length] at hP
      exact ⟨_, rfl, ⟨ps, hP, OwnV.of_row hown hxl, (HF.out : FamO wr _ _ _ _).widen (Nat.le_refl _) (by omega), hs⟩, hb⟩
set_option maxRecDepth 100000 in
set_option maxHeartbeats 4000000 in
theorem L_eq_Int64SS (x : List TN) (v1 v2 : Value) (lo1 hi1 lo2 hi2 : Nat) (w : World) (h1 : O_Int64SS w lo1 hi1 v1 x) (h2 : O_Int64SS w lo2 hi2 v2 x) :
    Calls Try.prog 51 #[v1, v2] w fun e w' => e = .returned (.bool true) ∧ Below w.heap.size w w' := by
  have hs := h1.small
  have hxl : x.length ≤ 1048576 := by unfold SmallN at hs; omega
  obtain ⟨A, c, rfl, r1⟩ := h1.r
  obtain ⟨A2, c2, rfl, r2⟩ := h2.r
  have HX := hide r1; have HY := hide r2
  have Hs := hide hs
  have hB : ((x.length : Int) != x.length) = false := by simp
  clear h1 h2 r1 r2 hs
  go_enter Try.func51, Try.ntmps51
  go_wp2_with fail
  go_loopg [5] x.length (fun g i wr => ∃ k : Nat, k ≤ x.length ∧ Hid (g = x.length - k) ∧ i = .int .i64 k ∧ Below w.heap.size w wr)
  case atStart => exact ⟨0, by omega, by simp [Hid], rfl, Below.refl _ _⟩
  case round =>
    obtain ⟨k, hk, hg, rfl, hb⟩ := hrel
    by_cases hlt : k < x.length
    · obtain ⟨b1, o1, z1, Aw, cw, rfl, hb1, hz1, hrw, hc0, hc1, hc2⟩ := (HX.out.below hb).at_ (by omega) hlt
      obtain ⟨b2, o2, z2, Aw2, cw2, rfl, hb2, hz2, hrw2, hd0, hd1, hd2⟩ := (HY.out.below hb).at_ (by omega) hlt
      obtain rfl : z1 = z2 := by rw [hz1] at hz2; exact Option.some.inj hz2
      have hw1 := Hs.out.way hz1
      clear hz1 hz2
      rw [Nat.zero_add, Nat.mul_one] at hc0
      rw [Nat.zero_add, Nat.mul_one] at hd0
      clear hc1 hc2 hd1 hd2
      have HC := hide fun W (hW : Below w.heap.size wr W) => eqI_refl z1.way Aw Aw2 cw cw2 W (by omega) ((hrw.below hW).more (Nat.le_trans hb.size hW.size)) ((hrw2.below hW).more (Nat.le_trans hb.size hW.size))
      clear hrw hrw2
      go_wp2_with fail
      go_still_tail 8, (by kernel_rfl)
      change wpList _ _ _ _ _ wr.drew
      have hb3 : Below w.heap.size w wr.drew := hb.drew
      have hb4 : Below w.heap.size wr wr.drew := (Below.refl _ _).drew
      have HC2 := hide (HC.out _ hb4)
      generalize wr.drew = w2 at *
      go_wp2_with (go_at_call 52; refine (HC2.out).mono ?_; rintro e w1 ⟨rfl, hb1⟩)
      go_roundg (x.length - (k + 1))
      case measure => have := hg.out; omega
      case rel => exact ⟨k + 1, by omega, rfl, by go_num, hb3.trans (hb1.mono hb3.size)⟩
    · go_wp2_with fail
      go_ret
      exact ⟨rfl, hb⟩
set_option maxRecDepth 100000 in
set_option maxHeartbeats 4000000 in
theorem L_sz_Int64SS (x : List TN) (v : Value) (left : Int) (B : Nat) (w : World) (hx : LenN x) (hl : 0 ≤ left) (hl2 : left ≤ 1048576) (hB : B ≤ w.heap.size) (h : R_Int64SS w B v x) :
    Calls Try.prog 60 #[v, .int .i64 left] w fun e w' => e = .returned (.int .i64 (szF (sizeN x) left)) ∧ Below w.heap.size w w' := by
  obtain ⟨A, c, rfl, h1⟩ := h
  obtain ⟨hx1, hx2⟩ := hx
  have HX := hide (h1.more hB)
  have HW := hide hx2
  clear h1 hx2
  by_cases g0 : (x.length : Int) ≤ left
  case neg =>
    have HR := hide (szF_no (n := sizeN x) (left := left) (by unfold sizeN; omega))
    have g0' : left - (x.length : Int) < 0 := by omega
    go_enter Try.func60, Try.ntmps60
    go_wp2_with fail
    go_ret
    exact ⟨by rw [HR.out]; rfl, Below.refl _ _⟩
  have HR := hide (show szF (sizeN x) left = szF ((x.drop 0).map fun e => e.way.length).sum (left - x.length) by rw [List.drop_zero]; exact szF_add g0)
  have g1 : 0 ≤ left - (x.length : Int) := by omega
  go_enter Try.func60, Try.ntmps60
  go_wp2_with fail
  go_loopg [1, 5] x.length (fun g l i wr => ∃ (k : Nat) (l' : Int), k ≤ x.length ∧ Hid (g = x.length - k) ∧ i = .int .i64 k ∧ l = .int .i64 l' ∧ 0 ≤ l' ∧ l' ≤ 1048576 ∧ Hid (szF (sizeN x) left = szF ((x.drop k).map fun e => e.way.length).sum l') ∧ Below w.heap.size w wr)
  case atStart => exact ⟨0, left - x.length, by omega, by simp [Hid], rfl, by go_num, by omega, by omega, HR, Below.refl _ _⟩
  case round =>
    obtain ⟨k, l', hk, hg, rfl, rfl, hl0, hl9, HS, hb⟩ := hrel
    clear HR
    by_cases hlt : k < x.length
    · obtain ⟨b1, o1, z1, Aw, cw, rfl, hb1, hz1, hrw, hc0, hc1, hc2⟩ := (HX.out.below hb).at_ (by omega) hlt
      have hwl := HW.out z1 (List.mem_of_getElem? hz1)
      rw [Nat.zero_add, Nat.mul_one] at hc0
      clear hc1 hc2
      have HC := hide (szInt64S_any Aw z1.way.length cw l' wr hwl hl0 hl9)
      have HS' := HS.out
      rw [drop_cons hz1, List.map_cons, List.sum_cons] at HS'
      clear hz1 hrw HS
      by_cases g2 : (z1.way.length : Int) ≤ l'
      · rw [szF_yes g2] at HC
        rw [szF_add g2] at HS'
        have HQ := hide HS'
        have g3 : 0 ≤ l' - (z1.way.length : Int) := by omega
        clear HS'
        go_wp2_with (go_at_call 126; refine (HC.out).mono ?_; rintro e w1 ⟨rfl, rfl⟩)
        go_roundg (x.length - (k + 1))
        case measure => have := hg.out; omega
        case rel => exact ⟨k + 1, l' - z1.way.length, by omega, rfl, by go_num, rfl, by omega, by omega, HQ, hb⟩
      · rw [szF_no (n := z1.way.length) (left := l') (by omega)] at HC
        rw [szF_no (n := z1.way.length + ((x.drop (k + 1)).map fun e => e.way.length).sum) (left := l') (by omega)] at HS'
        have HQ := hide HS'
        clear HS'
        go_wp2_with (go_at_call 126; refine (HC.out).mono ?_; rintro e w1 ⟨rfl, rfl⟩)
        go_ret
        exact ⟨by rw [HQ.out]; rfl, hb⟩
    · have HQ := hide (HS.out.trans (show szF ((x.drop k).map fun e => e.way.length).sum l' = l' by rw [List.drop_eq_nil_of_le (by omega)]; unfold szF; simp; omega))
      go_wp2_with fail
      go_ret
      exact ⟨by rw [HQ.out]; rfl, hb⟩
/-! ### RunS -/
def R_RunS (w : World) (B : Nat) (v : Value) (x : List TN) : Prop := ∃ A c, v = .slice A x.length c ∧ RN 1 w B A x
def O_RunS (w : World) (lo hi : Nat) (v : Value) (x : List TN) : Prop := ON 136 1 w lo hi v x
theorem R_RunS.below {w w' : World} {B : Nat} {v : Value} {x : List TN} (h : R_RunS w B v x) (k : Below B w w') : R_RunS w' B v x := by
  obtain ⟨A, c, e, r⟩ := h; exact ⟨A, c, e, r.below k⟩
theorem R_RunS.more {w : World} {B B' : Nat} {v : Value} {x : List TN} (h : R_RunS w B v x) (k : B ≤ B') : R_RunS w B' v x := by
  obtain ⟨A, c, e, r⟩ := h; exact ⟨A, c, e, r.more k⟩
theorem O_RunS.r {w : World} {lo hi : Nat} {v : Value} {x : List TN} (h : O_RunS w lo hi v x) : R_RunS w w.heap.size v x := ON.r h
theorem O_RunS.small {w : World} {lo hi : Nat} {v : Value} {x : List TN} (h : O_RunS w lo hi v x) : SmallN x := ON.small h
theorem O_RunS.kept {w w' : World} {lo hi lo' hi' : Nat} {v : Value} {x : List TN} (h : O_RunS w lo hi v x) (k : Only lo' hi' w w') (hd : hi ≤ lo' ∨ hi' ≤ lo) : O_RunS w' lo hi v x := ON.kept h k hd
theorem O_RunS.below {w w' : World} {lo hi B : Nat} {v : Value} {x : List TN} (h : O_RunS w lo hi v x) (k : Below B w w') (hd : hi ≤ B) : O_RunS w' lo hi v x := ON.below h k hd
theorem O_RunS.widen {w : World} {lo hi lo' hi' : Nat} {v : Value} {x : List TN} (h : O_RunS w lo hi v x) (h1 : lo' ≤ lo) (h2 : hi ≤ hi') : O_RunS w lo' hi' v x := ON.widen h h1 h2
theorem O_RunS.nil (w : World) (lo hi : Nat) (A : Option Addr) (c : Nat) : O_RunS w lo hi (.slice A 0 c) [] := ON.nil _ _ _ _ _ _ _
def mark_RunS (x : List TN) (k : Int) : List TN := mkN 1 x k
def cnt_RunS (x : List TN) : Int := cntN 1 x
theorem O_RunS.cnt {w : World} {lo hi : Nat} {v : Value} {x : List TN} (h : O_RunS w lo hi v x) : 0 ≤ cnt_RunS x ∧ cnt_RunS x ≤ 4194304 := by
  have h1 := h.small
  have h2 := cntN_bd 1 (by omega) x
  unfold SmallN at h1
  unfold cnt_RunS
  omega
theorem RunS_info : (Try.prog.info? 136).map (fun i => (i.zero, i.size, i.bytes)) = some (some (.agg #[.slice none 0 0, .int .i64 0]), 2, 32) := by kernel_rfl
set_option maxRecDepth 100000 in
set_option maxHeartbeats 4000000 in
theorem toRun_any (x : TN) (A : Option Addr) (c : Nat) (w : World) (hs : x.way.length ≤ 1048576) (h1 : RdI w w.heap.size A x.way) :
    Calls Try.prog 118 #[.agg #[.slice A x.way.length c, .int .i64 x.p]] w fun e w' => ∃ A3 c3, e = .returned (.agg #[.slice A3 x.way.length c3, .int .i64 x.p]) ∧ O_Int64S w' w.heap.size w'.heap.size (.slice A3 x.way.length c3) x.way ∧ Below w.heap.size w w' := by
  have H1 := hide fun W (hW : Below w.heap.size w W) => L_to_Int64S x.way (.slice A x.way.length c) W hs ⟨A, c, rfl, (h1.below hW).more hW.size⟩
  clear h1
  go_enter Try.func118, Try.ntmps118
  go_wp2_with fail
  have b0 : Below w.heap.size w (((w.alloc (.cells #[.slice A x.way.length c, .int .i64 x.p] 133)).alloc (.cells #[.slice none 0 0, .int .i64 0] 136)).alloc (.cells #[.slice none 0 0, .int .i64 0] 136)) := (by repeat (first | exact Below.refl _ _ | assumption | (refine Below.alloc ?_ (by simp <;> omega) _) | refine Below.drew ?_ | refine bdn ?_ _))
  have x1 : BoxN (((w.alloc (.cells #[.slice A x.way.length c, .int .i64 x.p] 133)).alloc (.cells #[.slice none 0 0, .int .i64 0] 136)).alloc (.cells #[.slice none 0 0, .int .i64 0] 136)) w.heap.size #[.slice A x.way.length c, .int .i64 x.p] 133 := ((BoxN.new w _ _).alloc _).alloc _
  have x2 : BoxN (((w.alloc (.cells #[.slice A x.way.length c, .int .i64 x.p] 133)).alloc (.cells #[.slice none 0 0, .int .i64 0] 136)).alloc (.cells #[.slice none 0 0, .int .i64 0] 136)) (w.heap.size + 1) #[.slice none 0 0, .int .i64 0] 136 := by have := (BoxN.new (w.alloc (.cells #[.slice A x.way.length c, .int .i64 x.p] 133)) #[.slice none 0 0, .int .i64 0] 136).alloc (.cells #[.slice none 0 0, .int .i64 0] 136); simpa using this
  have x3 : BoxN (((w.alloc (.cells #[.slice A x.way.length c, .int .i64 x.p] 133)).alloc (.cells #[.slice none 0 0, .int .i64 0] 136)).alloc (.cells #[.slice none 0 0, .int .i64 0] 136)) (w.heap.size + 1 + 1) #[.slice none 0 0, .int .i64 0] 136 := by have := (BoxN.new ((w.alloc (.cells #[.slice A x.way.length c, .int .i64 x.p] 133)).alloc (.cells #[.slice none 0 0, .int .i64 0] 136)) #[.slice none 0 0, .int .i64 0] 136); simpa using this
  have z0 : w.heap.size + 3 ≤ (((w.alloc (.cells #[.slice A x.way.length c, .int .i64 x.p] 133)).alloc (.cells #[.slice none 0 0, .int .i64 0] 136)).alloc (.cells #[.slice none 0 0, .int .i64 0] 136)).heap.size := by simp
  generalize (((w.alloc (.cells #[.slice A x.way.length c, .int .i64 x.p] 133)).alloc (.cells #[.slice none 0 0, .int .i64 0] 136)).alloc (.cells #[.slice none 0 0, .int .i64 0] 136)) = w0 at *
  refine (H1.out _ b0).mono ?_
  rintro e w1 ⟨v1, rfl, o1, s1⟩
  have z1 := s1.size
  have sh1 := o1.1
  obtain ⟨A3, c3, rfl⟩ := sh1
  have y1 := x1.below s1 (by omega)
  have y2 := x2.below s1 (by omega)
  have y3 := x3.below s1 (by omega)
  have bb := b0.trans (s1.mono b0.size)
  clear x1 x2 x3 s1
  have kk0 := y3.cell 0
  have kf0 := y3.fro 0
  have t0 := y3.set 0 (.slice A3 x.way.length c3)
  have r0 := y1.other (show w.heap.size + 1 + 1 ≠ w.heap.size by omega) 0 (.slice A3 x.way.length c3)
  have g0 := y2.other (show w.heap.size + 1 + 1 ≠ w.heap.size + 1 by omega) 0 (.slice A3 x.way.length c3)
  have ra0 := r0.cell 1
  have kk1 := t0.cell 1
  have kf1 := t0.fro 1
  have t1 := t0.set 1 (.int .i64 x.p)
  have r1 := r0.other (show w.heap.size + 1 + 1 ≠ w.heap.size by omega) 1 (.int .i64 x.p)
  have g1 := g0.other (show w.heap.size + 1 + 1 ≠ w.heap.size + 1 by omega) 1 (.int .i64 x.p)
  have i0 := t1.cell 0
  have j0 := g1.cell 0
  have l0 := g1.fro 0
  have i1 := t1.cell 1
  have j1 := g1.cell 1
  have l1 := g1.fro 1
  simp only [Array.toList_setIfInBounds, List.set_cons_succ, List.set_cons_zero, List.getElem?_cons_succ, List.getElem?_cons_zero] at kk0 kk1 ra0 i0 i1 j0 j1
  clear y1 y2 y3
  go_wp2_with fail
  have f3 := ((g1.set 0 (.slice A3 x.way.length c3)).set 1 (.int .i64 x.p))
  have q0 := f3.cell 0
  have q1 := f3.cell 1
  simp only [Array.toList_setIfInBounds, List.set_cons_succ, List.set_cons_zero, List.getElem?_cons_succ, List.getElem?_cons_zero] at q0 q1
  refine bodyPost_ret (v := .agg #[.slice A3 x.way.length c3, .int .i64 x.p]) (by simp [results, Try.results118, go_sem, q0, q1]) rfl ⟨_, _, rfl, ?_, ?_⟩
  · have KO := only_trans (only_trans (only_trans (onlyN_set (w := w1) (b := w.heap.size + 1 + 1) (j := 0) (v := .slice A3 x.way.length c3) (lo := w.heap.size) (hi := w.heap.size + 3) (by omega) (by omega)) (onlyN_set (b := w.heap.size + 1 + 1) (j := 1) (v := .int .i64 x.p) (lo := w.heap.size) (hi := w.heap.size + 3) (by omega) (by omega))) (onlyN_set (b := w.heap.size + 1) (j := 0) (v := .slice A3 x.way.length c3) (lo := w.heap.size) (hi := w.heap.size + 3) (by omega) (by omega))) (onlyN_set (b := w.heap.size + 1) (j := 1) (v := .int .i64 x.p) (lo := w.heap.size) (hi := w.heap.size + 3) (by omega) (by omega))
    exact (o1.kept KO (.inr (by omega))).widen (by omega) (by simp)
  · exact ((((bb.setCell (by simp; omega) _).setCell (by simp; omega) _).setCell (by simp) _).setCell (by simp) _)
set_option maxRecDepth 100000 in
set_option maxHeartbeats 4000000 in
theorem eqRun_any (x : TN) (A A2 : Option Addr) (c c2 : Nat) (w : World) (hs : x.way.length ≤ 9223372036854775807) (h1 : RdI w w.heap.size A x.way) (h2 : RdI w w.heap.size A2 x.way) :
    Calls Try.prog 121 #[.agg #[.slice A x.way.length c, .int .i64 x.p], .agg #[.slice A2 x.way.length c2, .int .i64 x.p]] w fun e w' => e = .returned (.bool true) ∧ Below w.heap.size w w' := by
  have H1 := hide fun W (hW : Below w.heap.size w W) => eqInt64S_any x.way x.way A A2 c c2 W hs hs ((h1.below hW).more hW.size) ((h2.below hW).more hW.size)
  rw [decide_eq_true (rfl : x.way = x.way)] at H1
  clear h1 h2
  go_enter Try.func121, Try.ntmps121
  have b0 : Below w.heap.size w ((w.alloc (.cells #[.slice A x.way.length c, .int .i64 x.p] 136)).alloc (.cells #[.slice A2 x.way.length c2, .int .i64 x.p] 136)) := (by repeat (first | exact Below.refl _ _ | assumption | (refine Below.alloc ?_ (by simp <;> omega) _) | refine Below.drew ?_ | refine bdn ?_ _))
  have x1 : BoxN ((w.alloc (.cells #[.slice A x.way.length c, .int .i64 x.p] 136)).alloc (.cells #[.slice A2 x.way.length c2, .int .i64 x.p] 136)) w.heap.size #[.slice A x.way.length c, .int .i64 x.p] 136 := (BoxN.new w _ _).alloc _
  have x2 : BoxN ((w.alloc (.cells #[.slice A x.way.length c, .int .i64 x.p] 136)).alloc (.cells #[.slice A2 x.way.length c2, .int .i64 x.p] 136)) (w.heap.size + 1) #[.slice A2 x.way.length c2, .int .i64 x.p] 136 := by have := BoxN.new (w.alloc (.cells #[.slice A x.way.length c, .int .i64 x.p] 136)) #[.slice A2 x.way.length c2, .int .i64 x.p] 136; simpa using this
  have z0 : w.heap.size + 2 ≤ ((w.alloc (.cells #[.slice A x.way.length c, .int .i64 x.p] 136)).alloc (.cells #[.slice A2 x.way.length c2, .int .i64 x.p] 136)).heap.size := by simp
  go_wp2_with fail
  generalize ((w.alloc (.cells #[.slice A x.way.length c, .int .i64 x.p] 136)).alloc (.cells #[.slice A2 x.way.length c2, .int .i64 x.p] 136)) = w0 at *
  refine (H1.out _ b0).mono ?_
  rintro e w1 ⟨rfl, s1⟩
  have y1 := x1.below s1 (by omega)
  have y2 := x2.below s1 (by omega)
  have bb := b0.trans (s1.mono b0.size)
  have k1 := y1.cell 1
  have l1 := y2.cell 1
  have n1 : (x.p != x.p) = false := by simp
  simp only [List.getElem?_cons_succ, List.getElem?_cons_zero] at k1 l1
  clear x1 x2 y1 y2 s1
  go_wp2_with fail
  go_ret
  exact ⟨rfl, bb⟩
set_option maxRecDepth 100000 in
set_option maxHeartbeats 4000000 in
theorem szRun_any (x : TN) (A : Option Addr) (c : Nat) (left : Int) (w : World) (hs : x.way.length ≤ 9223372036854775807) (hl : 0 ≤ left) (hl2 : left ≤ 1048576) :
    Calls Try.prog 115 #[.agg #[.slice A x.way.length c, .int .i64 x.p], .int .i64 left] w fun e w' => e = .returned (.int .i64 (szF x.way.length left)) ∧ Below w.heap.size w w' := by
  have H1 := hide fun W => szInt64S_any A x.way.length c left W hs hl hl2
  have hlo : -1 ≤ szF x.way.length left := by unfold szF; split <;> omega
  have hup : szF x.way.length left ≤ 1048576 := by unfold szF; split <;> omega
  generalize szF x.way.length left = q at *
  by_cases hq : q < 0
  · have hq' : q = -1 := by omega
    subst hq'
    go_enter Try.func115, Try.ntmps115
    go_wp2_with fail
    refine (H1.out _).mono ?_
    rintro e w1 ⟨rfl, rfl⟩
    go_wp2_with fail
    go_ret
    exact ⟨rfl, (by repeat (first | exact Below.refl _ _ | assumption | (refine Below.alloc ?_ (by simp <;> omega) _) | refine Below.drew ?_ | refine bdn ?_ _))⟩
  · go_enter Try.func115, Try.ntmps115
    go_wp2_with fail
    refine (H1.out _).mono ?_
    rintro e w1 ⟨rfl, rfl⟩
    go_wp2_with fail
    go_ret
    exact ⟨rfl, (by repeat (first | exact Below.refl _ _ | assumption | (refine Below.alloc ?_ (by simp <;> omega) _) | refine Below.drew ?_ | refine bdn ?_ _))⟩
set_option maxRecDepth 100000 in
set_option maxHeartbeats 4000000 in
theorem L_to_RunS (x : List TN) (v : Value) (w : World) (hs : SmallN x) (h : R_RunS w w.heap.size v x) :
    Calls Try.prog 49 #[v] w fun e w' => ∃ v', e = .returned v' ∧ O_RunS w' w.heap.size w'.heap.size v' x ∧ Below w.heap.size w w' := by
  obtain ⟨A, c, rfl, h1⟩ := h
  have hxl : x.length ≤ 1048576 := by unfold SmallN at hs; omega
  obtain ⟨i0, hi0, hz0, hs0, hb0⟩ := info_parts RunS_info
  have HX := hide h1; clear h1
  go_enter Try.func49, Try.ntmps49
  go_wp2_with (refine wpList_make_full _ rfl _ _ _ rfl w.heap.size 136 i0 _ 2 Try.underlying70 hi0 hz0 hs0 .i64 .i64 (x.length : Int) (x.length : Int) x.length rfl rfl rfl rfl (by rw [hb0]; omega) (by unfold maxLen; omega) (Nat.le_refl _) ?_; intro w1 hown1 hgr1)
  have hown2 : w1.ownsRow w.heap.size 136 2 (.slice (some ⟨w.heap.size, 0, none⟩) x.length x.length) x.length ((([] : List (Value × TN)) ++ List.replicate (x.length - 0) zp).flatMap (Nc 1)) := by
    rw [List.nil_append, Nat.sub_zero, ← made_flatMap (Nc 1) 2 (fun _ => rfl) zp (by omega)]; exact hown1
  have hbel1 : Below w.heap.size w w1 := (Below.refl _ _).grown hgr1 (Nat.le_refl _) (by intro k hk; cases hk)
  have hsz1 : w.heap.size < w1.heap.size := (hown1.lt _ rfl).2
  clear hown1 hgr1
  go_loopg [4] x.length (fun g i wr => ∃ (k : Nat) (ps : List (Value × TN)), k ≤ x.length ∧ Hid (g = x.length - k) ∧ i = .int .i64 k ∧ Below w.heap.size w wr ∧ w.heap.size < wr.heap.size ∧ Hid (ps.map (·.2) = x.take k) ∧ Hid (FamO wr (some w.heap.size) (w.heap.size + 1) wr.heap.size ps) ∧
    wr.ownsRow w.heap.size 136 2 (.slice (some ⟨w.heap.size, 0, none⟩) x.length x.length) x.length ((ps ++ List.replicate (x.length - k) zp).flatMap (Nc 1)))
  case atStart => exact ⟨0, [], by omega, by simp [Hid], rfl, hbel1, hsz1, by simp [Hid], trivial, hown2⟩
  case round =>
    obtain ⟨k, ps, hk, hg, rfl, hb, hsl, HP, HF, hown⟩ := hrel
    clear hown2 hbel1 hsz1
    have hpl : ps.length = k := by have := congrArg List.length HP.out; simp at this; omega
    by_cases hlt : k < x.length
    · obtain ⟨b1, o1, z1, Aw, cw, rfl, hb1, hz1, hrw, hc0, hc1, hc2⟩ := (HX.out.below hb).at_ (by omega) hlt
      have Z1 := hide hz1
      have hw1 := hs.way hz1
      clear hz1
      have HT := hide (toRun_any z1 Aw cw wr hw1 ((hrw).more hb.size))
      have hgt := hide (nest_get hpl hlt)
      have hlen := hide (nest_len (m := 0) hpl hk)
      have Hs := hide hs
      clear hrw hs
      have hn1 := hc1 (by omega)
      clear hc1 hc2
      go_wp2_with (go_at_call 118; refine (HT.out).mono ?_; rintro e w2 ⟨A3, c3, rfl, ho3, hbw⟩; have hownw := own_below hown hbw (Nat.le_refl _); have hq0 : w2.cell? ⟨w.heap.size, k * 2, none⟩ = some (.slice none 0 0) := (hownw.cellAt (k * 2) (by omega)).trans (flatMap_get _ 2 (fun _ => rfl) _ k 0 _ hgt.out (by omega)); have hf0 := hownw.frozenAt (k * 2); have hq1 : w2.cell? ⟨w.heap.size, k * 2 + 1, none⟩ = some (.int .i64 0) := (hownw.cellAt (k * 2 + 1) (by omega)).trans (flatMap_get _ 2 (fun _ => rfl) _ k 1 _ hgt.out (by omega)); have hf1 := hownw.frozenAt (k * 2 + 1))
      have hz := hbw.size
      have hbb := hb.trans (hbw.mono hb.size)
      have hs0 := hownw.stored (k * 2) (.slice A3 z1.way.length c3)
      have hs1 := hs0.1.stored (k * 2 + 1) (.int .i64 z1.p)
      have hfin := store1 hgt.out (.slice A3 z1.way.length c3) z1
      rw [nest_set hpl hlt] at hfin
      have KO := only_trans (onlyN_set (w := w2) (b := w.heap.size) (j := k * 2) (v := .slice A3 z1.way.length c3) (lo := w.heap.size) (hi := w.heap.size + 1) (by omega) (by omega)) (onlyN_set (b := w.heap.size) (j := k * 2 + 1) (v := .int .i64 z1.p) (lo := w.heap.size) (hi := w.heap.size + 1) (by omega) (by omega))
      have HF' := ((HF.out.below hbw (Nat.le_refl _)).snoc (hi := w2.heap.size) (p := (.slice A3 z1.way.length c3, z1)) (Nat.le_refl _) hz (Nat.le_refl _) (fun g hg => by cases hg; omega) ho3 (by omega)).keptB KO
      go_roundg (x.length - (k + 1))
      case measure => have := hg.out; omega
      case rel =>
        refine ⟨k + 1, ps ++ [(.slice A3 z1.way.length c3, z1)], by omega, rfl, by go_num, ((hbb.setCell (by simp) _).setCell (by simp) _), by simp; omega, ?_, ?_, ?_⟩
        · unfold Hid; rw [List.map_append, HP.out]; obtain ⟨hq, he⟩ := List.getElem?_eq_some_iff.1 Z1.out; rw [List.take_succ_eq_append_getElem hq, he]; rfl
        · exact HF'.widen (by simp) (Nat.le_refl _)
        · rw [← hfin]; exact hs1.1
    · go_wp2_with fail
      go_ret
      obtain rfl : k = x.length := by omega
      rw [Nat.sub_self, List.replicate_zero, List.append_nil] at hown
      have hP := HP.out
      rw [List.take_length] at hP
      exact ⟨_, rfl, ⟨ps, hP, OwnV.of_row hown hxl, (HF.out : FamO wr _ _ _ _).widen (Nat.le_refl _) (by omega), hs⟩, hb⟩
set_option maxRecDepth 100000 in
set_option maxHeartbeats 4000000 in
theorem L_eq_RunS (x : List TN) (v1 v2 : Value) (lo1 hi1 lo2 hi2 : Nat) (w : World) (h1 : O_RunS w lo1 hi1 v1 x) (h2 : O_RunS w lo2 hi2 v2 x) :
    Calls Try.prog 53 #[v1, v2] w fun e w' => e = .returned (.bool true) ∧ Below w.heap.size w w' := by
  have hs := h1.small
  have hxl : x.length ≤ 1048576 := by unfold SmallN at hs; omega
  obtain ⟨A, c, rfl, r1⟩ := h1.r
  obtain ⟨A2, c2, rfl, r2⟩ := h2.r
  have HX := hide r1; have HY := hide r2
  have Hs := hide hs
  have hB : ((x.length : Int) != x.length) = false := by simp
  clear h1 h2 r1 r2 hs
  go_enter Try.func53, Try.ntmps53
  go_wp2_with fail
  go_loopg [5] x.length (fun g i wr => ∃ k : Nat, k ≤ x.length ∧ Hid (g = x.length - k) ∧ i = .int .i64 k ∧ Below w.heap.size w wr)
  case atStart => exact ⟨0, by omega, by simp [Hid], rfl, Below.refl _ _⟩
  case round =>
    obtain ⟨k, hk, hg, rfl, hb⟩ := hrel
    by_cases hlt : k < x.length
    · obtain ⟨b1, o1, z1, Aw, cw, rfl, hb1, hz1, hrw, hc0, hc1, hc2⟩ := (HX.out.below hb).at_ (by omega) hlt
      obtain ⟨b2, o2, z2, Aw2, cw2, rfl, hb2, hz2, hrw2, hd0, hd1, hd2⟩ := (HY.out.below hb).at_ (by omega) hlt
      obtain rfl : z1 = z2 := by rw [hz1] at hz2; exact Option.some.inj hz2
      have hw1 := Hs.out.way hz1
      clear hz1 hz2
      have hn1 := hc1 (by omega)
      have he1 := hd1 (by omega)
      clear hc1 hc2 hd1 hd2
      have HC := hide fun W (hW : Below w.heap.size wr W) => eqRun_any z1 Aw Aw2 cw cw2 W (by omega) ((hrw.below hW).more (Nat.le_trans hb.size hW.size)) ((hrw2.below hW).more (Nat.le_trans hb.size hW.size))
      clear hrw hrw2
      go_wp2_with fail
      go_still_tail 8, (by kernel_rfl)
      change wpList _ _ _ _ _ wr.drew
      have hb3 : Below w.heap.size w wr.drew := hb.drew
      have hb4 : Below w.heap.size wr wr.drew := (Below.refl _ _).drew
      have HC2 := hide (HC.out _ hb4)
      generalize wr.drew = w2 at *
      go_wp2_with (go_at_call 121; refine (HC2.out).mono ?_; rintro e w1 ⟨rfl, hb1⟩)
      go_roundg (x.length - (k + 1))
      case measure => have := hg.out; omega
      case rel => exact ⟨k + 1, by omega, rfl, by go_num, hb3.trans (hb1.mono hb3.size)⟩
    · go_wp2_with fail
      go_ret
      exact ⟨rfl, hb⟩
set_option maxRecDepth 100000 in
set_option maxHeartbeats 4000000 in
theorem L_sz_RunS (x : List TN) (v : Value) (left : Int) (B : Nat) (w : World) (hx : LenN x) (hl : 0 ≤ left) (hl2 : left ≤ 1048576) (hB : B ≤ w.heap.size) (h : R_RunS w B v x) :
    Calls Try.prog 46 #[v, .int .i64 left] w fun e w' => e = .returned (.int .i64 (szF (sizeN x) left)) ∧ Below w.heap.size w w' := by
  obtain ⟨A, c, rfl, h1⟩ := h
  obtain ⟨hx1, hx2⟩ := hx
  have HX := hide (h1.more hB)
  have HW := hide hx2
  clear h1 hx2
  by_cases g0 : (x.length : Int) ≤ left
  case neg =>
    have HR := hide (szF_no (n := sizeN x) (left := left) (by unfold sizeN; omega))
    have g0' : left - (x.length : Int) < 0 := by omega
    go_enter Try.func46, Try.ntmps46
    go_wp2_with fail
    go_ret
    exact ⟨by rw [HR.out]; rfl, Below.refl _ _⟩
  have HR := hide (show szF (sizeN x) left = szF ((x.drop 0).map fun e => e.way.length).sum (left - x.length) by rw [List.drop_zero]; exact szF_add g0)
  have g1 : 0 ≤ left - (x.length : Int) := by omega
  go_enter Try.func46, Try.ntmps46
  go_wp2_with fail
  go_loopg [1, 5] x.length (fun g l i wr => ∃ (k : Nat) (l' : Int), k ≤ x.length ∧ Hid (g = x.length - k) ∧ i = .int .i64 k ∧ l = .int .i64 l' ∧ 0 ≤ l' ∧ l' ≤ 1048576 ∧ Hid (szF (sizeN x) left = szF ((x.drop k).map fun e => e.way.length).sum l') ∧ Below w.heap.size w wr)
  case atStart => exact ⟨0, left - x.length, by omega, by simp [Hid], rfl, by go_num, by omega, by omega, HR, Below.refl _ _⟩
  case round =>
    obtain ⟨k, l', hk, hg, rfl, rfl, hl0, hl9, HS, hb⟩ := hrel
    clear HR
    by_cases hlt : k < x.length
    · obtain ⟨b1, o1, z1, Aw, cw, rfl, hb1, hz1, hrw, hc0, hc1, hc2⟩ := (HX.out.below hb).at_ (by omega) hlt
      have hwl := HW.out z1 (List.mem_of_getElem? hz1)
      have hn1 := hc1 (by omega)
      clear hc1 hc2
      have HC := hide (szRun_any z1 Aw cw l' wr hwl hl0 hl9)
      have HS' := HS.out
      rw [drop_cons hz1, List.map_cons, List.sum_cons] at HS'
      clear hz1 hrw HS
      by_cases g2 : (z1.way.length : Int) ≤ l'
      · rw [szF_yes g2] at HC
        rw [szF_add g2] at HS'
        have HQ := hide HS'
        have g3 : 0 ≤ l' - (z1.way.length : Int) := by omega
        clear HS'
        go_wp2_with (go_at_call 115; refine (HC.out).mono ?_; rintro e w1 ⟨rfl, hb2⟩)
        go_roundg (x.length - (k + 1))
        case measure => have := hg.out; omega
        case rel => exact ⟨k + 1, l' - z1.way.length, by omega, rfl, by go_num, rfl, by omega, by omega, HQ, hb.trans (hb2.mono hb.size)⟩
      · rw [szF_no (n := z1.way.length) (left := l') (by omega)] at HC
        rw [szF_no (n := z1.way.length + ((x.drop (k + 1)).map fun e => e.way.length).sum) (left := l') (by omega)] at HS'
        have HQ := hide HS'
        clear HS'
        go_wp2_with (go_at_call 115; refine (HC.out).mono ?_; rintro e w1 ⟨rfl, hb2⟩)
        go_ret
        exact ⟨by rw [HQ.out]; rfl, hb.trans (hb2.mono hb.size)⟩
    · have HQ := hide (HS.out.trans (show szF ((x.drop k).map fun e => e.way.length).sum l' = l' by rw [List.drop_eq_nil_of_le (by omega)]; unfold szF; simp; omega))
      go_wp2_with fail
      go_ret
      exact ⟨by rw [HQ.out]; rfl, hb⟩
end Go.Proofs.Ytflbddfmhjlknaa
