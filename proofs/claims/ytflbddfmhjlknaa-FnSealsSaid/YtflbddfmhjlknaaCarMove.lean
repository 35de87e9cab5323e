/-
  Moves of carriers: which moves are valid; one carrier's way is sent; in the program and in the reference.
-/
import Derived.Test.YtflbddfmhjlknaaCarSL
import Derived.Test.YtflbddfmhjlknaaLib
namespace Go.Proofs.Ytflbddfmhjlknaa
open Go.RowKit

def okMove (n : Int) (m : T3) : Bool := inB 0 (n - 1) m.a && (inB 0 (n - 1) m.b && (!decide (m.a = m.b) && inB 1 200 m.c))
theorem okMove_iff {n : Int} {m : T3} : okMove n m = true ↔ (0 ≤ m.a ∧ m.a ≤ n - 1) ∧ (0 ≤ m.b ∧ m.b ≤ n - 1) ∧ m.a ≠ m.b ∧ (1 ≤ m.c ∧ m.c ≤ 200) := by
  simp [okMove, inB]
def vMoves (n : Int) (ms : List T3) : Bool := ms.all (okMove n) && decide (ms.length ≤ 40)

set_option maxRecDepth 100000 in
set_option maxHeartbeats 2000000 in
theorem isMove_any (n : Int) (m : T3) (w : World) (hn : 0 ≤ n) (hn' : n ≤ 1048576) :
    Calls Try.prog 86 #[.int .i64 n, .agg #[.int .i64 m.a, .int .i64 m.b, .int .i64 m.c]] w fun e w' => e = .returned (.bool (okMove n m)) ∧ Below w.heap.size w w' := by
  by_cases h1 : 0 ≤ m.a ∧ m.a ≤ n - 1
  case neg =>
    have h1' : m.a < 0 ∨ n - 1 < m.a := by omega
    have H := hide (show okMove n m = false by simp [okMove, inB_f h1'])
    clear h1
    go_enter Try.func86, Try.ntmps86
    go_wp2_with (go_at_call 80; first | (refine (within_t _ _ _ _ (by omega)).mono ?_; rintro e w' ⟨rfl, rfl⟩) | (refine (within_f _ _ _ _ (by omega)).mono ?_; rintro e w' ⟨rfl, rfl⟩))
    go_ret
    exact ⟨ret_b H.out.symm, (by repeat (first | exact Below.refl _ _ | assumption | (refine Below.alloc ?_ (by simp <;> omega) _) | refine Below.drew ?_ | refine bdn ?_ _))⟩
  by_cases h2 : 0 ≤ m.b ∧ m.b ≤ n - 1
  case neg =>
    have h2' : m.b < 0 ∨ n - 1 < m.b := by omega
    have H := hide (show okMove n m = false by simp [okMove, inB_f h2'])
    clear h2
    go_enter Try.func86, Try.ntmps86
    go_wp2_with (go_at_call 80; first | (refine (within_t _ _ _ _ (by omega)).mono ?_; rintro e w' ⟨rfl, rfl⟩) | (refine (within_f _ _ _ _ (by omega)).mono ?_; rintro e w' ⟨rfl, rfl⟩))
    go_ret
    exact ⟨ret_b H.out.symm, (by repeat (first | exact Below.refl _ _ | assumption | (refine Below.alloc ?_ (by simp <;> omega) _) | refine Below.drew ?_ | refine bdn ?_ _))⟩
  by_cases h3 : m.a = m.b
  case pos =>
    have H := hide (show okMove n m = false by simp [okMove, h3])
    have hB : (m.a != m.b) = false := by simp [h3]
    have h3' := hide h3; clear h3
    go_enter Try.func86, Try.ntmps86
    go_wp2_with (go_at_call 80; first | (refine (within_t _ _ _ _ (by omega)).mono ?_; rintro e w' ⟨rfl, rfl⟩) | (refine (within_f _ _ _ _ (by omega)).mono ?_; rintro e w' ⟨rfl, rfl⟩))
    go_ret
    exact ⟨ret_b H.out.symm, (by repeat (first | exact Below.refl _ _ | assumption | (refine Below.alloc ?_ (by simp <;> omega) _) | refine Below.drew ?_ | refine bdn ?_ _))⟩
  have hB : (m.a != m.b) = true := by simp [h3]
  by_cases h4 : 1 ≤ m.c ∧ m.c ≤ 200
  case neg =>
    have h4' : m.c < 1 ∨ 200 < m.c := by omega
    have H := hide (show okMove n m = false by simp [okMove, inB_f h4'])
    have h3' := hide h3; clear h3 h4
    go_enter Try.func86, Try.ntmps86
    go_wp2_with (go_at_call 80; first | (refine (within_t _ _ _ _ (by omega)).mono ?_; rintro e w' ⟨rfl, rfl⟩) | (refine (within_f _ _ _ _ (by omega)).mono ?_; rintro e w' ⟨rfl, rfl⟩))
    go_ret
    exact ⟨ret_b H.out.symm, (by repeat (first | exact Below.refl _ _ | assumption | (refine Below.alloc ?_ (by simp <;> omega) _) | refine Below.drew ?_ | refine bdn ?_ _))⟩
  have H := hide (okMove_iff.2 ⟨h1, h2, h3, h4⟩)
  have h3' := hide h3; clear h3
  go_enter Try.func86, Try.ntmps86
  go_wp2_with (go_at_call 80; first | (refine (within_t _ _ _ _ (by omega)).mono ?_; rintro e w' ⟨rfl, rfl⟩) | (refine (within_f _ _ _ _ (by omega)).mono ?_; rintro e w' ⟨rfl, rfl⟩))
  go_ret
  exact ⟨ret_b H.out.symm, (by repeat (first | exact Below.refl _ _ | assumption | (refine Below.alloc ?_ (by simp <;> omega) _) | refine Below.drew ?_ | refine bdn ?_ _))⟩
set_option maxRecDepth 100000 in
set_option maxHeartbeats 2000000 in
theorem l07Move_any (n : Int) (m : T3) (p q : Nat) (w : World) (hn : 0 ≤ n) (hn' : n ≤ 1048576) (c0 : w.cell? ⟨p, q, none⟩ = some (.int .i64 m.a)) (c1 : w.cell? ⟨p, q + 1, none⟩ = some (.int .i64 m.b)) (c2 : w.cell? ⟨p, q + 2, none⟩ = some (.int .i64 m.c)) :
    Calls Try.prog 89 #[.int .i64 n, .pointer (some ⟨p, q, none⟩)] w fun e w' => e = .returned (.bool (okMove n m)) ∧ Below w.heap.size w w' := by
  by_cases h1 : 0 ≤ m.a ∧ m.a ≤ n - 1
  case neg =>
    have h1' : m.a < 0 ∨ n - 1 < m.a := by omega
    have H := hide (show okMove n m = false by simp [okMove, inB_f h1'])
    clear h1
    go_enter Try.func89, Try.ntmps89
    go_wp2_with fail
    go_quiet ((go_at_call 83; first | exact ql (l00In_t _ _ _ _ (by omega)) | exact ql (l00In_f _ _ _ _ (by omega)) | exact qla (l00In_t _ _ _ _ (by omega)) | exact qla (l00In_f _ _ _ _ (by omega))))
    go_wp2_with fail
    go_ret
    exact ⟨ret_b H.out.symm, bdn (Below.refl _ _) _⟩
  by_cases h2 : 0 ≤ m.b ∧ m.b ≤ n - 1
  case neg =>
    have h2' : m.b < 0 ∨ n - 1 < m.b := by omega
    have H := hide (show okMove n m = false by simp [okMove, inB_f h2'])
    clear h2
    go_enter Try.func89, Try.ntmps89
    go_wp2_with fail
    go_quiet ((go_at_call 83; first | exact ql (l00In_t _ _ _ _ (by omega)) | exact ql (l00In_f _ _ _ _ (by omega)) | exact qla (l00In_t _ _ _ _ (by omega)) | exact qla (l00In_f _ _ _ _ (by omega))))
    go_wp2_with fail
    go_ret
    exact ⟨ret_b H.out.symm, bdn (Below.refl _ _) _⟩
  by_cases h3 : m.a = m.b
  case pos =>
    have H := hide (show okMove n m = false by simp [okMove, h3])
    have hB : (m.a != m.b) = false := by simp [h3]
    have h3' := hide h3; clear h3
    go_enter Try.func89, Try.ntmps89
    go_wp2_with fail
    go_quiet ((go_at_call 83; first | exact ql (l00In_t _ _ _ _ (by omega)) | exact ql (l00In_f _ _ _ _ (by omega)) | exact qla (l00In_t _ _ _ _ (by omega)) | exact qla (l00In_f _ _ _ _ (by omega))))
    go_wp2_with fail
    go_ret
    exact ⟨ret_b H.out.symm, bdn (Below.refl _ _) _⟩
  have hB : (m.a != m.b) = true := by simp [h3]
  by_cases h4 : 1 ≤ m.c ∧ m.c ≤ 200
  case neg =>
    have h4' : m.c < 1 ∨ 200 < m.c := by omega
    have H := hide (show okMove n m = false by simp [okMove, inB_f h4'])
    have h3' := hide h3; clear h3 h4
    go_enter Try.func89, Try.ntmps89
    go_wp2_with fail
    go_quiet ((go_at_call 83; first | exact ql (l00In_t _ _ _ _ (by omega)) | exact ql (l00In_f _ _ _ _ (by omega)) | exact qla (l00In_t _ _ _ _ (by omega)) | exact qla (l00In_f _ _ _ _ (by omega))))
    go_wp2_with fail
    go_ret
    exact ⟨ret_b H.out.symm, bdn (Below.refl _ _) _⟩
  have H := hide (okMove_iff.2 ⟨h1, h2, h3, h4⟩)
  have h3' := hide h3; clear h3
  go_enter Try.func89, Try.ntmps89
  go_wp2_with fail
  go_quiet ((go_at_call 83; first | exact ql (l00In_t _ _ _ _ (by omega)) | exact ql (l00In_f _ _ _ _ (by omega)) | exact qla (l00In_t _ _ _ _ (by omega)) | exact qla (l00In_f _ _ _ _ (by omega))))
  go_wp2_with fail
  go_ret
  exact ⟨ret_b H.out.symm, bdn (Below.refl _ _) _⟩
set_option maxRecDepth 100000 in
set_option maxHeartbeats 1000000 in
theorem areMoves1_any (n : Int) (m : T3) (b : Nat) (w : World) (hn : 0 ≤ n) (hn' : n ≤ 1048576) (hc : w.cell? ⟨b, 0, none⟩ = some (.int .i64 n)) :
    Calls Try.prog 142 #[.agg #[.int .i64 m.a, .int .i64 m.b, .int .i64 m.c], .pointer (some ⟨b, 0, none⟩)] w fun e w' => e = .returned (.bool (!okMove n m)) ∧ Below w.heap.size w w' := by
  have HC := hide fun W => isMove_any n m W hn hn'
  have hlt := World.block_lt_of_cell? w _ hc
  dsimp only at hlt
  go_enter Try.func142, Try.ntmps142
  go_wp2_with (go_at_call 86; refine (HC.out _).mono ?_; rintro e w1 ⟨rfl, hb1⟩)
  go_ret
  exact ⟨rfl, ((Below.refl _ _).alloc (Nat.le_refl _) _).trans (hb1.mono (by simp))⟩
set_option maxRecDepth 100000 in
set_option maxHeartbeats 1000000 in
theorem areMoves_any (n : Int) (xs : List T3) (A : Option Addr) (c : Nat) (w : World) (hn : 0 ≤ n) (hn' : n ≤ 1048576) (hx : xs.length ≤ 1048576) (h1 : Rd3 w w.heap.size A xs) :
    Calls Try.prog 98 #[.int .i64 n, .slice A xs.length c] w fun e w' => e = .returned (.bool (vMoves n xs)) ∧ Below w.heap.size w w' := by
  have HX := hide h1; clear h1
  by_cases hl : xs.length ≤ 40
  · go_enter Try.func98, Try.ntmps98
    go_wp2_with fail
    have hb0 : Below w.heap.size w (w.alloc (.cells #[.int .i64 n] 3)) := (by repeat (first | exact Below.refl _ _ | assumption | (refine Below.alloc ?_ (by simp <;> omega) _) | refine Below.drew ?_ | refine bdn ?_ _))
    have hcf := callFunc_gen (P := Try.prog) (F := 142) Try.func142 (by kernel_rfl) (by kernel_rfl)
    refine (containsFuncMove_any (fun z => !okMove n z) 142 _ xs A c _ (by omega) hcf ((HX.out.below hb0).more (by simp)) ?_).mono ?_
    · intro z W hW
      have e1 : W.cell? ⟨w.heap.size, 0, none⟩ = some (.int .i64 n) := by rw [hW.cell (by simp)]; simp [go_sem]
      exact areMoves1_any n z _ W hn hn' e1
    · rintro e w1 ⟨rfl, hb⟩
      rw [any_not_all]
      have HL := hide hl; clear hl
      cases ha : xs.all (okMove n)
      · have HA := hide ha; clear ha
        go_wp2_with fail
        go_ret
        exact ⟨ret_b (by unfold vMoves; rw [HA.out]; rfl), hb0.trans (hb.mono (by simp))⟩
      · have HA := hide ha; clear ha
        go_wp2_with fail
        go_ret
        exact ⟨ret_b (by unfold vMoves; rw [HA.out]; simp [HL.out]), hb0.trans (hb.mono (by simp))⟩
  · go_enter Try.func98, Try.ntmps98
    go_wp2_with fail
    go_ret
    exact ⟨ret_b (by unfold vMoves; simp; omega), (by repeat (first | exact Below.refl _ _ | assumption | (refine Below.alloc ?_ (by simp <;> omega) _) | refine Below.drew ?_ | refine bdn ?_ _))⟩
set_option maxRecDepth 100000 in
set_option maxHeartbeats 1000000 in
theorem l00Own_any (xs : List Int) (A : Option Addr) (c : Nat) (w : World) (hx : xs.length ≤ 1048576) (h1 : RdI w w.heap.size A xs) :
    Calls Try.prog 90 #[.slice A xs.length c] w fun e w' => ∃ A' c', e = .returned (.slice A' xs.length c') ∧ w'.ownsRow w.heap.size 2 1 (.slice A' xs.length c') xs.length (xs.map (Value.int .i64)) ∧ Below w.heap.size w w' := by
  obtain ⟨i0, hi0, hz0, hs0, hb0⟩ := info_parts int64_info
  have HX := hide h1; clear h1
  go_enter Try.func90, Try.ntmps90
  have ho0 := own_new0 w w.heap.size 2 1 (Nat.le_refl _)
  have hb1 : Below w.heap.size w (w.alloc (.cells #[] 2)) := (Below.refl _ _).alloc (Nat.le_refl _) _
  have HR := hide (Rd.below HX.out hb1)
  go_wp2_with (at_builtin; go_must (refine wp_app _ rfl _ _ 30 rfl w.heap.size 2 i0 (.int .i64 0) 1 8 Try.underlying30 hi0 hz0 hs0 hb0 rfl (by decide) _ _ _ rfl ho0 _ _ xs.length c _ rfl (by simp) HR.out (ints_one _) (by omega) (by decide) (by simp) ?_); intro v' w1 hown' hgrow hat)
  go_ret
  simp only [Nat.zero_add, List.nil_append] at hown'
  obtain ⟨A', c', rfl, _⟩ := own_shape hown'
  exact ⟨A', c', rfl, hown', app_below hb1 ho0 hgrow (Nat.le_refl _) (by simp)⟩
theorem own_pos' {w : World} {base : Nat} {e : TypeId} {size n c : Nat} {A : Option Addr} {xs : List Value} (h : w.ownsRow base e size (.slice A n c) n xs) (hn : 0 < n) : ∃ g, A = some ⟨g, 0, none⟩ ∧ base ≤ g ∧ g < w.heap.size := by
  rcases own_block h with ⟨_, h0, _⟩ | ⟨g, hA, h1, h2⟩
  · omega
  · exact ⟨g, hA, h1, h2⟩
theorem own_int_at {w : World} {base : Nat} {e : TypeId} {n c g : Nat} {zs : List Int} (h : w.ownsRow base e 1 (.slice (some ⟨g, 0, none⟩) n c) n (zs.map (Value.int .i64))) {i : Nat} {z : Int} (hz : zs[i]? = some z) : w.cell? ⟨g, i, none⟩ = some (.int .i64 z) := by
  have hl := h.1
  have hi := lt_of_get hz
  simp only [List.length_map, Nat.mul_one] at hl
  rw [h.cellAt i (by omega), List.getElem?_map, hz]; rfl
theorem own_int_set {w : World} {base : Nat} {e : TypeId} {n c g : Nat} {zs : List Int} (h : w.ownsRow base e 1 (.slice (some ⟨g, 0, none⟩) n c) n (zs.map (Value.int .i64))) (i : Nat) (z : Int) :
    (w.setCell ⟨g, i, none⟩ (.int .i64 z)).ownsRow base e 1 (.slice (some ⟨g, 0, none⟩) n c) n ((zs.set i z).map (Value.int .i64)) ∧ w.grownBy (w.setCell ⟨g, i, none⟩ (.int .i64 z)) (some g) := by
  have := h.stored i (.int .i64 z)
  rw [← List.map_set] at this
  exact this
set_option maxRecDepth 100000 in
set_option maxHeartbeats 2000000 in
theorem l07Send_f (base : Nat) (zs : List Int) (A : Option Addr) (cA : Nat) (i j : Nat) (c za : Int) (p q : Nat) (w : World) (hza : zs[i]? = some za) (hx : zs.length ≤ 1048576)
    (hlt : za < c) (hown : w.ownsRow base 2 1 (.slice A zs.length cA) zs.length (zs.map (Value.int .i64)))
    (c0 : w.cell? ⟨p, q, none⟩ = some (.int .i64 i)) (c1 : w.cell? ⟨p, q + 1, none⟩ = some (.int .i64 j)) (c2 : w.cell? ⟨p, q + 2, none⟩ = some (.int .i64 c)) :
    Calls Try.prog 91 #[.slice A zs.length cA, .pointer (some ⟨p, q, none⟩)] w fun e w' => e = .returned (.bool false) ∧ Below w.heap.size w w' := by
  have hi := lt_of_get hza
  obtain ⟨g, rfl, _, _⟩ := own_pos' hown (by omega)
  have hca := own_int_at hown hza
  have HZ := hide hza; have HO := hide hown; clear hza hown
  go_enter Try.func91, Try.ntmps91
  go_wp2_with fail
  go_quiet (fail)
  go_wp2_with fail
  go_ret
  exact ⟨rfl, bdn (Below.refl _ _) _⟩
set_option maxRecDepth 100000 in
set_option maxHeartbeats 2000000 in
theorem l07Send_t (base : Nat) (zs : List Int) (A : Option Addr) (cA : Nat) (i j : Nat) (c za zb : Int) (p q : Nat) (w : World) (hza : zs[i]? = some za) (hzb : zs[j]? = some zb) (hij : i ≠ j) (hx : zs.length ≤ 1048576)
    (hlt : c ≤ za) (hc1 : 1 ≤ c) (hza2 : za ≤ 1099511627776) (hzb1 : 0 ≤ zb) (hzb2 : zb ≤ 1099511627776) (hown : w.ownsRow base 2 1 (.slice A zs.length cA) zs.length (zs.map (Value.int .i64)))
    (hp : ∀ g, A = some ⟨g, 0, none⟩ → p ≠ g)
    (c0 : w.cell? ⟨p, q, none⟩ = some (.int .i64 i)) (c1 : w.cell? ⟨p, q + 1, none⟩ = some (.int .i64 j)) (c2 : w.cell? ⟨p, q + 2, none⟩ = some (.int .i64 c)) :
    Calls Try.prog 91 #[.slice A zs.length cA, .pointer (some ⟨p, q, none⟩)] w fun e w' => e = .returned (.bool true) ∧
      w'.ownsRow base 2 1 (.slice A zs.length cA) zs.length (((zs.set i (za - c)).set j (zb + c)).map (Value.int .i64)) ∧ w.grownBy w' (Value.slice A zs.length cA).ownBlock := by
  have hi := lt_of_get hza
  have hj := lt_of_get hzb
  obtain ⟨g, rfl, _, _⟩ := own_pos' hown (by omega)
  have hpg := hp g rfl
  have hca := own_int_at hown hza
  have HO := hide hown
  have HZ := hide hza; have HZB := hide hzb; have HIJ := hide hij; have HPG := hide hpg
  clear hza hzb hown hij hp hpg
  go_enter Try.func91, Try.ntmps91
  go_wp2_with fail
  go_quiet (fail)
  go_wp2_with fail
  have hbq : w.grownBy (w.drewN nq) (some g) := gdn (World.grownBy.refl _ _) nq
  have HOq : Hid ((w.drewN nq).ownsRow base 2 1 (.slice (some ⟨g, 0, none⟩) zs.length cA) zs.length (zs.map (Value.int .i64))) := HO.out
  have e0 : (w.drewN nq).cell? ⟨p, q, none⟩ = _ := c0
  have e1 : (w.drewN nq).cell? ⟨p, q + 1, none⟩ = _ := c1
  have e2 : (w.drewN nq).cell? ⟨p, q + 2, none⟩ = _ := c2
  generalize w.drewN nq = wq at *
  clear c0 c1 c2 hca
  have hca := own_int_at HOq.out HZ.out
  have hfa := HOq.out.frozenAt i
  go_still_tail 13, (by kernel_rfl)
  change wpList _ _ _ _ _ wq.drew
  have hb2 : w.grownBy wq.drew (some g) := ⟨hbq.os, hbq.tape, hbq.output, hbq.size, hbq.block⟩
  have HO2 : Hid (wq.drew.ownsRow base 2 1 (.slice (some ⟨g, 0, none⟩) zs.length cA) zs.length (zs.map (Value.int .i64))) := HOq.out
  have f0 : wq.drew.cell? ⟨p, q, none⟩ = _ := e0
  have f1 : wq.drew.cell? ⟨p, q + 1, none⟩ = _ := e1
  have f2 : wq.drew.cell? ⟨p, q + 2, none⟩ = _ := e2
  generalize wq.drew = wd at *
  clear e0 e1 e2 hca hfa
  have hca := own_int_at HO2.out HZ.out
  have hfa := HO2.out.frozenAt i
  have hs1 := own_int_set HO2.out i (za - c)
  have HO3 := hide hs1.1
  have hb3 := gtrans hb2 hs1.2
  have hcb2 := own_int_at HO3.out (show (zs.set i (za - c))[j]? = some zb by rw [List.getElem?_set_ne HIJ.out]; exact HZB.out)
  have hfb2 := HO3.out.frozenAt j
  have d0 : (wd.setCell ⟨g, i, none⟩ (.int .i64 (za - c))).cell? ⟨p, q, none⟩ = some (.int .i64 i) := (World.cell?_setCell_other _ _ _ _ (fun e => HPG.out (Addr.mk.inj e).1.symm)).trans f0
  have d1 : (wd.setCell ⟨g, i, none⟩ (.int .i64 (za - c))).cell? ⟨p, q + 1, none⟩ = some (.int .i64 j) := (World.cell?_setCell_other _ _ _ _ (fun e => HPG.out (Addr.mk.inj e).1.symm)).trans f1
  have d2 : (wd.setCell ⟨g, i, none⟩ (.int .i64 (za - c))).cell? ⟨p, q + 2, none⟩ = some (.int .i64 c) := (World.cell?_setCell_other _ _ _ _ (fun e => HPG.out (Addr.mk.inj e).1.symm)).trans f2
  clear hs1
  go_wp2_with fail
  generalize wd.setCell ⟨g, i, none⟩ (.int .i64 (za - c)) = we at *
  go_still_tail 13, (by kernel_rfl)
  change wpList _ _ _ _ _ we.drew
  have hb4 : w.grownBy we.drew (some g) := ⟨hb3.os, hb3.tape, hb3.output, hb3.size, hb3.block⟩
  have HO4 : Hid (we.drew.ownsRow base 2 1 (.slice (some ⟨g, 0, none⟩) zs.length cA) zs.length ((zs.set i (za - c)).map (Value.int .i64))) := HO3.out
  clear hcb2 hfb2 f0 f1 f2 hca hfa d0 d1 d2
  generalize we.drew = wf at *
  have hcb3 := own_int_at HO4.out (show (zs.set i (za - c))[j]? = some zb by rw [List.getElem?_set_ne HIJ.out]; exact HZB.out)
  have hfb3 := HO4.out.frozenAt j
  have hs2 := own_int_set HO4.out j (zb + c)
  have HS2 := hide hs2
  clear hs2
  go_wp2_with fail
  go_ret
  exact ⟨rfl, HS2.out.1, gtrans hb4 HS2.out.2⟩
end Go.Proofs.Ytflbddfmhjlknaa
