/-
  Moves of carriers: which moves are valid; one carrier's way is sent; in the program and in the reference.
  Carriers are sent: one move, many moves; in the program and in the reference.
  Costs between stations, and what moves cost; in the program and in the reference.
-/
import Derived.Test.YtklfjekpeoigoaaQPressed18
import Derived.Test.YtklfjekpeoigoaaQPressed3
import Derived.Test.YtklfjekpeoigoaaQPressed13
namespace Go.Proofs.Ytklfjekpeoigoaa
open Go.RowKit

def okMove (n : Int) (m : T3) : Bool := inB 0 (n - 1) m.a && (inB 0 (n - 1) m.b && (!decide (m.a = m.b) && inB 1 200 m.c))
theorem okMove_iff {n : Int} {m : T3} : okMove n m = true ↔ (0 ≤ m.a ∧ m.a ≤ n - 1) ∧ (0 ≤ m.b ∧ m.b ≤ n - 1) ∧ m.a ≠ m.b ∧ (1 ≤ m.c ∧ m.c ≤ 200) := by
  simp [okMove, inB]
def vMoves (n : Int) (ms : List T3) : Bool := ms.all (okMove n) && decide (ms.length ≤ 40)

set_option maxRecDepth 100000 in
set_option maxHeartbeats 2000000 in
theorem isMove_any (n : Int) (m : T3) (w : World) (hn : 0 ≤ n) (hn' : n ≤ 1048576) :
    Calls Try.prog 238 #[.int .i64 n, .agg #[.int .i64 m.a, .int .i64 m.b, .int .i64 m.c]] w fun e w' => e = .returned (.bool (okMove n m)) ∧ Below w.heap.size w w' := by
  by_cases h1 : 0 ≤ m.a ∧ m.a ≤ n - 1
  case neg =>
    have h1' : m.a < 0 ∨ n - 1 < m.a := by omega
    have H := hide (show okMove n m = false by simp [okMove, inB_f h1'])
    clear h1
    go_enter Try.func238, Try.ntmps238
    go_wp2_with (go_at_call 186; first | (refine (within_t _ _ _ _ (by omega)).mono ?_; rintro e w' ⟨rfl, rfl⟩) | (refine (within_f _ _ _ _ (by omega)).mono ?_; rintro e w' ⟨rfl, rfl⟩))
    go_ret
    exact ⟨ret_b H.out.symm, (by repeat (first | exact Below.refl _ _ | assumption | (refine Below.alloc ?_ (by simp <;> omega) _) | refine Below.drew ?_ | refine bdn ?_ _))⟩
  by_cases h2 : 0 ≤ m.b ∧ m.b ≤ n - 1
  case neg =>
    have h2' : m.b < 0 ∨ n - 1 < m.b := by omega
    have H := hide (show okMove n m = false by simp [okMove, inB_f h2'])
    clear h2
    go_enter Try.func238, Try.ntmps238
    go_wp2_with (go_at_call 186; first | (refine (within_t _ _ _ _ (by omega)).mono ?_; rintro e w' ⟨rfl, rfl⟩) | (refine (within_f _ _ _ _ (by omega)).mono ?_; rintro e w' ⟨rfl, rfl⟩))
    go_ret
    exact ⟨ret_b H.out.symm, (by repeat (first | exact Below.refl _ _ | assumption | (refine Below.alloc ?_ (by simp <;> omega) _) | refine Below.drew ?_ | refine bdn ?_ _))⟩
  by_cases h3 : m.a = m.b
  case pos =>
    have H := hide (show okMove n m = false by simp [okMove, h3])
    have hB : (m.a != m.b) = false := by simp [h3]
    have h3' := hide h3; clear h3
    go_enter Try.func238, Try.ntmps238
    go_wp2_with (go_at_call 186; first | (refine (within_t _ _ _ _ (by omega)).mono ?_; rintro e w' ⟨rfl, rfl⟩) | (refine (within_f _ _ _ _ (by omega)).mono ?_; rintro e w' ⟨rfl, rfl⟩))
    go_ret
    exact ⟨ret_b H.out.symm, (by repeat (first | exact Below.refl _ _ | assumption | (refine Below.alloc ?_ (by simp <;> omega) _) | refine Below.drew ?_ | refine bdn ?_ _))⟩
  have hB : (m.a != m.b) = true := by simp [h3]
  by_cases h4 : 1 ≤ m.c ∧ m.c ≤ 200
  case neg =>
    have h4' : m.c < 1 ∨ 200 < m.c := by omega
    have H := hide (show okMove n m = false by simp [okMove, inB_f h4'])
    have h3' := hide h3; clear h3 h4
    go_enter Try.func238, Try.ntmps238
    go_wp2_with (go_at_call 186; first | (refine (within_t _ _ _ _ (by omega)).mono ?_; rintro e w' ⟨rfl, rfl⟩) | (refine (within_f _ _ _ _ (by omega)).mono ?_; rintro e w' ⟨rfl, rfl⟩))
    go_ret
    exact ⟨ret_b H.out.symm, (by repeat (first | exact Below.refl _ _ | assumption | (refine Below.alloc ?_ (by simp <;> omega) _) | refine Below.drew ?_ | refine bdn ?_ _))⟩
  have H := hide (okMove_iff.2 ⟨h1, h2, h3, h4⟩)
  have h3' := hide h3; clear h3
  go_enter Try.func238, Try.ntmps238
  go_wp2_with (go_at_call 186; first | (refine (within_t _ _ _ _ (by omega)).mono ?_; rintro e w' ⟨rfl, rfl⟩) | (refine (within_f _ _ _ _ (by omega)).mono ?_; rintro e w' ⟨rfl, rfl⟩))
  go_ret
  exact ⟨ret_b H.out.symm, (by repeat (first | exact Below.refl _ _ | assumption | (refine Below.alloc ?_ (by simp <;> omega) _) | refine Below.drew ?_ | refine bdn ?_ _))⟩
set_option maxRecDepth 100000 in
set_option maxHeartbeats 2000000 in
theorem l07Move_any (n : Int) (m : T3) (p q : Nat) (w : World) (hn : 0 ≤ n) (hn' : n ≤ 1048576) (c0 : w.cell? ⟨p, q, none⟩ = some (.int .i64 m.a)) (c1 : w.cell? ⟨p, q + 1, none⟩ = some (.int .i64 m.b)) (c2 : w.cell? ⟨p, q + 2, none⟩ = some (.int .i64 m.c)) :
    Calls Try.prog 144 #[.int .i64 n, .pointer (some ⟨p, q, none⟩)] w fun e w' => e = .returned (.bool (okMove n m)) ∧ Below w.heap.size w w' := by
  by_cases h1 : 0 ≤ m.a ∧ m.a ≤ n - 1
  case neg =>
    have h1' : m.a < 0 ∨ n - 1 < m.a := by omega
    have H := hide (show okMove n m = false by simp [okMove, inB_f h1'])
    clear h1
    go_enter Try.func144, Try.ntmps144
    go_wp2_with fail
    go_quiet ((go_at_call 148; first | exact ql (l00In_t _ _ _ _ (by omega)) | exact ql (l00In_f _ _ _ _ (by omega)) | exact qla (l00In_t _ _ _ _ (by omega)) | exact qla (l00In_f _ _ _ _ (by omega))))
    go_wp2_with fail
    go_ret
    exact ⟨ret_b H.out.symm, bdn (Below.refl _ _) _⟩
  by_cases h2 : 0 ≤ m.b ∧ m.b ≤ n - 1
  case neg =>
    have h2' : m.b < 0 ∨ n - 1 < m.b := by omega
    have H := hide (show okMove n m = false by simp [okMove, inB_f h2'])
    clear h2
    go_enter Try.func144, Try.ntmps144
    go_wp2_with fail
    go_quiet ((go_at_call 148; first | exact ql (l00In_t _ _ _ _ (by omega)) | exact ql (l00In_f _ _ _ _ (by omega)) | exact qla (l00In_t _ _ _ _ (by omega)) | exact qla (l00In_f _ _ _ _ (by omega))))
    go_wp2_with fail
    go_ret
    exact ⟨ret_b H.out.symm, bdn (Below.refl _ _) _⟩
  by_cases h3 : m.a = m.b
  case pos =>
    have H := hide (show okMove n m = false by simp [okMove, h3])
    have hB : (m.a != m.b) = false := by simp [h3]
    have h3' := hide h3; clear h3
    go_enter Try.func144, Try.ntmps144
    go_wp2_with fail
    go_quiet ((go_at_call 148; first | exact ql (l00In_t _ _ _ _ (by omega)) | exact ql (l00In_f _ _ _ _ (by omega)) | exact qla (l00In_t _ _ _ _ (by omega)) | exact qla (l00In_f _ _ _ _ (by omega))))
    go_wp2_with fail
    go_ret
    exact ⟨ret_b H.out.symm, bdn (Below.refl _ _) _⟩
  have hB : (m.a != m.b) = true := by simp [h3]
  by_cases h4 : 1 ≤ m.c ∧ m.c ≤ 200
  case neg =>
    have h4' : m.c < 1 ∨ 200 < m.c := by omega
    have H := hide (show okMove n m = false by simp [okMove, inB_f h4'])
    have h3' := hide h3; clear h3 h4
    go_enter Try.func144, Try.ntmps144
    go_wp2_with fail
    go_quiet ((go_at_call 148; first | exact ql (l00In_t _ _ _ _ (by omega)) | exact ql (l00In_f _ _ _ _ (by omega)) | exact qla (l00In_t _ _ _ _ (by omega)) | exact qla (l00In_f _ _ _ _ (by omega))))
    go_wp2_with fail
    go_ret
    exact ⟨ret_b H.out.symm, bdn (Below.refl _ _) _⟩
  have H := hide (okMove_iff.2 ⟨h1, h2, h3, h4⟩)
  have h3' := hide h3; clear h3
  go_enter Try.func144, Try.ntmps144
  go_wp2_with fail
  go_quiet ((go_at_call 148; first | exact ql (l00In_t _ _ _ _ (by omega)) | exact ql (l00In_f _ _ _ _ (by omega)) | exact qla (l00In_t _ _ _ _ (by omega)) | exact qla (l00In_f _ _ _ _ (by omega))))
  go_wp2_with fail
  go_ret
  exact ⟨ret_b H.out.symm, bdn (Below.refl _ _) _⟩
set_option maxRecDepth 100000 in
set_option maxHeartbeats 1000000 in
theorem areMoves1_any (n : Int) (m : T3) (b : Nat) (w : World) (hn : 0 ≤ n) (hn' : n ≤ 1048576) (hc : w.cell? ⟨b, 0, none⟩ = some (.int .i64 n)) :
    Calls Try.prog 237 #[.agg #[.int .i64 m.a, .int .i64 m.b, .int .i64 m.c], .pointer (some ⟨b, 0, none⟩)] w fun e w' => e = .returned (.bool (!okMove n m)) ∧ Below w.heap.size w w' := by
  have HC := hide fun W => isMove_any n m W hn hn'
  have hlt := World.block_lt_of_cell? w _ hc
  dsimp only at hlt
  go_enter Try.func237, Try.ntmps237
  go_wp2_with (go_at_call 238; refine (HC.out _).mono ?_; rintro e w1 ⟨rfl, hb1⟩)
  go_ret
  exact ⟨rfl, ((Below.refl _ _).alloc (Nat.le_refl _) _).trans (hb1.mono (by simp))⟩
set_option maxRecDepth 100000 in
set_option maxHeartbeats 1000000 in
theorem areMoves_any (n : Int) (xs : List T3) (A : Option Addr) (c : Nat) (w : World) (hn : 0 ≤ n) (hn' : n ≤ 1048576) (hx : xs.length ≤ 1048576) (h1 : Rd3 w w.heap.size A xs) :
    Calls Try.prog 141 #[.int .i64 n, .slice A xs.length c] w fun e w' => e = .returned (.bool (vMoves n xs)) ∧ Below w.heap.size w w' := by
  have HX := hide h1; clear h1
  by_cases hl : xs.length ≤ 40
  · go_enter Try.func141, Try.ntmps141
    go_wp2_with fail
    have hb0 : Below w.heap.size w (w.alloc (.cells #[.int .i64 n] 3)) := (by repeat (first | exact Below.refl _ _ | assumption | (refine Below.alloc ?_ (by simp <;> omega) _) | refine Below.drew ?_ | refine bdn ?_ _))
    have hcf := callFunc_gen (P := Try.prog) (F := 237) Try.func237 (by kernel_rfl) (by kernel_rfl)
    refine (containsFuncMove_any (fun z => !okMove n z) 237 _ xs A c _ (by omega) hcf ((HX.out.below hb0).more (by simp)) ?_).mono ?_
    · intro z W hW
      have e1 : W.cell? ⟨w.heap.size, 0, none⟩ = some (.int .i64 n) := by rw [hW.cell (by simp)]; simp [go_sem]
      exact areMoves1_any n z _ W hn hn' e1
    · rintro e w1 ⟨rfl, hb⟩
      rw [any_not_all]
      have HL := hide hl; clear hl
      cases ha : xs.all (okMove n)
      · have HA := hide ha; clear ha
        go_wp2_with fail
        go_ret
        exact ⟨ret_b (by unfold vMoves; rw [HA.out]; rfl), hb0.trans (hb.mono (by simp))⟩
      · have HA := hide ha; clear ha
        go_wp2_with fail
        go_ret
        exact ⟨ret_b (by unfold vMoves; rw [HA.out]; simp [HL.out]), hb0.trans (hb.mono (by simp))⟩
  · go_enter Try.func141, Try.ntmps141
    go_wp2_with fail
    go_ret
    exact ⟨ret_b (by unfold vMoves; simp; omega), (by repeat (first | exact Below.refl _ _ | assumption | (refine Below.alloc ?_ (by simp <;> omega) _) | refine Below.drew ?_ | refine bdn ?_ _))⟩
set_option maxRecDepth 100000 in
set_option maxHeartbeats 1000000 in
theorem l00Own_any (xs : List Int) (A : Option Addr) (c : Nat) (w : World) (hx : xs.length ≤ 1048576) (h1 : RdI w w.heap.size A xs) :
    Calls Try.prog 137 #[.slice A xs.length c] w fun e w' => ∃ A' c', e = .returned (.slice A' xs.length c') ∧ w'.ownsRow w.heap.size 2 1 (.slice A' xs.length c') xs.length (xs.map (Value.int .i64)) ∧ Below w.heap.size w w' := by
  obtain ⟨i0, hi0, hz0, hs0, hb0⟩ := info_parts int64_info
  have HX := hide h1; clear h1
  go_enter Try.func137, Try.ntmps137
  have ho0 := own_new0 w w.heap.size 2 1 (Nat.le_refl _)
  have hb1 : Below w.heap.size w (w.alloc (.cells #[] 2)) := (Below.refl _ _).alloc (Nat.le_refl _) _
  have HR := hide (Rd.below HX.out hb1)
  go_wp2_with (at_builtin; go_must (refine wp_app _ rfl _ _ 22 rfl w.heap.size 2 i0 (.int .i64 0) 1 8 Try.underlying22 hi0 hz0 hs0 hb0 rfl (by decide) _ _ _ rfl ho0 _ _ xs.length c _ rfl (by simp) HR.out (ints_one _) (by omega) (by decide) (by simp) ?_); intro v' w1 hown' hgrow hat)
  go_ret
  simp only [Nat.zero_add, List.nil_append] at hown'
  obtain ⟨A', c', rfl, _⟩ := own_shape hown'
  exact ⟨A', c', rfl, hown', app_below hb1 ho0 hgrow (Nat.le_refl _) (by simp)⟩
theorem own_pos' {w : World} {base : Nat} {e : TypeId} {size n c : Nat} {A : Option Addr} {xs : List Value} (h : w.ownsRow base e size (.slice A n c) n xs) (hn : 0 < n) : ∃ g, A = some ⟨g, 0, none⟩ ∧ base ≤ g ∧ g < w.heap.size := by
  rcases own_block h with ⟨_, h0, _⟩ | ⟨g, hA, h1, h2⟩
  · omega
  · exact ⟨g, hA, h1, h2⟩
theorem own_int_at {w : World} {base : Nat} {e : TypeId} {n c g : Nat} {zs : List Int} (h : w.ownsRow base e 1 (.slice (some ⟨g, 0, none⟩) n c) n (zs.map (Value.int .i64))) {i : Nat} {z : Int} (hz : zs[i]? = some z) : w.cell? ⟨g, i, none⟩ = some (.int .i64 z) := by
  have hl := h.1
  have hi := lt_of_get hz
  simp only [List.length_map, Nat.mul_one] at hl
  rw [h.cellAt i (by omega), List.getElem?_map, hz]; rfl
theorem own_int_set {w : World} {base : Nat} {e : TypeId} {n c g : Nat} {zs : List Int} (h : w.ownsRow base e 1 (.slice (some ⟨g, 0, none⟩) n c) n (zs.map (Value.int .i64))) (i : Nat) (z : Int) :
    (w.setCell ⟨g, i, none⟩ (.int .i64 z)).ownsRow base e 1 (.slice (some ⟨g, 0, none⟩) n c) n ((zs.set i z).map (Value.int .i64)) ∧ w.grownBy (w.setCell ⟨g, i, none⟩ (.int .i64 z)) (some g) := by
  have := h.stored i (.int .i64 z)
  rw [← List.map_set] at this
  exact this
set_option maxRecDepth 100000 in
set_option maxHeartbeats 2000000 in
theorem l07Send_f (base : Nat) (zs : List Int) (A : Option Addr) (cA : Nat) (i j : Nat) (c za : Int) (p q : Nat) (w : World) (hza : zs[i]? = some za) (hx : zs.length ≤ 1048576)
    (hlt : za < c) (hown : w.ownsRow base 2 1 (.slice A zs.length cA) zs.length (zs.map (Value.int .i64)))
    (c0 : w.cell? ⟨p, q, none⟩ = some (.int .i64 i)) (c1 : w.cell? ⟨p, q + 1, none⟩ = some (.int .i64 j)) (c2 : w.cell? ⟨p, q + 2, none⟩ = some (.int .i64 c)) :
    Calls Try.prog 139 #[.slice A zs.length cA, .pointer (some ⟨p, q, none⟩)] w fun e w' => e = .returned (.bool false) ∧ Below w.heap.size w w' := by
  have hi := lt_of_get hza
  obtain ⟨g, rfl, _, _⟩ := own_pos' hown (by omega)
  have hca := own_int_at hown hza
  have HZ := hide hza; have HO := hide hown; clear hza hown
  go_enter Try.func139, Try.ntmps139
  go_wp2_with fail
  go_quiet (fail)
  go_wp2_with fail
  go_ret
  exact ⟨rfl, bdn (Below.refl _ _) _⟩
set_option maxRecDepth 100000 in
set_option maxHeartbeats 2000000 in
theorem l07Send_t (base : Nat) (zs : List Int) (A : Option Addr) (cA : Nat) (i j : Nat) (c za zb : Int) (p q : Nat) (w : World) (hza : zs[i]? = some za) (hzb : zs[j]? = some zb) (hij : i ≠ j) (hx : zs.length ≤ 1048576)
    (hlt : c ≤ za) (hc1 : 1 ≤ c) (hza2 : za ≤ 1099511627776) (hzb1 : 0 ≤ zb) (hzb2 : zb ≤ 1099511627776) (hown : w.ownsRow base 2 1 (.slice A zs.length cA) zs.length (zs.map (Value.int .i64)))
    (hp : ∀ g, A = some ⟨g, 0, none⟩ → p ≠ g)
    (c0 : w.cell? ⟨p, q, none⟩ = some (.int .i64 i)) (c1 : w.cell? ⟨p, q + 1, none⟩ = some (.int .i64 j)) (c2 : w.cell? ⟨p, q + 2, none⟩ = some (.int .i64 c)) :
    Calls Try.prog 139 #[.slice A zs.length cA, .pointer (some ⟨p, q, none⟩)] w fun e w' => e = .returned (.bool true) ∧
      w'.ownsRow base 2 1 (.slice A zs.length cA) zs.length (((zs.set i (za - c)).set j (zb + c)).map (Value.int .i64)) ∧ w.grownBy w' (Value.slice A zs.length cA).ownBlock := by
  have hi := lt_of_get hza
  have hj := lt_of_get hzb
  obtain ⟨g, rfl, _, _⟩ := own_pos' hown (by omega)
  have hpg := hp g rfl
  have hca := own_int_at hown hza
  have HO := hide hown
  have HZ := hide hza; have HZB := hide hzb; have HIJ := hide hij; have HPG := hide hpg
  clear hza hzb hown hij hp hpg
  go_enter Try.func139, Try.ntmps139
  go_wp2_with fail
  go_quiet (fail)
  go_wp2_with fail
  have hbq : w.grownBy (w.drewN nq) (some g) := gdn (World.grownBy.refl _ _) nq
  have HOq : Hid ((w.drewN nq).ownsRow base 2 1 (.slice (some ⟨g, 0, none⟩) zs.length cA) zs.length (zs.map (Value.int .i64))) := HO.out
  have e0 : (w.drewN nq).cell? ⟨p, q, none⟩ = _ := c0
  have e1 : (w.drewN nq).cell? ⟨p, q + 1, none⟩ = _ := c1
  have e2 : (w.drewN nq).cell? ⟨p, q + 2, none⟩ = _ := c2
  generalize w.drewN nq = wq at *
  clear c0 c1 c2 hca
  have hca := own_int_at HOq.out HZ.out
  have hfa := HOq.out.frozenAt i
  go_still_tail 13, (by kernel_rfl)
  change wpList _ _ _ _ _ wq.drew
  have hb2 : w.grownBy wq.drew (some g) := ⟨hbq.os, hbq.tape, hbq.output, hbq.size, hbq.block⟩
  have HO2 : Hid (wq.drew.ownsRow base 2 1 (.slice (some ⟨g, 0, none⟩) zs.length cA) zs.length (zs.map (Value.int .i64))) := HOq.out
  have f0 : wq.drew.cell? ⟨p, q, none⟩ = _ := e0
  have f1 : wq.drew.cell? ⟨p, q + 1, none⟩ = _ := e1
  have f2 : wq.drew.cell? ⟨p, q + 2, none⟩ = _ := e2
  generalize wq.drew = wd at *
  clear e0 e1 e2 hca hfa
  have hca := own_int_at HO2.out HZ.out
  have hfa := HO2.out.frozenAt i
  have hs1 := own_int_set HO2.out i (za - c)
  have HO3 := hide hs1.1
  have hb3 := gtrans hb2 hs1.2
  have hcb2 := own_int_at HO3.out (show (zs.set i (za - c))[j]? = some zb by rw [List.getElem?_set_ne HIJ.out]; exact HZB.out)
  have hfb2 := HO3.out.frozenAt j
  have d0 : (wd.setCell ⟨g, i, none⟩ (.int .i64 (za - c))).cell? ⟨p, q, none⟩ = some (.int .i64 i) := (World.cell?_setCell_other _ _ _ _ (fun e => HPG.out (Addr.mk.inj e).1.symm)).trans f0
  have d1 : (wd.setCell ⟨g, i, none⟩ (.int .i64 (za - c))).cell? ⟨p, q + 1, none⟩ = some (.int .i64 j) := (World.cell?_setCell_other _ _ _ _ (fun e => HPG.out (Addr.mk.inj e).1.symm)).trans f1
  have d2 : (wd.setCell ⟨g, i, none⟩ (.int .i64 (za - c))).cell? ⟨p, q + 2, none⟩ = some (.int .i64 c) := (World.cell?_setCell_other _ _ _ _ (fun e => HPG.out (Addr.mk.inj e).1.symm)).trans f2
  clear hs1
  go_wp2_with fail
  generalize wd.setCell ⟨g, i, none⟩ (.int .i64 (za - c)) = we at *
  go_still_tail 13, (by kernel_rfl)
  change wpList _ _ _ _ _ we.drew
  have hb4 : w.grownBy we.drew (some g) := ⟨hb3.os, hb3.tape, hb3.output, hb3.size, hb3.block⟩
  have HO4 : Hid (we.drew.ownsRow base 2 1 (.slice (some ⟨g, 0, none⟩) zs.length cA) zs.length ((zs.set i (za - c)).map (Value.int .i64))) := HO3.out
  clear hcb2 hfb2 f0 f1 f2 hca hfa d0 d1 d2
  generalize we.drew = wf at *
  have hcb3 := own_int_at HO4.out (show (zs.set i (za - c))[j]? = some zb by rw [List.getElem?_set_ne HIJ.out]; exact HZB.out)
  have hfb3 := HO4.out.frozenAt j
  have hs2 := own_int_set HO4.out j (zb + c)
  have HS2 := hide hs2
  clear hs2
  go_wp2_with fail
  go_ret
  exact ⟨rfl, HS2.out.1, gtrans hb4 HS2.out.2⟩
end Go.Proofs.Ytklfjekpeoigoaa
namespace Go.Proofs.Ytklfjekpeoigoaa
open Go.RowKit

/-- One move: none if there are not enough carriers. -/
def send1 (zs : List Int) (m : T3) : Option (List Int) :=
  match zs[m.a.toNat]?, zs[m.b.toNat]? with
  | some za, some zb => if za < m.c then none else some ((zs.set m.a.toNat (za - m.c)).set m.b.toNat (zb + m.c))
  | _, _ => none
def sendCarriers (zs : List Int) (m : T3) : List Int × Int :=
  if vStock zs then (if okMove zs.length m then (match send1 zs m with | some r => (r, 0) | none => ([], 6)) else ([], 2)) else ([], 1)
def sendFrom : List Int → List T3 → Nat → List Int × Int
  | zs, [], _ => (zs, -1)
  | zs, m :: ms, k => match send1 zs m with | some zs' => sendFrom zs' ms (k + 1) | none => (zs, (k : Int))
def sendAll (zs : List Int) (ms : List T3) : List Int × Int × Int :=
  if vStock zs then (if vMoves zs.length ms then ((sendFrom zs ms 0).1, (sendFrom zs ms 0).2, 0) else ([], 0, 2)) else ([], 0, 1)
/-- What a stock of one's own keeps. -/
def StOk (zs : List Int) : Prop := (∀ z ∈ zs, 0 ≤ z) ∧ zs.sum ≤ 200
theorem le_sum {zs : List Int} (h : ∀ z ∈ zs, 0 ≤ z) : ∀ z ∈ zs, z ≤ zs.sum := by
  induction zs with
  | nil => intro z hz; cases hz
  | cons x xs ih =>
    intro z hz
    have h0 := h x (by simp)
    have hs : 0 ≤ xs.sum := by
      have hh : ∀ ys : List Int, (∀ y ∈ ys, 0 ≤ y) → 0 ≤ ys.sum := by
        intro ys; induction ys with
        | nil => intro _; simp
        | cons y ys ih => intro hy; have := ih (fun z hz => hy z (by simp [hz])); have := hy y (by simp); simp only [List.sum_cons]; omega
      exact hh xs (fun y hy => h y (by simp [hy]))
    rcases List.mem_cons.1 hz with rfl | hz
    · simp only [List.sum_cons]; omega
    · have := ih (fun y hy => h y (by simp [hy])) z hz; simp only [List.sum_cons]; omega
theorem sum_set {zs : List Int} : ∀ {i : Nat} {z v : Int}, zs[i]? = some z → (zs.set i v).sum = zs.sum - z + v := by
  induction zs with
  | nil => intro i z v h; simp at h
  | cons x xs ih =>
    intro i z v h
    cases i with
    | zero => simp at h; subst h; simp only [List.set_cons_zero, List.sum_cons]; omega
    | succ i => simp only [List.set_cons_succ, List.sum_cons]; rw [ih (by simpa using h)]; omega
theorem stOk_of {zs : List Int} (h : vStock zs = true) : StOk zs ∧ 2 ≤ zs.length ∧ zs.length ≤ 10 := by
  simp only [vStock, Bool.and_eq_true, List.all_eq_true, inB_iff, decide_eq_true_eq] at h
  exact ⟨⟨fun z hz => (h.1 z hz).1, h.2.2⟩, by omega, by omega⟩
theorem stOk_bd {zs : List Int} (h : StOk zs) {i : Nat} {z : Int} (hz : zs[i]? = some z) : 0 ≤ z ∧ z ≤ 200 := by
  have hm := List.mem_of_getElem? hz
  exact ⟨h.1 z hm, by have := le_sum h.1 z hm; have := h.2; omega⟩
theorem stOk_send {zs : List Int} {i j : Nat} {za zb c : Int} (h : StOk zs) (hza : zs[i]? = some za) (hzb : zs[j]? = some zb) (hij : i ≠ j) (hc : 1 ≤ c) (hle : c ≤ za) :
    StOk ((zs.set i (za - c)).set j (zb + c)) := by
  have h2 : (zs.set i (za - c))[j]? = some zb := by rw [List.getElem?_set_ne hij]; exact hzb
  refine ⟨fun z hz => ?_, by rw [sum_set h2, sum_set hza]; have := h.2; omega⟩
  have := (stOk_bd h hzb).1
  rcases List.mem_or_eq_of_mem_set hz with hz | rfl
  · rcases List.mem_or_eq_of_mem_set hz with hz | rfl
    · exact h.1 z hz
    · omega
  · omega
theorem send1_at {zs : List Int} {i j : Nat} {c za zb : Int} (hza : zs[i]? = some za) (hzb : zs[j]? = some zb) :
    send1 zs ⟨i, j, c⟩ = if za < c then none else some ((zs.set i (za - c)).set j (zb + c)) := by
  simp only [send1, Int.toNat_natCast, hza, hzb]
/-- A move's stations are places of the stock. -/
theorem move_at {zs : List Int} {m : T3} (h : okMove zs.length m = true) : ∃ (i j : Nat) (za zb : Int), m = ⟨i, j, m.c⟩ ∧ zs[i]? = some za ∧ zs[j]? = some zb ∧ i ≠ j ∧ 1 ≤ m.c ∧ m.c ≤ 200 := by
  obtain ⟨a, b, c⟩ := m
  rw [okMove_iff] at h
  obtain ⟨⟨h1, h2⟩, ⟨h3, h4⟩, h5, h6, h7⟩ := h
  dsimp only at *
  obtain ⟨i, rfl⟩ := Int.eq_ofNat_of_zero_le h1
  obtain ⟨j, rfl⟩ := Int.eq_ofNat_of_zero_le h3
  have hi : i < zs.length := by omega
  have hj : j < zs.length := by omega
  exact ⟨i, j, zs[i], zs[j], rfl, List.getElem?_eq_getElem hi, List.getElem?_eq_getElem hj, fun e => h5 (by rw [e]), h6, h7⟩
theorem O_int_of {w : World} {lo : Nat} {v : Value} {n : Nat} {zs : List Int} (h : w.ownsRow lo 2 1 v n (zs.map (Value.int .i64))) (hn : n ≤ 1048576) : O_Int64S w lo w.heap.size v zs := by
  have hl := h.1
  simp only [List.length_map, Nat.mul_one] at hl
  subst hl
  exact OwnV.of_row h hn
theorem own_len {w : World} {lo : Nat} {e : TypeId} {v : Value} {n m : Nat} {xs : List Value} (h : w.ownsRow lo e 1 v n xs) (hn : n = m) : w.ownsRow lo e 1 v m xs := by subst hn; exact h

end Go.Proofs.Ytklfjekpeoigoaa
namespace Go.Proofs.Ytklfjekpeoigoaa
open Go.RowKit

def costRow (n : Int) (z : TN) : Bool := decide ((z.way.length : Int) = n) && z.way.all (inB 0 1000)
def vCosts (n : Int) (l : List TN) : Bool := decide ((l.length : Int) = n) && l.all (costRow n)
theorem costRow_iff {n : Int} {z : TN} : costRow n z = true ↔ (z.way.length : Int) = n ∧ ∀ u ∈ z.way, 0 ≤ u ∧ u ≤ 1000 := by
  unfold costRow
  rw [Bool.and_eq_true, decide_eq_true_eq, List.all_eq_true]
  constructor
  · intro h; exact ⟨h.1, fun u hu => inB_iff.1 (h.2 u hu)⟩
  · intro h; exact ⟨h.1, fun u hu => inB_iff.2 (h.2 u hu)⟩
theorem vCosts_iff {n : Int} {l : List TN} : vCosts n l = true ↔ (l.length : Int) = n ∧ ∀ z ∈ l, (z.way.length : Int) = n ∧ ∀ u ∈ z.way, 0 ≤ u ∧ u ≤ 1000 := by
  unfold vCosts
  rw [Bool.and_eq_true, decide_eq_true_eq, List.all_eq_true]
  constructor
  · intro h; exact ⟨h.1, fun u hu => costRow_iff.1 (h.2 u hu)⟩
  · intro h; exact ⟨h.1, fun u hu => costRow_iff.2 (h.2 u hu)⟩
def costAt (l : List TN) (i j : Int) : Int := (((l[i.toNat]?).map fun e => e.way).getD [])[j.toNat]?.getD 0
def coGo (l : List TN) : List T3 → Int → Int
  | [], s => s
  | m :: r, s => coGo l r (s + m.c * costAt l m.a m.b)
def costOfMoves (ms : List T3) (l : List TN) : Int × Int :=
  if inB 2 10 l.length = true ∧ vCosts l.length l = true then (if vMoves l.length ms = true then (coGo l ms 0, 0) else (0, 2)) else (0, 1)
theorem coGo_drop {l : List TN} {xs : List T3} {k : Nat} {m : T3} (h : xs[k]? = some m) (s : Int) : coGo l (xs.drop k) s = coGo l (xs.drop (k + 1)) (s + m.c * costAt l m.a m.b) := by rw [drop_cons h, coGo]
set_option maxRecDepth 100000 in
set_option maxHeartbeats 4000000 in
theorem indexFuncRowN_any (p : TN → Bool) (F : FuncId) (cap : Array Value) (x : List TN) (A : Option Addr) (c : Nat) (w : World) (hx : x.length ≤ 1048576)
    (hcf : ∀ args w, (callFunc F args).run Try.prog w = .ok (.enter F args) w) (h1 : RN 0 w w.heap.size A x)
    (hp : ∀ z Aw cw W, z ∈ x → Below w.heap.size w W → RdI W W.heap.size Aw z.way → Calls Try.prog F (#[.slice Aw z.way.length cw] ++ cap) W fun e w' => e = .returned (.bool (p z)) ∧ Below W.heap.size W w') :
    Calls Try.prog 249 #[.slice A x.length c, .func (.func F) #[] cap] w fun e w' => e = .returned (.int .i64 (firstI p x 0)) ∧ Below w.heap.size w w' := by
  have HP := hide hp
  have HX := hide h1
  clear hp h1
  go_enter Try.func249, Try.ntmps249
  go_wp2_with fail
  go_loopg [8] x.length (fun g i wr => ∃ k : Nat, k ≤ x.length ∧ Hid (g = x.length - k) ∧ i = .int .i64 k ∧ Below w.heap.size w wr ∧ Hid (firstI p x 0 = firstI p (x.drop k) k))
  case atStart => exact ⟨0, by omega, by simp [Hid], rfl, Below.refl _ _, hide (by simp)⟩
  case round =>
    obtain ⟨k, hk, hg, rfl, hb, HE⟩ := hrel
    by_cases hlt : k < x.length
    · obtain ⟨b1, o1, z, Aw, cw, rfl, _, hz1, hrw, hn0, hc1, hc2⟩ := (HX.out.below hb).at_ (by omega) hlt
      rw [Nat.zero_add, Nat.mul_one] at hn0
      clear hc1 hc2
      have HQ := HP.out z Aw cw wr (List.mem_of_getElem? hz1) hb (hrw.more hb.size)
      have h := HE.out
      rw [drop_cons hz1] at h
      clear hz1 hrw
      cases hpz : p z
      · rw [hpz] at HQ
        have h' := hide (show firstI p x 0 = firstI p (x.drop (k + 1)) (k + 1) by simpa [firstI, hpz] using h)
        have HQ' := hide HQ
        clear h HQ hpz HE
        go_wp2_with fail
        refine HQ'.out.mono ?_
        rintro e w1 ⟨rfl, hb1⟩
        go_wp2_with fail
        go_roundg (x.length - (k + 1))
        case measure => have := hg.out; omega
        case rel => exact ⟨k + 1, by omega, rfl, by go_num, hb.trans (hb1.mono hb.size), h'⟩
      · rw [hpz] at HQ
        have h' := hide (show firstI p x 0 = k by simpa [firstI, hpz] using h)
        have HQ' := hide HQ
        clear h HQ hpz HE
        go_wp2_with fail
        refine HQ'.out.mono ?_
        rintro e w1 ⟨rfl, hb1⟩
        go_wp2_with fail
        go_ret
        exact ⟨ret_i h'.out.symm, hb.trans (hb1.mono hb.size)⟩
    · have h := HE.out
      rw [List.drop_eq_nil_of_le (by omega)] at h
      have HF := hide h
      clear h
      go_wp2_with fail
      go_ret
      exact ⟨ret_i (by rw [HF.out]; rfl), hb⟩
set_option maxRecDepth 100000 in
set_option maxHeartbeats 4000000 in
theorem containsFuncRowN_any (p : TN → Bool) (F : FuncId) (cap : Array Value) (x : List TN) (A : Option Addr) (c : Nat) (w : World) (hx : x.length ≤ 1048576)
    (hcf : ∀ args w, (callFunc F args).run Try.prog w = .ok (.enter F args) w) (h1 : RN 0 w w.heap.size A x)
    (hp : ∀ z Aw cw W, z ∈ x → Below w.heap.size w W → RdI W W.heap.size Aw z.way → Calls Try.prog F (#[.slice Aw z.way.length cw] ++ cap) W fun e w' => e = .returned (.bool (p z)) ∧ Below W.heap.size W w') :
    Calls Try.prog 166 #[.slice A x.length c, .func (.func F) #[] cap] w fun e w' => e = .returned (.bool (x.any p)) ∧ Below w.heap.size w w' := by
  have HC := hide (indexFuncRowN_any p F cap x A c w hx hcf h1 hp)
  clear hp h1
  have HE := hide (firstI_ge p x 0)
  go_enter Try.func166, Try.ntmps166
  go_wp2_with fail
  refine HC.out.mono ?_
  rintro e w1 ⟨rfl, hb⟩
  go_wp2_with fail
  go_ret
  exact ⟨ret_b HE.out, hb⟩
set_option maxRecDepth 100000 in
set_option maxHeartbeats 1000000 in
theorem areCosts1_any (n : Int) (z : TN) (Aw : Option Addr) (cw b : Nat) (w : World) (hx : z.way.length ≤ 1048576) (hr : RdI w w.heap.size Aw z.way) (hc : w.cell? ⟨b, 0, none⟩ = some (.int .i64 n)) :
    Calls Try.prog 233 #[.slice Aw z.way.length cw, .pointer (some ⟨b, 0, none⟩)] w fun e w' => e = .returned (.bool (!costRow n z)) ∧ Below w.heap.size w w' := by
  have HO := hide (outside_any z.way 0 1000 Aw cw w (by omega) hr)
  rw [any_not_all] at HO
  clear hr
  by_cases hl : (z.way.length : Int) = n
  · have hB : ((z.way.length : Int) != n) = false := by simp [hl]
    have HR := hide (show costRow n z = z.way.all (inB 0 1000) by unfold costRow; rw [decide_eq_true hl]; rfl)
    clear hl
    generalize z.way.all (inB 0 1000) = bb at *
    go_enter Try.func233, Try.ntmps233
    go_wp2_with (go_at_call 147; refine (HO.out).mono ?_; rintro e w1 ⟨rfl, hb1⟩)
    go_ret
    exact ⟨ret_b (by rw [HR.out]), hb1⟩
  · have hB : ((z.way.length : Int) != n) = true := by simp [hl]
    have HR := hide (show costRow n z = false by unfold costRow; rw [decide_eq_false hl]; rfl)
    clear hl
    go_enter Try.func233, Try.ntmps233
    go_wp2_with (go_at_call 147; refine (HO.out).mono ?_; rintro e w1 ⟨rfl, hb1⟩)
    go_ret
    exact ⟨ret_b (by rw [HR.out]; rfl), Below.refl _ _⟩
set_option maxRecDepth 100000 in
set_option maxHeartbeats 1000000 in
theorem areCosts_any (n : Int) (l : List TN) (A : Option Addr) (c : Nat) (w : World) (hs : SmallN l) (h1 : RN 0 w w.heap.size A l) :
    Calls Try.prog 125 #[.int .i64 n, .slice A l.length c] w fun e w' => e = .returned (.bool (vCosts n l)) ∧ Below w.heap.size w w' := by
  have hlx : l.length ≤ 1048576 := by unfold SmallN at hs; omega
  have b0 : Below w.heap.size w (w.alloc (.cells #[.int .i64 n] 3)) := (by repeat (first | exact Below.refl _ _ | assumption | (refine Below.alloc ?_ (by simp <;> omega) _) | refine Below.drew ?_ | refine bdn ?_ _))
  have z0 : w.heap.size + 1 ≤ (w.alloc (.cells #[.int .i64 n] 3)).heap.size := by simp
  have e0 : (w.alloc (.cells #[.int .i64 n] 3)).cell? ⟨w.heap.size, 0, none⟩ = some (.int .i64 n) := by simp [go_sem]
  have hcf := callFunc_gen (P := Try.prog) (F := 233) Try.func233 (by kernel_rfl) (by kernel_rfl)
  have HC := hide (containsFuncRowN_any (fun z => !costRow n z) 233 #[.pointer (some ⟨w.heap.size, 0, none⟩)] l A c _ hlx hcf ((h1.below b0).more b0.size) (fun z Aw cw W hz hW hr => by
    obtain ⟨i, hi⟩ := List.getElem?_of_mem hz
    exact areCosts1_any n z Aw cw w.heap.size W (hs.way hi) hr ((hW.cell (p := ⟨w.heap.size, 0, none⟩) z0).trans e0)))
  rw [any_not_all] at HC
  clear h1 hcf
  by_cases hl : (l.length : Int) = n
  · have hB : ((l.length : Int) == n) = true := by simp [hl]
    have HR := hide (show vCosts n l = l.all (costRow n) by unfold vCosts; rw [decide_eq_true hl]; rfl)
    clear hl
    generalize l.all (costRow n) = bb at *
    go_enter Try.func125, Try.ntmps125
    go_wp2_with (go_at_call 166; refine (HC.out).mono ?_; rintro e w1 ⟨rfl, hb1⟩)
    go_ret
    exact ⟨ret_b (by rw [HR.out] <;> simp), b0.trans (hb1.mono b0.size)⟩
  · have hB : ((l.length : Int) == n) = false := by simp [hl]
    have HR := hide (show vCosts n l = false by unfold vCosts; rw [decide_eq_false hl]; rfl)
    clear hl
    go_enter Try.func125, Try.ntmps125
    go_wp2_with (go_at_call 166; refine (HC.out).mono ?_; rintro e w1 ⟨rfl, hb1⟩)
    go_ret
    exact ⟨ret_b HR.out.symm, b0⟩
end Go.Proofs.Ytklfjekpeoigoaa
