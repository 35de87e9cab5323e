/-
  What moves cost; in the program and in the reference.
  The arguments of a law, opened into the words of the walks: slices of numbers and of records. Printed by gen_open.py. No program is named.
  The parameter 'code []byte' of a law: what it reads.
-/
import Derived.Test.YtklfjekpeoigoaaQMovesBack5
import Derived.Test.YtklfjekpeoigoaaQMovesBack0
import Derived.ProofKit
import Derived.OpenShut
import Derived.Deep.Slices
import Derived.Deep.Fields
import Derived.ChangeOld
namespace Go.Proofs.Ytklfjekpeoigoaa
open Go.RowKit

theorem okMove_at {n : Nat} {m : T3} (h : okMove n m = true) : ∃ (i j : Nat), m = ⟨i, j, m.c⟩ ∧ i < n ∧ j < n ∧ 1 ≤ m.c ∧ m.c ≤ 200 := by
  obtain ⟨h1, h2, _, h4⟩ := okMove_iff.1 h
  obtain ⟨i, hi⟩ := Int.eq_ofNat_of_zero_le h1.1
  obtain ⟨j, hj⟩ := Int.eq_ofNat_of_zero_le h2.1
  refine ⟨i, j, ?_, by omega, by omega, h4.1, h4.2⟩
  obtain ⟨a, b, c⟩ := m
  dsimp only at hi hj
  subst hi hj; rfl
theorem costAt_get {l : List TN} {i j : Nat} {e : TN} {z : Int} (he : l[i]? = some e) (hz : e.way[j]? = some z) : costAt l i j = z := by simp [costAt, he, hz]
theorem vMoves_iff {n : Int} {ms : List T3} : vMoves n ms = true ↔ (∀ m ∈ ms, okMove n m = true) ∧ ms.length ≤ 40 := by simp [vMoves]
theorem mul_cost {a b : Int} (h1 : 1 ≤ a) (h2 : a ≤ 200) (h3 : 0 ≤ b) (h4 : b ≤ 1000) : 0 ≤ a * b ∧ a * b ≤ 200000 :=
  ⟨Int.mul_nonneg (by omega) h3, by have := Int.mul_le_mul h2 h4 h3 (by omega : (0 : Int) ≤ 200); omega⟩
set_option maxRecDepth 100000 in
set_option maxHeartbeats 4000000 in
theorem l07Costs_any (n : Int) (l : List TN) (A : Option Addr) (c : Nat) (w : World) (hs : SmallN l) (h1 : RN 0 w w.heap.size A l) :
    Calls Try.prog 120 #[.int .i64 n, .slice A l.length c] w fun e w' => e = .returned (.bool (vCosts n l)) ∧ w = w' := by
  have hlx : l.length ≤ 1048576 := by unfold SmallN at hs; omega
  have HX := hide h1
  have HS := hide hs
  clear h1 hs
  go_enter Try.func120, Try.ntmps120
  go_wp2_with fail
  go_loopg [5] l.length (fun g i wr => ∃ k : Nat, k ≤ l.length ∧ Hid (g = l.length - k) ∧ i = .int .i64 k ∧ Hid (l.all (costRow n) = (l.drop k).all (costRow n)) ∧ w = wr)
  case atStart => exact ⟨0, by omega, by simp [Hid], rfl, by simp [Hid], rfl⟩
  case round =>
    obtain ⟨k, hk, hg, rfl, HA, rfl⟩ := hrel
    by_cases hlt : k < l.length
    · obtain ⟨b1, o1, e, Aw, cw, rfl, hbb, he, hrw, hn0, _, _⟩ := HX.out.at_ (by omega) hlt
      rw [Nat.zero_add, Nat.mul_one] at hn0
      have hwl := HS.out.way he
      have HA' := HA.out
      rw [all_drop _ _ _ _ he] at HA'
      have HQ := hide HA'
      have HRW := hide hrw
      clear HA' HA he hrw
      by_cases hl : (e.way.length : Int) = n
      · have hB : ((e.way.length : Int) != n) = false := by simp [hl]
        have HC := hide (show costRow n e = e.way.all (inB 0 1000) by unfold costRow; rw [decide_eq_true hl]; rfl)
        clear hl
        go_wp2_with fail
        go_loopg [6] e.way.length (fun g2 i2 wr2 => ∃ j : Nat, j ≤ e.way.length ∧ Hid (g2 = e.way.length - j) ∧ i2 = .int .i64 j ∧ Hid (e.way.all (inB 0 1000) = (e.way.drop j).all (inB 0 1000)) ∧ w = wr2)
        case atStart => exact ⟨0, by omega, by simp [Hid], rfl, by simp [Hid], rfl⟩
        case round =>
          obtain ⟨j, hj, hg2, rfl, HB, rfl⟩ := hrel
          by_cases hlt2 : j < e.way.length
          · obtain ⟨b2, o2, z, rfl, _, hz, hcz⟩ := HRW.out.at_ hlt2
            have HB' := HB.out
            rw [all_drop _ _ _ _ hz] at HB'
            have HQ2 := hide HB'
            clear HB' HB hz
            by_cases hin : 0 ≤ z ∧ z ≤ 1000
            · have HI := hide (inB_t hin)
              obtain ⟨hin1, hin2⟩ := hin
              go_wp2_with (go_at_call 148; first | (refine (l00In_t _ _ _ _ (by omega)).mono ?_; rintro e w' ⟨rfl, rfl⟩) | (refine (l00In_f _ _ _ _ (by omega)).mono ?_; rintro e w' ⟨rfl, rfl⟩))
              go_roundg (e.way.length - (j + 1))
              case measure => have := hg2.out; omega
              case rel => exact ⟨j + 1, by omega, rfl, by go_num, hide (by have := HQ2.out; rw [HI.out] at this; simpa using this), rfl⟩
            · have hin' : z < 0 ∨ 1000 < z := by omega
              have HI := hide (inB_f hin')
              clear hin
              go_wp2_with (go_at_call 148; first | (refine (l00In_t _ _ _ _ (by omega)).mono ?_; rintro e w' ⟨rfl, rfl⟩) | (refine (l00In_f _ _ _ _ (by omega)).mono ?_; rintro e w' ⟨rfl, rfl⟩))
              go_ret
              exact ⟨ret_b (by unfold vCosts; rw [HQ.out, HC.out, HQ2.out, HI.out]; simp), rfl⟩
          · have HD := hide (show costRow n e = true by rw [HC.out, HB.out, List.drop_eq_nil_of_le (by omega)]; rfl)
            go_wp2_with fail
            go_roundg (l.length - (k + 1))
            case measure => have := hg.out; omega
            case rel => exact ⟨k + 1, by omega, rfl, by go_num, hide (by have := HQ.out; rw [HD.out] at this; simpa using this), rfl⟩
      · have hB : ((e.way.length : Int) != n) = true := by simp [hl]
        have HC := hide (show costRow n e = false by unfold costRow; rw [decide_eq_false hl]; rfl)
        clear hl
        go_wp2_with fail
        go_ret
        exact ⟨ret_b (by unfold vCosts; rw [HQ.out, HC.out]; simp), rfl⟩
    · have HE := hide (show l.all (costRow n) = true by rw [HA.out, List.drop_eq_nil_of_le (by omega)]; rfl)
      clear HA
      by_cases hl : (l.length : Int) = n
      · have hB : ((l.length : Int) == n) = true := by simp [hl]
        have HR := hide (show vCosts n l = true by unfold vCosts; rw [HE.out, decide_eq_true hl]; rfl)
        clear hl
        go_wp2_with fail
        go_ret
        exact ⟨ret_b HR.out.symm, rfl⟩
      · have hB : ((l.length : Int) == n) = false := by simp [hl]
        have HR := hide (show vCosts n l = false by unfold vCosts; rw [HE.out, decide_eq_false hl]; rfl)
        clear hl
        go_wp2_with fail
        go_ret
        exact ⟨ret_b HR.out.symm, rfl⟩
set_option maxRecDepth 100000 in
set_option maxHeartbeats 4000000 in
theorem S_CostOfMoves (ms : List T3) (v : Value) (l : List TN) (u : Value) (w : World) (hs2 : ms.length ≤ 1048576) (_ : ∀ z ∈ ms, z.Fits) (h : R_MoveS w w.heap.size v ms) (hs : SmallN l) (_ : ∀ e ∈ l, e.Fits) (k : R_Int64SS w w.heap.size u l) :
    Calls Try.prog 41 #[v, u] w fun e w' => e = .returned (.tuple #[.int .i64 (costOfMoves ms l).1, .int .i64 (costOfMoves ms l).2]) ∧ Below w.heap.size w w' := by
  obtain ⟨A, c, rfl, h1⟩ := h
  obtain ⟨A2, c2, rfl, h2⟩ := k
  have hlx : l.length ≤ 1048576 := by unfold SmallN at hs; omega
  have HC := hide (l07Costs_any (l.length : Int) l A2 c2 w hs h2)
  have HI := hide fun W => l00In_any (l.length : Int) 2 10 W
  have HM := hide h1
  have HX := hide h2
  clear h1 h2
  cases hi : inB 2 10 l.length
  · have HR := hide (show costOfMoves ms l = (0, 1) by simp [costOfMoves, hi])
    rw [hi] at HI
    clear hi
    go_enter Try.func41, Try.ntmps41
    go_wp2_with (go_at_call 148; refine (HI.out _).mono ?_; rintro e w' ⟨rfl, rfl⟩)
    go_ret2
    exact ⟨by rw [HR.out]; rfl, Below.refl _ _⟩
  rw [hi] at HI
  cases hc : vCosts l.length l
  · have HR := hide (show costOfMoves ms l = (0, 1) by simp [costOfMoves, hc])
    rw [hc] at HC
    clear hi hc
    go_enter Try.func41, Try.ntmps41
    go_wp2_with (first | (go_at_call 148; refine (HI.out _).mono ?_; rintro e w' ⟨rfl, rfl⟩) | (go_at_call 120; refine (HC.out).mono ?_; rintro e w' ⟨rfl, rfl⟩))
    go_ret2
    exact ⟨by rw [HR.out]; rfl, Below.refl _ _⟩
  rw [hc] at HC
  have HVC := hide (vCosts_iff.1 hc).2
  have HR0 := hide (show costOfMoves ms l = (if vMoves l.length ms = true then (coGo l ms 0, 0) else (0, 2)) by simp [costOfMoves, hi, hc])
  clear hi hc
  go_enter Try.func41, Try.ntmps41
  go_wp2_with (first | (go_at_call 148; refine (HI.out _).mono ?_; rintro e w' ⟨rfl, rfl⟩) | (go_at_call 120; refine (HC.out).mono ?_; rintro e w' ⟨rfl, rfl⟩))
  go_loopg [6] ms.length (fun g i wr => ∃ k : Nat, k ≤ ms.length ∧ Hid (g = ms.length - k) ∧ i = .int .i64 k ∧ Hid (ms.all (okMove l.length) = (ms.drop k).all (okMove l.length)) ∧ Below w.heap.size w wr)
  case atStart => exact ⟨0, by omega, by simp [Hid], rfl, by simp [Hid], Below.refl _ _⟩
  case round =>
    obtain ⟨k, hk, hg, rfl, HS, hb⟩ := hrel
    by_cases hlt : k < ms.length
    · obtain ⟨b1, o1, m1, rfl, _, hm1, hca, hcb, hcc⟩ := (HM.out.below hb).at_ hlt
      have HS' := HS.out; rw [all_drop _ _ _ _ hm1] at HS'
      have HQ := hide HS'; clear HS' hm1
      have HC := hide (l07Move_any (l.length : Int) m1 b1 (o1 + k * 3) wr (by omega) (by omega) hca hcb hcc)
      cases ho : okMove l.length m1
      · rw [ho] at HC HQ
        have HR := hide (show costOfMoves ms l = (0, 2) by rw [HR0.out, show vMoves l.length ms = false by unfold vMoves; rw [HQ.out]; rfl]; rfl)
        clear ho
        go_wp2_with (go_at_call 144; refine (HC.out).mono ?_; rintro e w1 ⟨rfl, hb1⟩)
        go_ret2
        exact ⟨by rw [HR.out]; rfl, hb.trans (hb1.mono hb.size)⟩
      · rw [ho] at HC HQ
        clear ho
        go_wp2_with (go_at_call 144; refine (HC.out).mono ?_; rintro e w1 ⟨rfl, hb1⟩)
        go_roundg (ms.length - (k + 1))
        case measure => have := hg.out; omega
        case rel => exact ⟨k + 1, by omega, rfl, by go_num, hide (by have := HQ.out; simpa using this), hb.trans (hb1.mono hb.size)⟩
    · have HA : Hid (ms.all (okMove l.length) = true) := by
        have := HS.out; rw [List.drop_eq_nil_of_le (by omega)] at this; exact this
      clear HS
      by_cases hl : ms.length ≤ 40
      case neg =>
        have HR := hide (show costOfMoves ms l = (0, 2) by rw [HR0.out, show vMoves l.length ms = false by simp [vMoves]; omega]; rfl)
        go_wp2_with fail
        go_ret2
        exact ⟨by rw [HR.out]; rfl, hb⟩
      have HR := hide (show costOfMoves ms l = (coGo l ms 0, 0) by rw [HR0.out, show vMoves l.length ms = true by simp [vMoves, HA.out, hl]]; rfl)
      clear HR0
      go_wp2_with fail
      go_loopg [7, 8] ms.length (fun g s i wq => ∃ (k : Nat) (z : Int), k ≤ ms.length ∧ Hid (g = ms.length - k) ∧ i = .int .i64 k ∧ s = .int .i64 z ∧ 0 ≤ z ∧ z ≤ 200000 * (k : Int) ∧ Hid (coGo l ms 0 = coGo l (ms.drop k) z) ∧ Below w.heap.size w wq)
      case atStart => exact ⟨0, 0, by omega, by simp [Hid], rfl, rfl, by omega, by omega, by simp [Hid], hb⟩
      case round =>
        obtain ⟨k2, z, hk2, hg2, rfl, rfl, hz0, hz1, HSE, hbq⟩ := hrel
        by_cases hlt2 : k2 < ms.length
        · obtain ⟨b1, o1, m1, rfl, _, hm1, hca, hcb, hcc⟩ := (HM.out.below hbq).at_ hlt2
          obtain ⟨i, j, hmm, hi, hj, hc1, hc2⟩ := okMove_at (List.all_eq_true.1 HA.out m1 (List.mem_of_getElem? hm1))
          obtain ⟨ma, mb, mc⟩ := m1
          simp only [T3.mk.injEq, and_true] at hmm
          obtain ⟨rfl, rfl⟩ := hmm
          dsimp only at *
          obtain ⟨b2, o2, e, Aw, cw, rfl, _, he, hrw, hn0, _, _⟩ := (HX.out.below hbq).at_ (by omega) hi
          rw [Nat.zero_add, Nat.mul_one] at hn0
          obtain ⟨hel, heb⟩ := HVC.out e (List.mem_of_getElem? he)
          obtain ⟨b3, o3, y, rfl, _, hy, hcy⟩ := hrw.at_ (show j < e.way.length by omega)
          obtain ⟨hy0, hy1⟩ := heb y (List.mem_of_getElem? hy)
          obtain ⟨hp0, hp1⟩ := mul_cost hc1 hc2 hy0 hy1
          have HSE' := HSE.out
          rw [coGo_drop hm1] at HSE'
          dsimp only at HSE'
          rw [costAt_get he hy] at HSE'
          have HQ := hide HSE'
          have hil : (i : Int) < l.length := by omega
          have hjl : (j : Int) < e.way.length := by omega
          have hi0 : (0 : Int) ≤ (i : Int) := by omega
          have hj0 : (0 : Int) ≤ (j : Int) := by omega
          clear HSE' HSE hm1 he hy hel heb hrw
          have hw1 : IntKind.i64.wrap (mc * y) = mc * y := by rw [IntKind.wrap_i64] <;> omega
          have hw2 : IntKind.i64.wrap (z + mc * y) = z + mc * y := by rw [IntKind.wrap_i64] <;> omega
          go_wp2_with fail
          go_quiet (fail)
          go_wp2_with fail
          go_roundg (ms.length - (k2 + 1))
          case measure => have := hg2.out; omega
          case rel => exact ⟨k2 + 1, z + mc * y, by omega, rfl, by go_num, rfl, by omega, by omega, HQ, bdn hbq _⟩
        · have HE := hide (show coGo l ms 0 = z by rw [HSE.out, List.drop_eq_nil_of_le (by omega)]; rfl)
          go_wp2_with fail
          go_ret2
          exact ⟨by rw [HR.out, HE.out]; rfl, hbq⟩
set_option maxRecDepth 100000 in
set_option maxHeartbeats 4000000 in
theorem P_CostOfMoves (ms : List T3) (v : Value) (l : List TN) (u : Value) (w : World) (hs2 : ms.length ≤ 1048576) (_ : ∀ z ∈ ms, z.Fits) (h : R_MoveS w w.heap.size v ms) (hs : SmallN l) (_ : ∀ e ∈ l, e.Fits) (k : R_Int64SS w w.heap.size u l) :
    Calls Try.prog 40 #[v, u] w fun e w' => e = .returned (.tuple #[.int .i64 (costOfMoves ms l).1, .int .i64 (costOfMoves ms l).2]) ∧ Below w.heap.size w w' := by
  obtain ⟨A, c, rfl, h1⟩ := h
  obtain ⟨A2, c2, rfl, h2⟩ := k
  have hlx : l.length ≤ 1048576 := by unfold SmallN at hs; omega
  have HC := hide (areCosts_any (l.length : Int) l A2 c2 w hs h2)
  have HI := hide (isCount_any (l.length : Int))
  have HV := hide fun W (hW : Below w.heap.size w W) => areMoves_any (l.length : Int) ms A c W (by omega) (by omega) hs2 ((h1.below hW).more hW.size)
  have HM := hide h1
  have HX := hide h2
  clear h1 h2
  cases hi : inB 2 10 l.length
  · have HR := hide (show costOfMoves ms l = (0, 1) by simp [costOfMoves, hi])
    rw [hi] at HI
    clear hi
    go_enter Try.func40, Try.ntmps40
    go_wp2_with (go_at_call 146; refine (HI.out _).mono ?_; rintro e w' ⟨rfl, rfl⟩)
    go_ret2
    exact ⟨by rw [HR.out]; rfl, Below.refl _ _⟩
  rw [hi] at HI
  cases hc : vCosts l.length l
  · have HR := hide (show costOfMoves ms l = (0, 1) by simp [costOfMoves, hc])
    rw [hc] at HC
    clear hi hc
    go_enter Try.func40, Try.ntmps40
    go_wp2_with (first | (go_at_call 146; refine (HI.out _).mono ?_; rintro e w' ⟨rfl, rfl⟩) | (go_at_call 125; refine (HC.out).mono ?_; rintro e w1 ⟨rfl, hb1⟩))
    go_ret2
    exact ⟨by rw [HR.out]; rfl, hb1⟩
  rw [hc] at HC
  have HVC := hide (vCosts_iff.1 hc).2
  have HR0 := hide (show costOfMoves ms l = (if vMoves l.length ms = true then (coGo l ms 0, 0) else (0, 2)) by simp [costOfMoves, hi, hc])
  clear hi hc
  cases hm : vMoves l.length ms
  · have HR := hide (show costOfMoves ms l = (0, 2) by rw [HR0.out, hm]; rfl)
    rw [hm] at HV
    clear hm
    go_enter Try.func40, Try.ntmps40
    go_wp2_with (first | (go_at_call 146; refine (HI.out _).mono ?_; rintro e w' ⟨rfl, rfl⟩) | (go_at_call 125; refine (HC.out).mono ?_; rintro e w1 ⟨rfl, hb1⟩) | (go_at_call 141; refine (HV.out _ hb1).mono ?_; rintro e w2 ⟨rfl, hb2⟩))
    go_ret2
    exact ⟨by rw [HR.out]; rfl, hb1.trans (hb2.mono hb1.size)⟩
  have HR := hide (show costOfMoves ms l = (coGo l ms 0, 0) by rw [HR0.out, hm]; rfl)
  have HA := hide (vMoves_iff.1 hm).1
  have hl40 := (vMoves_iff.1 hm).2
  rw [hm] at HV
  clear hm HR0
  go_enter Try.func40, Try.ntmps40
  go_wp2_with (first | (go_at_call 146; refine (HI.out _).mono ?_; rintro e w' ⟨rfl, rfl⟩) | (go_at_call 125; refine (HC.out).mono ?_; rintro e w1 ⟨rfl, hb1⟩) | (go_at_call 141; refine (HV.out _ hb1).mono ?_; rintro e w2 ⟨rfl, hb2'⟩))
  have hb2 := hb1.trans (hb2'.mono hb1.size)
  go_loopg [7, 29] ms.length (fun g s i wq => ∃ (k : Nat) (z : Int), k ≤ ms.length ∧ Hid (g = ms.length - k) ∧ i = .int .i64 k ∧ s = .int .i64 z ∧ 0 ≤ z ∧ z ≤ 200000 * (k : Int) ∧ Hid (coGo l ms 0 = coGo l (ms.drop k) z) ∧ Below w.heap.size w wq)
  case atStart => exact ⟨0, 0, by omega, by simp [Hid], rfl, rfl, by omega, by omega, by simp [Hid], hb2⟩
  case round =>
    obtain ⟨k2, z, hk2, hg2, rfl, rfl, hz0, hz1, HSE, hbq⟩ := hrel
    by_cases hlt2 : k2 < ms.length
    · obtain ⟨b1, o1, m1, rfl, _, hm1, hca, hcb, hcc⟩ := (HM.out.below hbq).at_ hlt2
      obtain ⟨i, j, hmm, hi, hj, hc1, hc2⟩ := okMove_at (HA.out m1 (List.mem_of_getElem? hm1))
      obtain ⟨ma, mb, mc⟩ := m1
      simp only [T3.mk.injEq, and_true] at hmm
      obtain ⟨rfl, rfl⟩ := hmm
      dsimp only at *
      have bqa : Below w.heap.size w (wr.alloc (.cells #[.int .i64 i, .int .i64 j, .int .i64 mc] 143)) := hbq.alloc hbq.size _
      obtain ⟨b2, o2, e, Aw, cw, rfl, _, he, hrw, hn0, _, _⟩ := (HX.out.below bqa).at_ (by omega) hi
      rw [Nat.zero_add, Nat.mul_one] at hn0
      obtain ⟨hel, heb⟩ := HVC.out e (List.mem_of_getElem? he)
      obtain ⟨b3, o3, y, rfl, _, hy, hcy⟩ := hrw.at_ (show j < e.way.length by omega)
      obtain ⟨hy0, hy1⟩ := heb y (List.mem_of_getElem? hy)
      obtain ⟨hp0, hp1⟩ := mul_cost hc1 hc2 hy0 hy1
      have HSE' := HSE.out
      rw [coGo_drop hm1] at HSE'
      dsimp only at HSE'
      rw [costAt_get he hy] at HSE'
      have HQ := hide HSE'
      have hil : (i : Int) < l.length := by omega
      have hjl : (j : Int) < e.way.length := by omega
      have hi0 : (0 : Int) ≤ (i : Int) := by omega
      have hj0 : (0 : Int) ≤ (j : Int) := by omega
      clear HSE' HSE hm1 he hy hel heb hrw
      have hw1 : IntKind.i64.wrap (mc * y) = mc * y := by rw [IntKind.wrap_i64] <;> omega
      have hw2 : IntKind.i64.wrap (z + mc * y) = z + mc * y := by rw [IntKind.wrap_i64] <;> omega
      have hna : (wr.alloc (.cells #[.int .i64 i, .int .i64 j, .int .i64 mc] 143)).cell? ⟨wr.heap.size, 0, none⟩ = some (.int .i64 i) := by simp [go_sem]
      have hnb : (wr.alloc (.cells #[.int .i64 i, .int .i64 j, .int .i64 mc] 143)).cell? ⟨wr.heap.size, 1, none⟩ = some (.int .i64 j) := by simp [go_sem]
      have hnc : (wr.alloc (.cells #[.int .i64 i, .int .i64 j, .int .i64 mc] 143)).cell? ⟨wr.heap.size, 2, none⟩ = some (.int .i64 mc) := by simp [go_sem]
      go_wp2_with fail
      generalize (wr.alloc (.cells #[.int .i64 i, .int .i64 j, .int .i64 mc] 143)) = wa at *
      go_quiet (fail)
      go_wp2_with fail
      go_roundg (ms.length - (k2 + 1))
      case measure => have := hg2.out; omega
      case rel => exact ⟨k2 + 1, z + mc * y, by omega, rfl, by go_num, rfl, by omega, by omega, HQ, bdn bqa _⟩
    · have HE := hide (show coGo l ms 0 = z by rw [HSE.out, List.drop_eq_nil_of_le (by omega)]; rfl)
      go_wp2_with fail
      go_ret2
      exact ⟨by rw [HR.out, HE.out]; rfl, hbq⟩
end Go.Proofs.Ytklfjekpeoigoaa
namespace Go.Proofs.Ytklfjekpeoigoaa
open Go.ChangeShapes Go.WideShapes Go.ChangeAt Go.RowKit Go.Deep

theorem wf64 {z : Int} (h : (Lit.int .i64 z).wf = true) : -9223372036854775808 ≤ z ∧ z ≤ 9223372036854775807 := by
  simp [Lit.wf, IntKind.min, IntKind.max, IntKind.signed, IntKind.bits] at h
  exact ⟨by omega, by omega⟩

section
variable {w : World}
theorem addr_of_cell {a : Addr} {u : Value} (h : w.cell? a = some u) : a = ⟨a.block, a.off, none⟩ := by
  obtain ⟨b, o, s⟩ := a
  have := World.cell?_spot h
  simp at this; subst this; rfl
theorem rd_of_cells {a : Addr} {xs : List Value} (h : ∀ j, j < xs.length → w.cell? (a.add j) = xs[j]?) : Rd w w.heap.size (some a) xs := fun hn => by
  have hl : 0 < xs.length := List.length_pos_iff.2 hn
  have h0 := h 0 hl
  rw [List.getElem?_eq_getElem hl] at h0
  have ha : a.add 0 = a := by simp [Addr.add]
  rw [ha] at h0
  have e := addr_of_cell h0
  have hlt := World.block_lt_of_cell? w _ h0
  refine ⟨a.block, a.off, by rw [← e], hlt, fun j u hu => ?_⟩
  have hj := (List.getElem?_eq_some_iff.1 hu).1
  have := h j hj
  rw [e, Addr.add_lit] at this
  rw [this, hu]
theorem rd_family {α : Type} (f : α → List Value) (s : Nat) (hs : ∀ x, (f x).length = s) (hs0 : 0 < s) (X : Nat → α) (len : Nat) {a : Addr} (h : ∀ i, i < len → ∀ j, j < s → w.cell? (a.add (i * s + j)) = (f (X i))[j]?) :
    Rd w w.heap.size (some a) (((List.range len).map X).flatMap f) := by
  refine rd_of_cells fun q hq => ?_
  rw [flatMap_len f s hs] at hq
  simp only [List.length_map, List.length_range] at hq
  have hk : q / s < len := by rw [Nat.div_lt_iff_lt_mul hs0]; exact hq
  have hm := Nat.mod_lt q hs0
  have e : q / s * s + q % s = q := by rw [Nat.mul_comm]; exact Nat.div_add_mod q s
  have h1 := h (q / s) hk (q % s) hm
  have h2 := flatMap_get f s hs ((List.range len).map X) (q / s) (q % s) (X (q / s)) (by simp [hk]) hm
  rw [e] at h1 h2
  rw [h1, h2]
end

section
variable {H : Type} {enc : TypeId × Value → H} {P : Program} {w : World} {spare : Nat → Bool} {held : Bool} {b0 : Nat}
theorem trod_I {t e : TypeId} {fuel : Nat} {v : Value} {x : DataW H × List MemPlace} (ht : P.underlying t = some (.slice e)) (he : P.underlying e = some (.int .i64)) (hc : P.cellsOf e = 1)
    (h : DataW.trod enc P w b0 spare held fuel t [v] = some x) :
    ∃ A c, ∃ zs : List Int, v = .slice A zs.length c ∧ RdI w w.heap.size A zs ∧ zs.length ≤ 9223372036854775807 ∧ ∀ z ∈ zs, -9223372036854775808 ≤ z ∧ z ≤ 9223372036854775807 := by
  rcases open_ints ht he hc h with ⟨hcs, _⟩ | ⟨a, l, c, zs, hcs, _, hl, hm, hz, _, hcell, hwz⟩
  · simp at hcs; subst hcs
    exact ⟨none, 0, [], rfl, Rd.nil _ _ _, by simp, by simp⟩
  · simp at hcs; subst hcs
    have hll : l ≤ zs.length := by rw [hz]; split <;> omega
    unfold maxLen at hm
    refine ⟨some a, c, zs.take l, by simp [Nat.min_eq_left hll], ?_, by simp [Nat.min_eq_left hll]; omega, fun z hz' => wf64 (hwz z (List.mem_of_mem_take hz'))⟩
    refine rd_of_cells fun j hj => ?_
    simp only [List.length_map, List.length_take] at hj
    rw [hcell j (by omega)]
    simp [List.getD, show j < l by omega, show j < zs.length by omega]
theorem open_I {r : Reach} {b1 : Nat} {t e : TypeId} {v : Value} {d : DataW H} {p : List MemPlace} (ht : P.underlying t = some (.slice e)) (he : P.underlying e = some (.int .i64)) (hc : P.cellsOf e = 1)
    (hval : Value.okWide P w r b1 t v) (h : DataW.Trod enc P w b0 spare held t v d p) :
    ∃ A c, ∃ zs : List Int, v = .slice A zs.length c ∧ RdI w w.heap.size A zs ∧ zs.length ≤ 9223372036854775807 ∧ ∀ z ∈ zs, -9223372036854775808 ≤ z ∧ z ≤ 9223372036854775807 := by
  obtain ⟨a, l, c, rfl⟩ := okWide_slice ht hval
  obtain ⟨fuel, hf⟩ := h
  exact trod_I ht he hc (by simpa [Value.cells] using hf)
theorem open_Z {r : Reach} {b1 : Nat} {t : TypeId} {v : Value} {d : DataW H} {p : List MemPlace} (ht : P.underlying t = some (.int .i64))
    (hval : Value.okWide P w r b1 t v) (h : DataW.Trod enc P w b0 spare held t v d p) : ∃ z, v = .int .i64 z ∧ -9223372036854775808 ≤ z ∧ z ≤ 9223372036854775807 := by
  obtain ⟨z, rfl, _, _, hw⟩ := open_int ht hval h
  exact ⟨z, rfl, wf64 hw⟩
instance : Inhabited T2 := ⟨⟨0, 0⟩⟩
theorem rec_2 {e : TypeId} {fuel : Nat} {cs : List Value} {x : DataW H × List MemPlace} {f0 f1 : Field} (he : P.underlying e = some (.struct #[f0, f1])) (hone : oneCellFields P #[f0, f1] = true) (hC : P.cellsOf e = 2)
    (h0 : P.underlying f0.type = some (.int .i64)) (h1 : P.underlying f1.type = some (.int .i64)) (h : DataW.trod enc P w b0 spare held fuel e cs = some x) : ∃ y : T2, cs = y.cells ∧ y.Fits := by
  obtain ⟨xs, m, _, _, hlen, hxl, hg⟩ := DataW.trod_struct he h
  rw [hC] at hlen
  match cs, hlen with
  | [v0, v1], _ =>
    match xs, hxl with
    | [y0, y1], _ =>
      obtain ⟨o0, k0⟩ := hone_of hone 0 f0 rfl
      have t0 := hg 0 f0 rfl
      rw [o0, k0] at t0
      obtain ⟨n0, e0, _, w0⟩ := DataW.trod_int h0 (x := y0) (by simpa using t0)
      simp at e0
      obtain ⟨o1, k1⟩ := hone_of hone 1 f1 rfl
      have t1 := hg 1 f1 rfl
      rw [o1, k1] at t1
      obtain ⟨n1, e1, _, w1⟩ := DataW.trod_int h1 (x := y1) (by simpa using t1)
      simp at e1
      subst e0 e1
      exact ⟨⟨n0, n1⟩, rfl, wf64 w0, wf64 w1⟩
theorem trod_S2 {t e : TypeId} {fuel : Nat} {v : Value} {x : DataW H × List MemPlace} {f0 f1 : Field} (ht : P.underlying t = some (.slice e)) (he : P.underlying e = some (.struct #[f0, f1])) (hone : oneCellFields P #[f0, f1] = true) (hC : P.cellsOf e = 2)
    (h0 : P.underlying f0.type = some (.int .i64)) (h1 : P.underlying f1.type = some (.int .i64)) (h : DataW.trod enc P w b0 spare held fuel t [v] = some x) :
    ∃ A c, ∃ xs : List T2, v = .slice A xs.length c ∧ Rd2 w w.heap.size A xs ∧ xs.length ≤ 9223372036854775807 ∧ ∀ y ∈ xs, y.Fits := by
  rcases open_slice ht h with ⟨hcs, _⟩ | ⟨a, l, c, m, n, D, Pl, hcs, _, hl, hm, hmm, _, hi⟩
  · simp at hcs; subst hcs
    exact ⟨none, 0, [], rfl, Rd.nil _ _ _, by simp, by simp⟩
  · simp at hcs; subst hcs
    have hll : l ≤ m := by rw [hmm]; split <;> omega
    unfold maxLen at hm
    obtain ⟨X, hX⟩ := choose_lt (α := T2) (n := l) (p := fun i y => (∀ j, j < 2 → w.cell? (a.add (i * 2 + j)) = y.cells[j]?) ∧ y.Fits) (fun i hil => by
      obtain ⟨cs', q1, q2⟩ := hi i (by omega)
      rw [hC] at q1
      obtain ⟨y, rfl, hy⟩ := rec_2 he hone hC h0 h1 q2
      obtain ⟨_, _, hat⟩ := World.cells?_some q1
      exact ⟨y, fun j hj => by rw [← Go.Deep.add_add]; exact hat j hj, hy⟩)
    refine ⟨some a, c, (List.range l).map X, by simp, rd_family T2.cells 2 (fun _ => rfl) (by omega) X l fun i hil j hj => (hX i hil).1 j hj, by simp; omega, fun y hy => ?_⟩
    obtain ⟨i, hi', rfl⟩ := List.mem_map.1 hy
    exact (hX i (List.mem_range.1 hi')).2
theorem open_S2 {r : Reach} {b1 : Nat} {t e : TypeId} {v : Value} {d : DataW H} {p : List MemPlace} {f0 f1 : Field} (ht : P.underlying t = some (.slice e)) (he : P.underlying e = some (.struct #[f0, f1])) (hone : oneCellFields P #[f0, f1] = true) (hC : P.cellsOf e = 2)
    (h0 : P.underlying f0.type = some (.int .i64)) (h1 : P.underlying f1.type = some (.int .i64)) (hval : Value.okWide P w r b1 t v) (h : DataW.Trod enc P w b0 spare held t v d p) :
    ∃ A c, ∃ xs : List T2, v = .slice A xs.length c ∧ Rd2 w w.heap.size A xs ∧ xs.length ≤ 9223372036854775807 ∧ ∀ y ∈ xs, y.Fits := by
  obtain ⟨a, l, c, rfl⟩ := okWide_slice ht hval
  obtain ⟨fuel, hf⟩ := h
  exact trod_S2 ht he hone hC h0 h1 (by simpa [Value.cells] using hf)
theorem open_V2 {r : Reach} {b1 : Nat} {e : TypeId} {v : Value} {d : DataW H} {p : List MemPlace} {f0 f1 : Field} (he : P.underlying e = some (.struct #[f0, f1])) (hone : oneCellFields P #[f0, f1] = true) (hC : P.cellsOf e = 2)
    (h0 : P.underlying f0.type = some (.int .i64)) (h1 : P.underlying f1.type = some (.int .i64)) (hval : Value.okWide P w r b1 e v) (h : DataW.Trod enc P w b0 spare held e v d p) : ∃ y : T2, v = .agg #[.int .i64 y.a, .int .i64 y.b] ∧ y.Fits := by
  obtain ⟨cs, rfl, hsz⟩ := okWide_struct he hval
  obtain ⟨fuel, hf⟩ := h
  obtain ⟨y, hy, hfit⟩ := rec_2 he hone hC h0 h1 hf
  refine ⟨y, ?_, hfit⟩
  simp only [Value.cells] at hy
  obtain ⟨l⟩ := cs
  simp only at hy
  subst hy; rfl
instance : Inhabited T3 := ⟨⟨0, 0, 0⟩⟩
theorem rec_3 {e : TypeId} {fuel : Nat} {cs : List Value} {x : DataW H × List MemPlace} {f0 f1 f2 : Field} (he : P.underlying e = some (.struct #[f0, f1, f2])) (hone : oneCellFields P #[f0, f1, f2] = true) (hC : P.cellsOf e = 3)
    (h0 : P.underlying f0.type = some (.int .i64)) (h1 : P.underlying f1.type = some (.int .i64)) (h2 : P.underlying f2.type = some (.int .i64)) (h : DataW.trod enc P w b0 spare held fuel e cs = some x) : ∃ y : T3, cs = y.cells ∧ y.Fits := by
  obtain ⟨xs, m, _, _, hlen, hxl, hg⟩ := DataW.trod_struct he h
  rw [hC] at hlen
  match cs, hlen with
  | [v0, v1, v2], _ =>
    match xs, hxl with
    | [y0, y1, y2], _ =>
      obtain ⟨o0, k0⟩ := hone_of hone 0 f0 rfl
      have t0 := hg 0 f0 rfl
      rw [o0, k0] at t0
      obtain ⟨n0, e0, _, w0⟩ := DataW.trod_int h0 (x := y0) (by simpa using t0)
      simp at e0
      obtain ⟨o1, k1⟩ := hone_of hone 1 f1 rfl
      have t1 := hg 1 f1 rfl
      rw [o1, k1] at t1
      obtain ⟨n1, e1, _, w1⟩ := DataW.trod_int h1 (x := y1) (by simpa using t1)
      simp at e1
      obtain ⟨o2, k2⟩ := hone_of hone 2 f2 rfl
      have t2 := hg 2 f2 rfl
      rw [o2, k2] at t2
      obtain ⟨n2, e2, _, w2⟩ := DataW.trod_int h2 (x := y2) (by simpa using t2)
      simp at e2
      subst e0 e1 e2
      exact ⟨⟨n0, n1, n2⟩, rfl, wf64 w0, wf64 w1, wf64 w2⟩
theorem trod_S3 {t e : TypeId} {fuel : Nat} {v : Value} {x : DataW H × List MemPlace} {f0 f1 f2 : Field} (ht : P.underlying t = some (.slice e)) (he : P.underlying e = some (.struct #[f0, f1, f2])) (hone : oneCellFields P #[f0, f1, f2] = true) (hC : P.cellsOf e = 3)
    (h0 : P.underlying f0.type = some (.int .i64)) (h1 : P.underlying f1.type = some (.int .i64)) (h2 : P.underlying f2.type = some (.int .i64)) (h : DataW.trod enc P w b0 spare held fuel t [v] = some x) :
    ∃ A c, ∃ xs : List T3, v = .slice A xs.length c ∧ Rd3 w w.heap.size A xs ∧ xs.length ≤ 9223372036854775807 ∧ ∀ y ∈ xs, y.Fits := by
  rcases open_slice ht h with ⟨hcs, _⟩ | ⟨a, l, c, m, n, D, Pl, hcs, _, hl, hm, hmm, _, hi⟩
  · simp at hcs; subst hcs
    exact ⟨none, 0, [], rfl, Rd.nil _ _ _, by simp, by simp⟩
  · simp at hcs; subst hcs
    have hll : l ≤ m := by rw [hmm]; split <;> omega
    unfold maxLen at hm
    obtain ⟨X, hX⟩ := choose_lt (α := T3) (n := l) (p := fun i y => (∀ j, j < 3 → w.cell? (a.add (i * 3 + j)) = y.cells[j]?) ∧ y.Fits) (fun i hil => by
      obtain ⟨cs', q1, q2⟩ := hi i (by omega)
      rw [hC] at q1
      obtain ⟨y, rfl, hy⟩ := rec_3 he hone hC h0 h1 h2 q2
      obtain ⟨_, _, hat⟩ := World.cells?_some q1
      exact ⟨y, fun j hj => by rw [← Go.Deep.add_add]; exact hat j hj, hy⟩)
    refine ⟨some a, c, (List.range l).map X, by simp, rd_family T3.cells 3 (fun _ => rfl) (by omega) X l fun i hil j hj => (hX i hil).1 j hj, by simp; omega, fun y hy => ?_⟩
    obtain ⟨i, hi', rfl⟩ := List.mem_map.1 hy
    exact (hX i (List.mem_range.1 hi')).2
theorem open_S3 {r : Reach} {b1 : Nat} {t e : TypeId} {v : Value} {d : DataW H} {p : List MemPlace} {f0 f1 f2 : Field} (ht : P.underlying t = some (.slice e)) (he : P.underlying e = some (.struct #[f0, f1, f2])) (hone : oneCellFields P #[f0, f1, f2] = true) (hC : P.cellsOf e = 3)
    (h0 : P.underlying f0.type = some (.int .i64)) (h1 : P.underlying f1.type = some (.int .i64)) (h2 : P.underlying f2.type = some (.int .i64)) (hval : Value.okWide P w r b1 t v) (h : DataW.Trod enc P w b0 spare held t v d p) :
    ∃ A c, ∃ xs : List T3, v = .slice A xs.length c ∧ Rd3 w w.heap.size A xs ∧ xs.length ≤ 9223372036854775807 ∧ ∀ y ∈ xs, y.Fits := by
  obtain ⟨a, l, c, rfl⟩ := okWide_slice ht hval
  obtain ⟨fuel, hf⟩ := h
  exact trod_S3 ht he hone hC h0 h1 h2 (by simpa [Value.cells] using hf)
theorem open_V3 {r : Reach} {b1 : Nat} {e : TypeId} {v : Value} {d : DataW H} {p : List MemPlace} {f0 f1 f2 : Field} (he : P.underlying e = some (.struct #[f0, f1, f2])) (hone : oneCellFields P #[f0, f1, f2] = true) (hC : P.cellsOf e = 3)
    (h0 : P.underlying f0.type = some (.int .i64)) (h1 : P.underlying f1.type = some (.int .i64)) (h2 : P.underlying f2.type = some (.int .i64)) (hval : Value.okWide P w r b1 e v) (h : DataW.Trod enc P w b0 spare held e v d p) : ∃ y : T3, v = .agg #[.int .i64 y.a, .int .i64 y.b, .int .i64 y.c] ∧ y.Fits := by
  obtain ⟨cs, rfl, hsz⟩ := okWide_struct he hval
  obtain ⟨fuel, hf⟩ := h
  obtain ⟨y, hy, hfit⟩ := rec_3 he hone hC h0 h1 h2 hf
  refine ⟨y, ?_, hfit⟩
  simp only [Value.cells] at hy
  obtain ⟨l⟩ := cs
  simp only at hy
  subst hy; rfl
instance : Inhabited T4 := ⟨⟨0, 0, 0, 0⟩⟩
theorem rec_4 {e : TypeId} {fuel : Nat} {cs : List Value} {x : DataW H × List MemPlace} {f0 f1 f2 f3 : Field} (he : P.underlying e = some (.struct #[f0, f1, f2, f3])) (hone : oneCellFields P #[f0, f1, f2, f3] = true) (hC : P.cellsOf e = 4)
    (h0 : P.underlying f0.type = some (.int .i64)) (h1 : P.underlying f1.type = some (.int .i64)) (h2 : P.underlying f2.type = some (.int .i64)) (h3 : P.underlying f3.type = some (.int .i64)) (h : DataW.trod enc P w b0 spare held fuel e cs = some x) : ∃ y : T4, cs = y.cells ∧ y.Fits := by
  obtain ⟨xs, m, _, _, hlen, hxl, hg⟩ := DataW.trod_struct he h
  rw [hC] at hlen
  match cs, hlen with
  | [v0, v1, v2, v3], _ =>
    match xs, hxl with
    | [y0, y1, y2, y3], _ =>
      obtain ⟨o0, k0⟩ := hone_of hone 0 f0 rfl
      have t0 := hg 0 f0 rfl
      rw [o0, k0] at t0
      obtain ⟨n0, e0, _, w0⟩ := DataW.trod_int h0 (x := y0) (by simpa using t0)
      simp at e0
      obtain ⟨o1, k1⟩ := hone_of hone 1 f1 rfl
      have t1 := hg 1 f1 rfl
      rw [o1, k1] at t1
      obtain ⟨n1, e1, _, w1⟩ := DataW.trod_int h1 (x := y1) (by simpa using t1)
      simp at e1
      obtain ⟨o2, k2⟩ := hone_of hone 2 f2 rfl
      have t2 := hg 2 f2 rfl
      rw [o2, k2] at t2
      obtain ⟨n2, e2, _, w2⟩ := DataW.trod_int h2 (x := y2) (by simpa using t2)
      simp at e2
      obtain ⟨o3, k3⟩ := hone_of hone 3 f3 rfl
      have t3 := hg 3 f3 rfl
      rw [o3, k3] at t3
      obtain ⟨n3, e3, _, w3⟩ := DataW.trod_int h3 (x := y3) (by simpa using t3)
      simp at e3
      subst e0 e1 e2 e3
      exact ⟨⟨n0, n1, n2, n3⟩, rfl, wf64 w0, wf64 w1, wf64 w2, wf64 w3⟩
theorem trod_S4 {t e : TypeId} {fuel : Nat} {v : Value} {x : DataW H × List MemPlace} {f0 f1 f2 f3 : Field} (ht : P.underlying t = some (.slice e)) (he : P.underlying e = some (.struct #[f0, f1, f2, f3])) (hone : oneCellFields P #[f0, f1, f2, f3] = true) (hC : P.cellsOf e = 4)
    (h0 : P.underlying f0.type = some (.int .i64)) (h1 : P.underlying f1.type = some (.int .i64)) (h2 : P.underlying f2.type = some (.int .i64)) (h3 : P.underlying f3.type = some (.int .i64)) (h : DataW.trod enc P w b0 spare held fuel t [v] = some x) :
    ∃ A c, ∃ xs : List T4, v = .slice A xs.length c ∧ Rd4 w w.heap.size A xs ∧ xs.length ≤ 9223372036854775807 ∧ ∀ y ∈ xs, y.Fits := by
  rcases open_slice ht h with ⟨hcs, _⟩ | ⟨a, l, c, m, n, D, Pl, hcs, _, hl, hm, hmm, _, hi⟩
  · simp at hcs; subst hcs
    exact ⟨none, 0, [], rfl, Rd.nil _ _ _, by simp, by simp⟩
  · simp at hcs; subst hcs
    have hll : l ≤ m := by rw [hmm]; split <;> omega
    unfold maxLen at hm
    obtain ⟨X, hX⟩ := choose_lt (α := T4) (n := l) (p := fun i y => (∀ j, j < 4 → w.cell? (a.add (i * 4 + j)) = y.cells[j]?) ∧ y.Fits) (fun i hil => by
      obtain ⟨cs', q1, q2⟩ := hi i (by omega)
      rw [hC] at q1
      obtain ⟨y, rfl, hy⟩ := rec_4 he hone hC h0 h1 h2 h3 q2
      obtain ⟨_, _, hat⟩ := World.cells?_some q1
      exact ⟨y, fun j hj => by rw [← Go.Deep.add_add]; exact hat j hj, hy⟩)
    refine ⟨some a, c, (List.range l).map X, by simp, rd_family T4.cells 4 (fun _ => rfl) (by omega) X l fun i hil j hj => (hX i hil).1 j hj, by simp; omega, fun y hy => ?_⟩
    obtain ⟨i, hi', rfl⟩ := List.mem_map.1 hy
    exact (hX i (List.mem_range.1 hi')).2
theorem open_S4 {r : Reach} {b1 : Nat} {t e : TypeId} {v : Value} {d : DataW H} {p : List MemPlace} {f0 f1 f2 f3 : Field} (ht : P.underlying t = some (.slice e)) (he : P.underlying e = some (.struct #[f0, f1, f2, f3])) (hone : oneCellFields P #[f0, f1, f2, f3] = true) (hC : P.cellsOf e = 4)
    (h0 : P.underlying f0.type = some (.int .i64)) (h1 : P.underlying f1.type = some (.int .i64)) (h2 : P.underlying f2.type = some (.int .i64)) (h3 : P.underlying f3.type = some (.int .i64)) (hval : Value.okWide P w r b1 t v) (h : DataW.Trod enc P w b0 spare held t v d p) :
    ∃ A c, ∃ xs : List T4, v = .slice A xs.length c ∧ Rd4 w w.heap.size A xs ∧ xs.length ≤ 9223372036854775807 ∧ ∀ y ∈ xs, y.Fits := by
  obtain ⟨a, l, c, rfl⟩ := okWide_slice ht hval
  obtain ⟨fuel, hf⟩ := h
  exact trod_S4 ht he hone hC h0 h1 h2 h3 (by simpa [Value.cells] using hf)
theorem open_V4 {r : Reach} {b1 : Nat} {e : TypeId} {v : Value} {d : DataW H} {p : List MemPlace} {f0 f1 f2 f3 : Field} (he : P.underlying e = some (.struct #[f0, f1, f2, f3])) (hone : oneCellFields P #[f0, f1, f2, f3] = true) (hC : P.cellsOf e = 4)
    (h0 : P.underlying f0.type = some (.int .i64)) (h1 : P.underlying f1.type = some (.int .i64)) (h2 : P.underlying f2.type = some (.int .i64)) (h3 : P.underlying f3.type = some (.int .i64)) (hval : Value.okWide P w r b1 e v) (h : DataW.Trod enc P w b0 spare held e v d p) : ∃ y : T4, v = .agg #[.int .i64 y.a, .int .i64 y.b, .int .i64 y.c, .int .i64 y.d] ∧ y.Fits := by
  obtain ⟨cs, rfl, hsz⟩ := okWide_struct he hval
  obtain ⟨fuel, hf⟩ := h
  obtain ⟨y, hy, hfit⟩ := rec_4 he hone hC h0 h1 h2 h3 hf
  refine ⟨y, ?_, hfit⟩
  simp only [Value.cells] at hy
  obtain ⟨l⟩ := cs
  simp only at hy
  subst hy; rfl
end
end Go.Proofs.Ytklfjekpeoigoaa
namespace Go.Proofs.Ytklfjekpeoigoaa
open Go.ChangeShapes Go.WideShapes Go.ChangeAt Go.RowKit Go.Deep

/-- From A on the cells hold bytes. -/
def RdB (w : World) (B : Nat) (A : Option Addr) (zs : List Int) : Prop := Rd w B A (zs.map (Value.int .u8))
section
variable {w w' : World} {B B' : Nat} {A : Option Addr} {zs : List Int}
theorem RdB.at_ (h : RdB w B A zs) {k : Nat} (hk : k < zs.length) : ∃ b o z, A = some ⟨b, o, none⟩ ∧ b < B ∧ zs[k]? = some z ∧ w.cell? ⟨b, o + k, none⟩ = some (.int .u8 z) := by
  obtain ⟨b, o, u, hA, hb, hu, hc⟩ := Rd.at_ (j := k) h (by simpa using hk)
  rw [List.getElem?_map, List.getElem?_eq_getElem hk] at hu
  simp at hu; subst hu
  exact ⟨b, o, zs[k], hA, hb, List.getElem?_eq_getElem hk, hc⟩
theorem RdB.below (h : RdB w B A zs) (hb : Below B w w') : RdB w' B A zs := Rd.below h hb
theorem RdB.more (h : RdB w B A zs) (hB : B ≤ B') : RdB w B' A zs := Rd.more h hB
end
theorem wf8 {z : Int} (h : (Lit.int .u8 z).wf = true) : 0 ≤ z ∧ z ≤ 255 := by
  simp [Lit.wf, IntKind.min, IntKind.max, IntKind.signed, IntKind.bits] at h
  exact ⟨by omega, by omega⟩
section
variable {H : Type} {enc : TypeId × Value → H} {P : Program} {w : World} {spare : Nat → Bool} {held : Bool} {b0 : Nat}
theorem trod_B {t e : TypeId} {fuel : Nat} {v : Value} {x : DataW H × List MemPlace} (ht : P.underlying t = some (.slice e)) (he : P.underlying e = some (.int .u8)) (hc : P.cellsOf e = 1)
    (h : DataW.trod enc P w b0 spare held fuel t [v] = some x) :
    ∃ A c, ∃ zs : List Int, v = .slice A zs.length c ∧ RdB w w.heap.size A zs ∧ zs.length ≤ 9223372036854775807 ∧ ∀ z ∈ zs, 0 ≤ z ∧ z ≤ 255 := by
  rcases open_ints ht he hc h with ⟨hcs, _⟩ | ⟨a, l, c, zs, hcs, _, hl, hm, hz, _, hcell, hwz⟩
  · simp at hcs; subst hcs
    exact ⟨none, 0, [], rfl, Rd.nil _ _ _, by simp, by simp⟩
  · simp at hcs; subst hcs
    have hll : l ≤ zs.length := by rw [hz]; split <;> omega
    unfold maxLen at hm
    refine ⟨some a, c, zs.take l, by simp [Nat.min_eq_left hll], ?_, by simp [Nat.min_eq_left hll]; omega, fun z hz' => wf8 (hwz z (List.mem_of_mem_take hz'))⟩
    refine rd_of_cells fun j hj => ?_
    simp only [List.length_map, List.length_take] at hj
    rw [hcell j (by omega)]
    simp [List.getD, show j < l by omega, show j < zs.length by omega]
theorem open_B {r : Reach} {b1 : Nat} {t e : TypeId} {v : Value} {d : DataW H} {p : List MemPlace} (ht : P.underlying t = some (.slice e)) (he : P.underlying e = some (.int .u8)) (hc : P.cellsOf e = 1)
    (hval : Value.okWide P w r b1 t v) (h : DataW.Trod enc P w b0 spare held t v d p) :
    ∃ A c, ∃ zs : List Int, v = .slice A zs.length c ∧ RdB w w.heap.size A zs ∧ zs.length ≤ 9223372036854775807 ∧ ∀ z ∈ zs, 0 ≤ z ∧ z ≤ 255 := by
  obtain ⟨a, l, c, rfl⟩ := okWide_slice ht hval
  obtain ⟨fuel, hf⟩ := h
  exact trod_B ht he hc (by simpa [Value.cells] using hf)
end
end Go.Proofs.Ytklfjekpeoigoaa
