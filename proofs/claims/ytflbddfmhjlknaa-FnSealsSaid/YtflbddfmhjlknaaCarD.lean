/-
  What moves cost; in the program and in the reference.
-/
import Derived.Test.YtflbddfmhjlknaaCarC
namespace Go.Proofs.Ytflbddfmhjlknaa
open Go.RowKit

theorem okMove_at {n : Nat} {m : T3} (h : okMove n m = true) : ∃ (i j : Nat), m = ⟨i, j, m.c⟩ ∧ i < n ∧ j < n ∧ 1 ≤ m.c ∧ m.c ≤ 200 := by
  obtain ⟨h1, h2, _, h4⟩ := okMove_iff.1 h
  obtain ⟨i, hi⟩ := Int.eq_ofNat_of_zero_le h1.1
  obtain ⟨j, hj⟩ := Int.eq_ofNat_of_zero_le h2.1
  refine ⟨i, j, ?_, by omega, by omega, h4.1, h4.2⟩
  obtain ⟨a, b, c⟩ := m
  dsimp only at hi hj
  subst hi hj; rfl
theorem costAt_get {l : List TN} {i j : Nat} {e : TN} {z : Int} (he : l[i]? = some e) (hz : e.way[j]? = some z) : costAt l i j = z := by simp [costAt, he, hz]
theorem vMoves_iff {n : Int} {ms : List T3} : vMoves n ms = true ↔ (∀ m ∈ ms, okMove n m = true) ∧ ms.length ≤ 40 := by simp [vMoves]
theorem mul_cost {a b : Int} (h1 : 1 ≤ a) (h2 : a ≤ 200) (h3 : 0 ≤ b) (h4 : b ≤ 1000) : 0 ≤ a * b ∧ a * b ≤ 200000 :=
  ⟨Int.mul_nonneg (by omega) h3, by have := Int.mul_le_mul h2 h4 h3 (by omega : (0 : Int) ≤ 200); omega⟩
set_option maxRecDepth 100000 in
set_option maxHeartbeats 4000000 in
theorem l07Costs_any (n : Int) (l : List TN) (A : Option Addr) (c : Nat) (w : World) (hs : SmallN l) (h1 : RN 0 w w.heap.size A l) :
    Calls Try.prog 99 #[.int .i64 n, .slice A l.length c] w fun e w' => e = .returned (.bool (vCosts n l)) ∧ w = w' := by
  have hlx : l.length ≤ 1048576 := by unfold SmallN at hs; omega
  have HX := hide h1
  have HS := hide hs
  clear h1 hs
  go_enter Try.func99, Try.ntmps99
  go_wp2_with fail
  go_loopg [5] l.length (fun g i wr => ∃ k : Nat, k ≤ l.length ∧ Hid (g = l.length - k) ∧ i = .int .i64 k ∧ Hid (l.all (costRow n) = (l.drop k).all (costRow n)) ∧ w = wr)
  case atStart => exact ⟨0, by omega, by simp [Hid], rfl, by simp [Hid], rfl⟩
  case round =>
    obtain ⟨k, hk, hg, rfl, HA, rfl⟩ := hrel
    by_cases hlt : k < l.length
    · obtain ⟨b1, o1, e, Aw, cw, rfl, hbb, he, hrw, hn0, _, _⟩ := HX.out.at_ (by omega) hlt
      rw [Nat.zero_add, Nat.mul_one] at hn0
      have hwl := HS.out.way he
      have HA' := HA.out
      rw [all_drop _ _ _ _ he] at HA'
      have HQ := hide HA'
      have HRW := hide hrw
      clear HA' HA he hrw
      by_cases hl : (e.way.length : Int) = n
      · have hB : ((e.way.length : Int) != n) = false := by simp [hl]
        have HC := hide (show costRow n e = e.way.all (inB 0 1000) by unfold costRow; rw [decide_eq_true hl]; rfl)
        clear hl
        go_wp2_with fail
        go_loopg [6] e.way.length (fun g2 i2 wr2 => ∃ j : Nat, j ≤ e.way.length ∧ Hid (g2 = e.way.length - j) ∧ i2 = .int .i64 j ∧ Hid (e.way.all (inB 0 1000) = (e.way.drop j).all (inB 0 1000)) ∧ w = wr2)
        case atStart => exact ⟨0, by omega, by simp [Hid], rfl, by simp [Hid], rfl⟩
        case round =>
          obtain ⟨j, hj, hg2, rfl, HB, rfl⟩ := hrel
          by_cases hlt2 : j < e.way.length
          · obtain ⟨b2, o2, z, rfl, _, hz, hcz⟩ := HRW.out.at_ hlt2
            have HB' := HB.out
            rw [all_drop _ _ _ _ hz] at HB'
            have HQ2 := hide HB'
            clear HB' HB hz
            by_cases hin : 0 ≤ z ∧ z ≤ 1000
            · have HI := hide (inB_t hin)
              obtain ⟨hin1, hin2⟩ := hin
              go_wp2_with (go_at_call 83; first | (refine (l00In_t _ _ _ _ (by omega)).mono ?_; rintro e w' ⟨rfl, rfl⟩) | (refine (l00In_f _ _ _ _ (by omega)).mono ?_; rintro e w' ⟨rfl, rfl⟩))
              go_roundg (e.way.length - (j + 1))
              case measure => have := hg2.out; omega
              case rel => exact ⟨j + 1, by omega, rfl, by go_num, hide (by have := HQ2.out; rw [HI.out] at this; simpa using this), rfl⟩
            · have hin' : z < 0 ∨ 1000 < z := by omega
              have HI := hide (inB_f hin')
              clear hin
              go_wp2_with (go_at_call 83; first | (refine (l00In_t _ _ _ _ (by omega)).mono ?_; rintro e w' ⟨rfl, rfl⟩) | (refine (l00In_f _ _ _ _ (by omega)).mono ?_; rintro e w' ⟨rfl, rfl⟩))
              go_ret
              exact ⟨ret_b (by unfold vCosts; rw [HQ.out, HC.out, HQ2.out, HI.out]; simp), rfl⟩
          · have HD := hide (show costRow n e = true by rw [HC.out, HB.out, List.drop_eq_nil_of_le (by omega)]; rfl)
            go_wp2_with fail
            go_roundg (l.length - (k + 1))
            case measure => have := hg.out; omega
            case rel => exact ⟨k + 1, by omega, rfl, by go_num, hide (by have := HQ.out; rw [HD.out] at this; simpa using this), rfl⟩
      · have hB : ((e.way.length : Int) != n) = true := by simp [hl]
        have HC := hide (show costRow n e = false by unfold costRow; rw [decide_eq_false hl]; rfl)
        clear hl
        go_wp2_with fail
        go_ret
        exact ⟨ret_b (by unfold vCosts; rw [HQ.out, HC.out]; simp), rfl⟩
    · have HE := hide (show l.all (costRow n) = true by rw [HA.out, List.drop_eq_nil_of_le (by omega)]; rfl)
      clear HA
      by_cases hl : (l.length : Int) = n
      · have hB : ((l.length : Int) == n) = true := by simp [hl]
        have HR := hide (show vCosts n l = true by unfold vCosts; rw [HE.out, decide_eq_true hl]; rfl)
        clear hl
        go_wp2_with fail
        go_ret
        exact ⟨ret_b HR.out.symm, rfl⟩
      · have hB : ((l.length : Int) == n) = false := by simp [hl]
        have HR := hide (show vCosts n l = false by unfold vCosts; rw [HE.out, decide_eq_false hl]; rfl)
        clear hl
        go_wp2_with fail
        go_ret
        exact ⟨ret_b HR.out.symm, rfl⟩
set_option maxRecDepth 100000 in
set_option maxHeartbeats 4000000 in
theorem S_CostOfMoves (ms : List T3) (v : Value) (l : List TN) (u : Value) (w : World) (hs2 : ms.length ≤ 1048576) (_ : ∀ z ∈ ms, z.Fits) (h : R_MoveS w w.heap.size v ms) (hs : SmallN l) (_ : ∀ e ∈ l, e.Fits) (k : R_Int64SS w w.heap.size u l) :
    Calls Try.prog 25 #[v, u] w fun e w' => e = .returned (.tuple #[.int .i64 (costOfMoves ms l).1, .int .i64 (costOfMoves ms l).2]) ∧ Below w.heap.size w w' := by
  obtain ⟨A, c, rfl, h1⟩ := h
  obtain ⟨A2, c2, rfl, h2⟩ := k
  have hlx : l.length ≤ 1048576 := by unfold SmallN at hs; omega
  have HC := hide (l07Costs_any (l.length : Int) l A2 c2 w hs h2)
  have HI := hide fun W => l00In_any (l.length : Int) 2 10 W
  have HM := hide h1
  have HX := hide h2
  clear h1 h2
  cases hi : inB 2 10 l.length
  · have HR := hide (show costOfMoves ms l = (0, 1) by simp [costOfMoves, hi])
    rw [hi] at HI
    clear hi
    go_enter Try.func25, Try.ntmps25
    go_wp2_with (go_at_call 83; refine (HI.out _).mono ?_; rintro e w' ⟨rfl, rfl⟩)
    go_ret2
    exact ⟨by rw [HR.out]; rfl, Below.refl _ _⟩
  rw [hi] at HI
  cases hc : vCosts l.length l
  · have HR := hide (show costOfMoves ms l = (0, 1) by simp [costOfMoves, hc])
    rw [hc] at HC
    clear hi hc
    go_enter Try.func25, Try.ntmps25
    go_wp2_with (first | (go_at_call 83; refine (HI.out _).mono ?_; rintro e w' ⟨rfl, rfl⟩) | (go_at_call 99; refine (HC.out).mono ?_; rintro e w' ⟨rfl, rfl⟩))
    go_ret2
    exact ⟨by rw [HR.out]; rfl, Below.refl _ _⟩
  rw [hc] at HC
  have HVC := hide (vCosts_iff.1 hc).2
  have HR0 := hide (show costOfMoves ms l = (if vMoves l.length ms = true then (coGo l ms 0, 0) else (0, 2)) by simp [costOfMoves, hi, hc])
  clear hi hc
  go_enter Try.func25, Try.ntmps25
  go_wp2_with (first | (go_at_call 83; refine (HI.out _).mono ?_; rintro e w' ⟨rfl, rfl⟩) | (go_at_call 99; refine (HC.out).mono ?_; rintro e w' ⟨rfl, rfl⟩))
  go_loopg [6] ms.length (fun g i wr => ∃ k : Nat, k ≤ ms.length ∧ Hid (g = ms.length - k) ∧ i = .int .i64 k ∧ Hid (ms.all (okMove l.length) = (ms.drop k).all (okMove l.length)) ∧ Below w.heap.size w wr)
  case atStart => exact ⟨0, by omega, by simp [Hid], rfl, by simp [Hid], Below.refl _ _⟩
  case round =>
    obtain ⟨k, hk, hg, rfl, HS, hb⟩ := hrel
    by_cases hlt : k < ms.length
    · obtain ⟨b1, o1, m1, rfl, _, hm1, hca, hcb, hcc⟩ := (HM.out.below hb).at_ hlt
      have HS' := HS.out; rw [all_drop _ _ _ _ hm1] at HS'
      have HQ := hide HS'; clear HS' hm1
      have HC := hide (l07Move_any (l.length : Int) m1 b1 (o1 + k * 3) wr (by omega) (by omega) hca hcb hcc)
      cases ho : okMove l.length m1
      · rw [ho] at HC HQ
        have HR := hide (show costOfMoves ms l = (0, 2) by rw [HR0.out, show vMoves l.length ms = false by unfold vMoves; rw [HQ.out]; rfl]; rfl)
        clear ho
        go_wp2_with (go_at_call 89; refine (HC.out).mono ?_; rintro e w1 ⟨rfl, hb1⟩)
        go_ret2
        exact ⟨by rw [HR.out]; rfl, hb.trans (hb1.mono hb.size)⟩
      · rw [ho] at HC HQ
        clear ho
        go_wp2_with (go_at_call 89; refine (HC.out).mono ?_; rintro e w1 ⟨rfl, hb1⟩)
        go_roundg (ms.length - (k + 1))
        case measure => have := hg.out; omega
        case rel => exact ⟨k + 1, by omega, rfl, by go_num, hide (by have := HQ.out; simpa using this), hb.trans (hb1.mono hb.size)⟩
    · have HA : Hid (ms.all (okMove l.length) = true) := by
        have := HS.out; rw [List.drop_eq_nil_of_le (by omega)] at this; exact this
      clear HS
      by_cases hl : ms.length ≤ 40
      case neg =>
        have HR := hide (show costOfMoves ms l = (0, 2) by rw [HR0.out, show vMoves l.length ms = false by simp [vMoves]; omega]; rfl)
        go_wp2_with fail
        go_ret2
        exact ⟨by rw [HR.out]; rfl, hb⟩
      have HR := hide (show costOfMoves ms l = (coGo l ms 0, 0) by rw [HR0.out, show vMoves l.length ms = true by simp [vMoves, HA.out, hl]]; rfl)
      clear HR0
      go_wp2_with fail
      go_loopg [7, 8] ms.length (fun g s i wq => ∃ (k : Nat) (z : Int), k ≤ ms.length ∧ Hid (g = ms.length - k) ∧ i = .int .i64 k ∧ s = .int .i64 z ∧ 0 ≤ z ∧ z ≤ 200000 * (k : Int) ∧ Hid (coGo l ms 0 = coGo l (ms.drop k) z) ∧ Below w.heap.size w wq)
      case atStart => exact ⟨0, 0, by omega, by simp [Hid], rfl, rfl, by omega, by omega, by simp [Hid], hb⟩
      case round =>
        obtain ⟨k2, z, hk2, hg2, rfl, rfl, hz0, hz1, HSE, hbq⟩ := hrel
        by_cases hlt2 : k2 < ms.length
        · obtain ⟨b1, o1, m1, rfl, _, hm1, hca, hcb, hcc⟩ := (HM.out.below hbq).at_ hlt2
          obtain ⟨i, j, hmm, hi, hj, hc1, hc2⟩ := okMove_at (List.all_eq_true.1 HA.out m1 (List.mem_of_getElem? hm1))
          obtain ⟨ma, mb, mc⟩ := m1
          simp only [T3.mk.injEq, and_true] at hmm
          obtain ⟨rfl, rfl⟩ := hmm
          dsimp only at *
          obtain ⟨b2, o2, e, Aw, cw, rfl, _, he, hrw, hn0, _, _⟩ := (HX.out.below hbq).at_ (by omega) hi
          rw [Nat.zero_add, Nat.mul_one] at hn0
          obtain ⟨hel, heb⟩ := HVC.out e (List.mem_of_getElem? he)
          obtain ⟨b3, o3, y, rfl, _, hy, hcy⟩ := hrw.at_ (show j < e.way.length by omega)
          obtain ⟨hy0, hy1⟩ := heb y (List.mem_of_getElem? hy)
          obtain ⟨hp0, hp1⟩ := mul_cost hc1 hc2 hy0 hy1
          have HSE' := HSE.out
          rw [coGo_drop hm1] at HSE'
          dsimp only at HSE'
          rw [costAt_get he hy] at HSE'
          have HQ := hide HSE'
          have hil : (i : Int) < l.length := by omega
          have hjl : (j : Int) < e.way.length := by omega
          have hi0 : (0 : Int) ≤ (i : Int) := by omega
          have hj0 : (0 : Int) ≤ (j : Int) := by omega
          clear HSE' HSE hm1 he hy hel heb hrw
          have hw1 : IntKind.i64.wrap (mc * y) = mc * y := by rw [IntKind.wrap_i64] <;> omega
          have hw2 : IntKind.i64.wrap (z + mc * y) = z + mc * y := by rw [IntKind.wrap_i64] <;> omega
          go_wp2_with fail
          go_quiet (fail)
          go_wp2_with fail
          go_roundg (ms.length - (k2 + 1))
          case measure => have := hg2.out; omega
          case rel => exact ⟨k2 + 1, z + mc * y, by omega, rfl, by go_num, rfl, by omega, by omega, HQ, bdn hbq _⟩
        · have HE := hide (show coGo l ms 0 = z by rw [HSE.out, List.drop_eq_nil_of_le (by omega)]; rfl)
          go_wp2_with fail
          go_ret2
          exact ⟨by rw [HR.out, HE.out]; rfl, hbq⟩
set_option maxRecDepth 100000 in
set_option maxHeartbeats 4000000 in
theorem P_CostOfMoves (ms : List T3) (v : Value) (l : List TN) (u : Value) (w : World) (hs2 : ms.length ≤ 1048576) (_ : ∀ z ∈ ms, z.Fits) (h : R_MoveS w w.heap.size v ms) (hs : SmallN l) (_ : ∀ e ∈ l, e.Fits) (k : R_Int64SS w w.heap.size u l) :
    Calls Try.prog 24 #[v, u] w fun e w' => e = .returned (.tuple #[.int .i64 (costOfMoves ms l).1, .int .i64 (costOfMoves ms l).2]) ∧ Below w.heap.size w w' := by
  obtain ⟨A, c, rfl, h1⟩ := h
  obtain ⟨A2, c2, rfl, h2⟩ := k
  have hlx : l.length ≤ 1048576 := by unfold SmallN at hs; omega
  have HC := hide (areCosts_any (l.length : Int) l A2 c2 w hs h2)
  have HI := hide (isCount_any (l.length : Int))
  have HV := hide fun W (hW : Below w.heap.size w W) => areMoves_any (l.length : Int) ms A c W (by omega) (by omega) hs2 ((h1.below hW).more hW.size)
  have HM := hide h1
  have HX := hide h2
  clear h1 h2
  cases hi : inB 2 10 l.length
  · have HR := hide (show costOfMoves ms l = (0, 1) by simp [costOfMoves, hi])
    rw [hi] at HI
    clear hi
    go_enter Try.func24, Try.ntmps24
    go_wp2_with (go_at_call 96; refine (HI.out _).mono ?_; rintro e w' ⟨rfl, rfl⟩)
    go_ret2
    exact ⟨by rw [HR.out]; rfl, Below.refl _ _⟩
  rw [hi] at HI
  cases hc : vCosts l.length l
  · have HR := hide (show costOfMoves ms l = (0, 1) by simp [costOfMoves, hc])
    rw [hc] at HC
    clear hi hc
    go_enter Try.func24, Try.ntmps24
    go_wp2_with (first | (go_at_call 96; refine (HI.out _).mono ?_; rintro e w' ⟨rfl, rfl⟩) | (go_at_call 97; refine (HC.out).mono ?_; rintro e w1 ⟨rfl, hb1⟩))
    go_ret2
    exact ⟨by rw [HR.out]; rfl, hb1⟩
  rw [hc] at HC
  have HVC := hide (vCosts_iff.1 hc).2
  have HR0 := hide (show costOfMoves ms l = (if vMoves l.length ms = true then (coGo l ms 0, 0) else (0, 2)) by simp [costOfMoves, hi, hc])
  clear hi hc
  cases hm : vMoves l.length ms
  · have HR := hide (show costOfMoves ms l = (0, 2) by rw [HR0.out, hm]; rfl)
    rw [hm] at HV
    clear hm
    go_enter Try.func24, Try.ntmps24
    go_wp2_with (first | (go_at_call 96; refine (HI.out _).mono ?_; rintro e w' ⟨rfl, rfl⟩) | (go_at_call 97; refine (HC.out).mono ?_; rintro e w1 ⟨rfl, hb1⟩) | (go_at_call 98; refine (HV.out _ hb1).mono ?_; rintro e w2 ⟨rfl, hb2⟩))
    go_ret2
    exact ⟨by rw [HR.out]; rfl, hb1.trans (hb2.mono hb1.size)⟩
  have HR := hide (show costOfMoves ms l = (coGo l ms 0, 0) by rw [HR0.out, hm]; rfl)
  have HA := hide (vMoves_iff.1 hm).1
  have hl40 := (vMoves_iff.1 hm).2
  rw [hm] at HV
  clear hm HR0
  go_enter Try.func24, Try.ntmps24
  go_wp2_with (first | (go_at_call 96; refine (HI.out _).mono ?_; rintro e w' ⟨rfl, rfl⟩) | (go_at_call 97; refine (HC.out).mono ?_; rintro e w1 ⟨rfl, hb1⟩) | (go_at_call 98; refine (HV.out _ hb1).mono ?_; rintro e w2 ⟨rfl, hb2'⟩))
  have hb2 := hb1.trans (hb2'.mono hb1.size)
  go_loopg [7, 29] ms.length (fun g s i wq => ∃ (k : Nat) (z : Int), k ≤ ms.length ∧ Hid (g = ms.length - k) ∧ i = .int .i64 k ∧ s = .int .i64 z ∧ 0 ≤ z ∧ z ≤ 200000 * (k : Int) ∧ Hid (coGo l ms 0 = coGo l (ms.drop k) z) ∧ Below w.heap.size w wq)
  case atStart => exact ⟨0, 0, by omega, by simp [Hid], rfl, rfl, by omega, by omega, by simp [Hid], hb2⟩
  case round =>
    obtain ⟨k2, z, hk2, hg2, rfl, rfl, hz0, hz1, HSE, hbq⟩ := hrel
    by_cases hlt2 : k2 < ms.length
    · obtain ⟨b1, o1, m1, rfl, _, hm1, hca, hcb, hcc⟩ := (HM.out.below hbq).at_ hlt2
      obtain ⟨i, j, hmm, hi, hj, hc1, hc2⟩ := okMove_at (HA.out m1 (List.mem_of_getElem? hm1))
      obtain ⟨ma, mb, mc⟩ := m1
      simp only [T3.mk.injEq, and_true] at hmm
      obtain ⟨rfl, rfl⟩ := hmm
      dsimp only at *
      have bqa : Below w.heap.size w (wr.alloc (.cells #[.int .i64 i, .int .i64 j, .int .i64 mc] 34)) := hbq.alloc hbq.size _
      obtain ⟨b2, o2, e, Aw, cw, rfl, _, he, hrw, hn0, _, _⟩ := (HX.out.below bqa).at_ (by omega) hi
      rw [Nat.zero_add, Nat.mul_one] at hn0
      obtain ⟨hel, heb⟩ := HVC.out e (List.mem_of_getElem? he)
      obtain ⟨b3, o3, y, rfl, _, hy, hcy⟩ := hrw.at_ (show j < e.way.length by omega)
      obtain ⟨hy0, hy1⟩ := heb y (List.mem_of_getElem? hy)
      obtain ⟨hp0, hp1⟩ := mul_cost hc1 hc2 hy0 hy1
      have HSE' := HSE.out
      rw [coGo_drop hm1] at HSE'
      dsimp only at HSE'
      rw [costAt_get he hy] at HSE'
      have HQ := hide HSE'
      have hil : (i : Int) < l.length := by omega
      have hjl : (j : Int) < e.way.length := by omega
      have hi0 : (0 : Int) ≤ (i : Int) := by omega
      have hj0 : (0 : Int) ≤ (j : Int) := by omega
      clear HSE' HSE hm1 he hy hel heb hrw
      have hw1 : IntKind.i64.wrap (mc * y) = mc * y := by rw [IntKind.wrap_i64] <;> omega
      have hw2 : IntKind.i64.wrap (z + mc * y) = z + mc * y := by rw [IntKind.wrap_i64] <;> omega
      have hna : (wr.alloc (.cells #[.int .i64 i, .int .i64 j, .int .i64 mc] 34)).cell? ⟨wr.heap.size, 0, none⟩ = some (.int .i64 i) := by simp [go_sem]
      have hnb : (wr.alloc (.cells #[.int .i64 i, .int .i64 j, .int .i64 mc] 34)).cell? ⟨wr.heap.size, 1, none⟩ = some (.int .i64 j) := by simp [go_sem]
      have hnc : (wr.alloc (.cells #[.int .i64 i, .int .i64 j, .int .i64 mc] 34)).cell? ⟨wr.heap.size, 2, none⟩ = some (.int .i64 mc) := by simp [go_sem]
      go_wp2_with fail
      generalize (wr.alloc (.cells #[.int .i64 i, .int .i64 j, .int .i64 mc] 34)) = wa at *
      go_quiet (fail)
      go_wp2_with fail
      go_roundg (ms.length - (k2 + 1))
      case measure => have := hg2.out; omega
      case rel => exact ⟨k2 + 1, z + mc * y, by omega, rfl, by go_num, rfl, by omega, by omega, HQ, bdn bqa _⟩
    · have HE := hide (show coGo l ms 0 = z by rw [HSE.out, List.drop_eq_nil_of_le (by omega)]; rfl)
      go_wp2_with fail
      go_ret2
      exact ⟨by rw [HR.out, HE.out]; rfl, hbq⟩
end Go.Proofs.Ytflbddfmhjlknaa
