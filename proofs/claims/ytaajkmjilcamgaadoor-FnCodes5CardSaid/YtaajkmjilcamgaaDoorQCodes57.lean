/-
  All words, in both packages.
  Words that are far from others; greedy codes; in both packages.
-/
import Derived.Test.YtaajkmjilcamgaaDoorQCodes54
import Derived.Test.YtaajkmjilcamgaaDoorQCodes56
import Derived.Laws.Runes
import Derived.Deep.RegionHeld3
namespace Go.Proofs.YtaajkmjilcamgaaDoor
open Go.RowKit
theorem extW_snoc {s : Nat} {ws : List ByteArray} {j : Nat} {v : ByteArray} (h : ws[j]? = some v) : extW s (ws.take (j + 1)) = extW s (ws.take j) ++ (List.range s).map fun c => v ++ chB c := by
  rw [List.take_add_one, h]
  simp [extW]
theorem range_snocB (v : ByteArray) (q : Nat) : ((List.range (q + 1)).map fun c => v ++ chB c) = ((List.range q).map fun c => v ++ chB c) ++ [v ++ chB q] := by
  rw [List.range_succ, List.map_append]; rfl
theorem encode_low {q : Nat} (h : q < 4) : Utf8.encode (97 + (q : Int)) = chB q := by
  have : q = 0 ∨ q = 1 ∨ q = 2 ∨ q = 3 := by omega
  rcases this with rfl | rfl | rfl | rfl <;> rfl
set_option maxRecDepth 100000 in
set_option maxHeartbeats 4000000 in
theorem allWords_any (s r : Nat) (w : World) (hs : 1 ≤ s) (hs2 : s ≤ 4) (hr : r ≤ 8) (hp : s ^ r ≤ 300) :
    Calls Tryd.prog 21 #[.int .i64 s, .int .i64 r] w fun e w' => ∃ (A : Option Addr) (c : Nat), e = .returned (.slice A (allW s r).length c) ∧ w'.ownsRow w.heap.size 9 1 (.slice A (allW s r).length c) (allW s r).length ((allW s r).map Value.string) ∧ Below w.heap.size w w' := by
  obtain ⟨i0, hi0, hz0, hs0, hb0⟩ := info_parts string_inf
  have HPW := hide fun k (h : k ≤ r) => (show (allW s k).length ≤ 300 by rw [allW_len]; exact Nat.le_trans (Nat.pow_le_pow_right hs h) hp)
  have HB0 := hide (show Below w.heap.size w (w.alloc (.cells #[.string ByteArray.empty] 9)) from (Below.refl _ _).alloc (Nat.le_refl _) _)
  have HO0 := hide (show (w.alloc (.cells #[.string ByteArray.empty] 9)).ownsRow w.heap.size 9 1 (.slice (some ⟨w.heap.size, 0, none⟩) 1 1) 1 ([ByteArray.empty].map Value.string) from by have := World.ownsRow_lit (e := 9) (size := 1) w #[.string ByteArray.empty] 1 (Nat.le_refl w.heap.size) (by decide) rfl; exact this)
  go_enter Tryd.func21, Tryd.ntmps21
  go_wp2_with fail
  go_loopg [12, 5] r (fun g i ov wr => ∃ (k : Nat) (A : Option Addr) (c : Nat), k ≤ r ∧ Hid (g = r - k) ∧ i = .int .i64 k ∧ ov = .slice A (allW s k).length c ∧ Hid (wr.ownsRow w.heap.size 9 1 (.slice A (allW s k).length c) (allW s k).length ((allW s k).map Value.string)) ∧ Hid (Below w.heap.size w wr))
  case atStart => exact ⟨0, some ⟨w.heap.size, 0, none⟩, 1, by omega, by simp [Hid], rfl, rfl, HO0, HB0⟩
  case round =>
    obtain ⟨k, A, c, hk, hg, rfl, rfl, HO, HB⟩ := hrel
    clear HO0 HB0
    by_cases hkt : k < r
    case neg =>
      obtain rfl : k = r := by omega
      go_wp2_with fail
      go_ret
      exact ⟨A, c, rfl, HO.out, HB.out⟩
    have hki : (k : Int) < (r : Int) := by omega
    have HSZ := hide fun v (h : v ∈ allW s k) => allW_size h
    have hL := HPW.out k (by omega)
    have HX := hide (show allW s (k + 1) = extW s (allW s k) from rfl)
    have HRO := hide (RdS.of_own HO.out)
    have hzr := HB.out.size
    clear HO
    generalize allW s k = ws at *
    have HLN := hide fun j (h : j ≤ ws.length) => (show (extW s (ws.take j)).length ≤ 1200 by rw [extW_len, List.length_take]; exact Nat.le_trans (Nat.mul_le_mul (show min j ws.length ≤ 300 by omega) hs2) (by decide))
    obtain ⟨wo, hwo⟩ : ∃ q : World, q = wr := ⟨_, rfl⟩
    subst hwo
    have ho1 := own_new0 wo wo.heap.size 9 1 (Nat.le_refl _)
    have hB1 : Below wo.heap.size wo (wo.alloc (.cells #[] 9)) := (Below.refl _ _).alloc (Nat.le_refl _) _
    go_wp2_with fail
    go_loopg [17, 6] ws.length (fun g i sv wr => ∃ j n : Nat, j ≤ ws.length ∧ Hid (g = ws.length - j) ∧ i = .int .i64 j ∧ Hid (n = (extW s (ws.take j)).length) ∧ Hid (wr.ownsRow wo.heap.size 9 1 sv n ((extW s (ws.take j)).map Value.string)) ∧ Hid (Below wo.heap.size wo wr))
    case atStart => exact ⟨0, 0, by omega, by simp [Hid], rfl, hide (by simp [extW]), hide (by simpa [extW] using ho1), hide hB1⟩
    case round =>
      obtain ⟨j, n, hj, hgj, rfl, HN, HO, HB2⟩ := hrel
      clear ho1 hB1
      have zr2 := HB2.out.size
      by_cases hjt : j < ws.length
      case neg =>
        obtain rfl : j = ws.length := by omega
        have ho := HO.out
        have hn := HN.out
        rw [List.take_length, ← HX.out] at ho hn
        subst hn
        obtain ⟨A5, c5, rfl, _⟩ := own_shape ho
        have HO5 := hide (own_base ho hzr)
        clear ho HO HN HLN HRO HSZ
        go_wp2_with fail
        go_roundg (r - (k + 1))
        case measure => have := hg.out; omega
        case rel => exact ⟨k + 1, A5, c5, by omega, rfl, by go_num, rfl, HO5, hide (HB.out.trans (HB2.out.mono HB.out.size))⟩
      obtain ⟨b, o, v, rfl, hbw, hv, hcv⟩ := HRO.out.at_ hjt
      have hvz := HSZ.out v (List.mem_of_getElem? hv)
      have ks : wr.cell? ⟨b, o + j, none⟩ = some (.string v) := (HB2.out.cell (p := ⟨b, o + j, none⟩) hbw).trans hcv
      have hjc : (j : Int) < (ws.length : Int) := by omega
      have HES := hide (extW_snoc (s := s) hv)
      have HL2 := HLN.out j hj
      have HN1 := HN.out
      have hv8 : v.size ≤ 8 := by omega
      clear hv hcv hvz
      obtain ⟨xs2, hx2⟩ : ∃ q, q = extW s (ws.take (j + 1)) := ⟨_, rfl⟩
      obtain ⟨xs, hx1⟩ : ∃ q, q = extW s (ws.take j) := ⟨_, rfl⟩
      rw [← hx2, ← hx1] at HES
      rw [← hx1] at HL2 HN1 HN HO
      have HX2 := hide hx2
      clear hx2 hx1
      clear HSZ HLN
      go_wp2_with fail
      clear ks
      obtain ⟨wp, hwp⟩ : ∃ q : World, q = wr := ⟨_, rfl⟩
      subst hwp
      go_loopg [22, 6] s (fun g i sv wr => ∃ q m : Nat, q ≤ s ∧ Hid (g = s - q) ∧ i = .int .i64 q ∧ Hid (m = xs.length + q) ∧ Hid (wr.ownsRow wo.heap.size 9 1 sv m ((xs ++ (List.range q).map fun c => v ++ chB c).map Value.string)) ∧ Hid (Below wo.heap.size wo wr))
      case atStart => exact ⟨0, n, by omega, by simp [Hid], rfl, hide (by omega), hide (by simpa using HO.out), HB2⟩
      case round =>
        obtain ⟨q, m, hq, hgq, rfl, HM, HO3, HB3⟩ := hrel
        clear HO HB2
        by_cases hqt : q < s
        case neg =>
          obtain rfl : s = q := by omega
          have ho := HO3.out
          rw [← HES.out] at ho
          have HO5 := hide ho
          have HN5 := hide (show m = xs2.length by rw [HES.out, List.length_append, List.length_map, List.length_range]; exact HM.out)
          clear ho HO3
          go_wp2_with fail
          go_roundg (ws.length - (j + 1))
          case measure => have := hgj.out; omega
          case rel => exact ⟨j + 1, m, by omega, rfl, by go_num, by rw [← HX2.out]; exact HN5, by rw [← HX2.out]; exact HO5, HB3⟩
        have hqi : (q : Int) < (s : Int) := by omega
        have hm := HM.out
        have hu : Utf8.encode (97 + (q : Int)) = chB q := encode_low (by omega)
        have hu1 : (chB q).size = 1 := rfl
        have hw32 : IntKind.i32.wrap (97 + (q : Int)) = 97 + (q : Int) := by rw [IntKind.wrap_i32] <;> omega
        have hcat : ¬ 9223372036854775807 < v.size + 1 := by omega
        have hrs := range_snocB v q
        have zr3 := HB3.out.size
        go_wp2_with (at_builtin; refine Hid.out ?_)
        refine hide ?_
        have hoF := HO3.out.alloc (.cells #[.string (v ++ chB q)] 9)
        refine wp_app _ rfl _ _ 26 rfl wo.heap.size 9 i0 (.string ByteArray.empty) 1 16 Tryd.underlying26 hi0 hz0 hs0 hb0 rfl (by decide) u6 m ((xs ++ (List.range q).map fun c => v ++ chB c).map Value.string) rfl hoF _ _ 1 1 [.string (v ++ chB q)] rfl rfl (rd_new _ _ _ _ ?c1) (str_one _) ?c2 (by decide) ?c3 ?_
        case c1 => simp
        case c2 => omega
        case c3 => simp; omega
        intro v9 w9 hown9 hgrow9 hat9
        have HB9 := hide (app_below (HB3.out.alloc zr3 _) hoF hgrow9 (Nat.le_refl _) (by simp; omega))
        have HO9 := hide (show w9.ownsRow wo.heap.size 9 1 v9 (m + 1) ((xs ++ (List.range (q + 1)).map fun c => v ++ chB c).map Value.string) by
          rw [hrs, ← List.append_assoc, List.map_append]; exact hown9)
        clear hown9 hgrow9 hat9 hoF hrs hu hu1 HO3 HB3
        go_wp2_with fail
        go_roundg (s - (q + 1))
        case measure => have := hgq.out; omega
        case rel => exact ⟨q + 1, m + 1, by omega, rfl, by go_num, hide (by omega), HO9, HB9⟩
theorem one_byte (w : World) {q : Nat} (h : q < 4) : ∀ j (hj : j < [UInt8.ofNat (97 + q)].length), (w.alloc (.cells #[.int .u8 (97 + (q : Int))] 5)).cell? ((⟨w.heap.size, 0, none⟩ : Addr).add j) = some (.int .u8 (([UInt8.ofNat (97 + q)][j]'hj).toNat : Int)) := by
  intro j hj
  obtain rfl : j = 0 := by simpa using hj
  show (w.alloc (.cells #[.int .u8 (97 + (q : Int))] 5)).cell? ⟨w.heap.size, 0, none⟩ = _
  have : q = 0 ∨ q = 1 ∨ q = 2 ∨ q = 3 := by omega
  rcases this with rfl | rfl | rfl | rfl <;> simp [go_sem]
set_option maxRecDepth 100000 in
set_option maxHeartbeats 4000000 in
theorem l05All_any (s r : Nat) (w : World) (hs : 1 ≤ s) (hs2 : s ≤ 4) (hr : r ≤ 8) (hp : s ^ r ≤ 300) :
    Calls Tryd.prog 24 #[.int .i64 s, .int .i64 r] w fun e w' => ∃ (A : Option Addr) (c : Nat), e = .returned (.slice A (allW s r).length c) ∧ w'.ownsRow w.heap.size 9 1 (.slice A (allW s r).length c) (allW s r).length ((allW s r).map Value.string) ∧ Below w.heap.size w w' := by
  obtain ⟨i0, hi0, hz0, hs0, hb0⟩ := info_parts string_inf
  have HPW := hide fun k (h : k ≤ r) => (show (allW s k).length ≤ 300 by rw [allW_len]; exact Nat.le_trans (Nat.pow_le_pow_right hs h) hp)
  have HB0 := hide (show Below w.heap.size w (w.alloc (.cells #[.string ByteArray.empty] 9)) from (Below.refl _ _).alloc (Nat.le_refl _) _)
  have HO0 := hide (show (w.alloc (.cells #[.string ByteArray.empty] 9)).ownsRow w.heap.size 9 1 (.slice (some ⟨w.heap.size, 0, none⟩) 1 1) 1 ([ByteArray.empty].map Value.string) from by have := World.ownsRow_lit (e := 9) (size := 1) w #[.string ByteArray.empty] 1 (Nat.le_refl w.heap.size) (by decide) rfl; exact this)
  go_enter Tryd.func24, Tryd.ntmps24
  go_wp2_with fail
  go_loopg [6, 5] r (fun g i ov wr => ∃ (k : Nat) (A : Option Addr) (c : Nat), k ≤ r ∧ Hid (g = r - k) ∧ i = .int .i64 k ∧ ov = .slice A (allW s k).length c ∧ Hid (wr.ownsRow w.heap.size 9 1 (.slice A (allW s k).length c) (allW s k).length ((allW s k).map Value.string)) ∧ Hid (Below w.heap.size w wr))
  case atStart => exact ⟨0, some ⟨w.heap.size, 0, none⟩, 1, by omega, by simp [Hid], rfl, rfl, HO0, HB0⟩
  case round =>
    obtain ⟨k, A, c, hk, hg, rfl, rfl, HO, HB⟩ := hrel
    clear HO0 HB0
    by_cases hkt : k < r
    case neg =>
      obtain rfl : k = r := by omega
      go_wp2_with fail
      go_ret
      exact ⟨A, c, rfl, HO.out, HB.out⟩
    have hki : (k : Int) < (r : Int) := by omega
    have HSZ := hide fun v (h : v ∈ allW s k) => allW_size h
    have hL := HPW.out k (by omega)
    have HX := hide (show allW s (k + 1) = extW s (allW s k) from rfl)
    have HRO := hide (RdS.of_own HO.out)
    have hzr := HB.out.size
    clear HO
    generalize allW s k = ws at *
    have HLN := hide fun j (h : j ≤ ws.length) => (show (extW s (ws.take j)).length ≤ 1200 by rw [extW_len, List.length_take]; exact Nat.le_trans (Nat.mul_le_mul (show min j ws.length ≤ 300 by omega) hs2) (by decide))
    obtain ⟨wo, hwo⟩ : ∃ q : World, q = wr := ⟨_, rfl⟩
    subst hwo
    have ho1 := own_new0 wo wo.heap.size 9 1 (Nat.le_refl _)
    have hB1 : Below wo.heap.size wo (wo.alloc (.cells #[] 9)) := (Below.refl _ _).alloc (Nat.le_refl _) _
    go_wp2_with fail
    go_loopg [8, 7] ws.length (fun g i sv wr => ∃ j n : Nat, j ≤ ws.length ∧ Hid (g = ws.length - j) ∧ i = .int .i64 j ∧ Hid (n = (extW s (ws.take j)).length) ∧ Hid (wr.ownsRow wo.heap.size 9 1 sv n ((extW s (ws.take j)).map Value.string)) ∧ Hid (Below wo.heap.size wo wr))
    case atStart => exact ⟨0, 0, by omega, by simp [Hid], rfl, hide (by simp [extW]), hide (by simpa [extW] using ho1), hide hB1⟩
    case round =>
      obtain ⟨j, n, hj, hgj, rfl, HN, HO, HB2⟩ := hrel
      clear ho1 hB1
      have zr2 := HB2.out.size
      by_cases hjt : j < ws.length
      case neg =>
        obtain rfl : j = ws.length := by omega
        have ho := HO.out
        have hn := HN.out
        rw [List.take_length, ← HX.out] at ho hn
        subst hn
        obtain ⟨A5, c5, rfl, _⟩ := own_shape ho
        have HO5 := hide (own_base ho hzr)
        clear ho HO HN HLN HRO HSZ
        go_wp2_with fail
        go_roundg (r - (k + 1))
        case measure => have := hg.out; omega
        case rel => exact ⟨k + 1, A5, c5, by omega, rfl, by go_num, rfl, HO5, hide (HB.out.trans (HB2.out.mono HB.out.size))⟩
      obtain ⟨b, o, v, rfl, hbw, hv, hcv⟩ := HRO.out.at_ hjt
      have hvz := HSZ.out v (List.mem_of_getElem? hv)
      have ks : wr.cell? ⟨b, o + j, none⟩ = some (.string v) := (HB2.out.cell (p := ⟨b, o + j, none⟩) hbw).trans hcv
      have HKS := hide fun W (hW : Below wo.heap.size wo W) => (hW.cell (p := ⟨b, o + j, none⟩) hbw).trans hcv
      have hjc : (j : Int) < (ws.length : Int) := by omega
      have HES := hide (extW_snoc (s := s) hv)
      have HL2 := HLN.out j hj
      have HN1 := HN.out
      have hv8 : v.size ≤ 8 := by omega
      clear hv hcv hvz
      obtain ⟨xs2, hx2⟩ : ∃ q, q = extW s (ws.take (j + 1)) := ⟨_, rfl⟩
      obtain ⟨xs, hx1⟩ : ∃ q, q = extW s (ws.take j) := ⟨_, rfl⟩
      rw [← hx2, ← hx1] at HES
      rw [← hx1] at HL2 HN1 HN HO
      have HX2 := hide hx2
      clear hx2 hx1
      clear HSZ HLN
      go_wp2_with fail
      clear ks
      obtain ⟨wp, hwp⟩ : ∃ q : World, q = wr := ⟨_, rfl⟩
      subst hwp
      go_loopg [9, 7] s (fun g i sv wr => ∃ q m : Nat, q ≤ s ∧ Hid (g = s - q) ∧ i = .int .i64 q ∧ Hid (m = xs.length + q) ∧ Hid (wr.ownsRow wo.heap.size 9 1 sv m ((xs ++ (List.range q).map fun c => v ++ chB c).map Value.string)) ∧ Hid (Below wo.heap.size wo wr))
      case atStart => exact ⟨0, n, by omega, by simp [Hid], rfl, hide (by omega), hide (by simpa using HO.out), HB2⟩
      case round =>
        obtain ⟨q, m, hq, hgq, rfl, HM, HO3, HB3⟩ := hrel
        clear HO HB2
        by_cases hqt : q < s
        case neg =>
          obtain rfl : s = q := by omega
          have ho := HO3.out
          rw [← HES.out] at ho
          have HO5 := hide ho
          have HN5 := hide (show m = xs2.length by rw [HES.out, List.length_append, List.length_map, List.length_range]; exact HM.out)
          clear ho HO3
          go_wp2_with fail
          go_roundg (ws.length - (j + 1))
          case measure => have := hgj.out; omega
          case rel => exact ⟨j + 1, m, by omega, rfl, by go_num, by rw [← HX2.out]; exact HN5, by rw [← HX2.out]; exact HO5, HB3⟩
        have hqi : (q : Int) < (s : Int) := by omega
        have hm := HM.out
        have hq4 : q < 4 := by omega
        have hw64 : IntKind.i64.wrap (97 + (q : Int)) = 97 + (q : Int) := by rw [IntKind.wrap_i64] <;> omega
        have hw8 : IntKind.u8.wrap (97 + (q : Int)) = 97 + (q : Int) := by simp [IntKind.wrap, IntKind.bits, IntKind.signed]; omega
        have hcat : ¬ 9223372036854775807 < v.size + 1 := by omega
        have hrs := range_snocB v q
        have zr3 := HB3.out.size
        have ks : wr.cell? ⟨b, o + j, none⟩ = some (.string v) := HKS.out wr HB3.out
        go_wp2_with fail
        have hbd : Below wo.heap.size wo wr.drew := HB3.out.drew
        have hod : wr.drew.ownsRow wo.heap.size 9 1 u7 m ((xs ++ (List.range q).map fun c => v ++ chB c).map Value.string) := HO3.out
        have e0 : wr.drew.cell? ⟨b, o + j, none⟩ = some (.string v) := ks
        refine wp_region_held_drew (S := fun W => W.cell? ⟨b, o + j, none⟩ = some (.string v)) (by kernel_rfl) (e0) (fun hHeld => ?_)
        clear ks HO3 HB3
        generalize wr.drew = wd at *
        have hszd := hbd.size
        refine wpAnyH_take (i := 0) (v := ?_) rfl (by kernel_rfl) (by kernel_rfl) (by kernel_rfl) (fun _ _ _ h => h) (Or.inl ⟨by rfl, ?_⟩) (by assumption) ?_
        rotate_left 1
        · (intro w hSw; (try dsimp only at hSw); go_simp; try with_reducible rfl)
        try simp only [Act.put, List.getElem_toArray, List.getElem_cons_succ, List.getElem_cons_zero, List.setIfInBounds_toArray, List.set_cons_zero, List.set_cons_succ]
        refine wpAnyH_take (i := 1) (v := ?_) rfl (by kernel_rfl) (by kernel_rfl) (by kernel_rfl) (fun _ _ _ h => h) (Or.inl ⟨by rfl, ?_⟩) (by assumption) ?_
        rotate_left 1
        · (intro w hSw; (try dsimp only at hSw); go_simp; try with_reducible rfl)
        try simp only [Act.put, List.getElem_toArray, List.getElem_cons_succ, List.getElem_cons_zero, List.setIfInBounds_toArray, List.set_cons_zero, List.set_cons_succ]
        refine wpAnyH_take (i := 2) (v := ?_) rfl (by kernel_rfl) (by kernel_rfl) (by kernel_rfl) (fun _ _ _ h => h) (Or.inl ⟨by rfl, ?_⟩) (by assumption) ?_
        rotate_left 1
        · (intro w hSw; (try dsimp only at hSw); go_simp; try with_reducible rfl)
        try simp only [Act.put, List.getElem_toArray, List.getElem_cons_succ, List.getElem_cons_zero, List.setIfInBounds_toArray, List.set_cons_zero, List.set_cons_succ]
        refine wpAnyH_take (i := 3) (v := ?_) rfl (by kernel_rfl) (by kernel_rfl) (by kernel_rfl) (fun _ _ _ h => h) (Or.inl ⟨by rfl, ?_⟩) (by assumption) ?_
        rotate_left 1
        · (intro w hSw; (try dsimp only at hSw); go_simp; try with_reducible rfl)
        try simp only [Act.put, List.getElem_toArray, List.getElem_cons_succ, List.getElem_cons_zero, List.setIfInBounds_toArray, List.set_cons_zero, List.set_cons_succ]
        refine wpAnyH_take (i := 4) (v := ?_) rfl (by kernel_rfl) (by kernel_rfl) (by kernel_rfl) (fun _ _ _ h => h) (Or.inl ⟨by rfl, ?_⟩) (by assumption) ?_
        rotate_left 1
        · (intro w hSw; (try dsimp only at hSw); go_simp; try with_reducible rfl)
        try simp only [Act.put, List.getElem_toArray, List.getElem_cons_succ, List.getElem_cons_zero, List.setIfInBounds_toArray, List.set_cons_zero, List.set_cons_succ]
        refine wpAnyH_take (i := 5) (v := ?_) rfl (by kernel_rfl) (by kernel_rfl) (by kernel_rfl) (fun _ _ _ h => h) (Or.inl ⟨by rfl, ?_⟩) (by assumption) ?_
        rotate_left 1
        · (intro w hSw; (try dsimp only at hSw); go_simp; try with_reducible rfl)
        try simp only [Act.put, List.getElem_toArray, List.getElem_cons_succ, List.getElem_cons_zero, List.setIfInBounds_toArray, List.set_cons_zero, List.set_cons_succ]
        refine wpAnyH_take (i := 6) (v := ?_) rfl (by kernel_rfl) (by kernel_rfl) (by kernel_rfl) (fun _ _ _ h => h) (Or.inl ⟨by rfl, ?_⟩) (by assumption) ?_
        rotate_left 1
        · (intro w hSw; (try dsimp only at hSw); go_simp; try with_reducible rfl)
        try simp only [Act.put, List.getElem_toArray, List.getElem_cons_succ, List.getElem_cons_zero, List.setIfInBounds_toArray, List.set_cons_zero, List.set_cons_succ]
        refine wpAnyH_take (i := 7) (v := ?_) rfl (by kernel_rfl) (by kernel_rfl) (by kernel_rfl) (fun _ _ _ h => h) (Or.inl ⟨by rfl, ?_⟩) (by assumption) ?_
        rotate_left 1
        · (intro w hSw; (try dsimp only at hSw); go_simp; try with_reducible rfl)
        try simp only [Act.put, List.getElem_toArray, List.getElem_cons_succ, List.getElem_cons_zero, List.setIfInBounds_toArray, List.set_cons_zero, List.set_cons_succ]
        refine wpAnyH_ready (rs := [8]) (by kernel_rfl) (by simp) ?_
        refine AllReadyH.cons rfl (fun K hK => ?_) AllReadyH.nil
        try simp only [Act.put, List.getElem_toArray, List.getElem_cons_succ, List.getElem_cons_zero, List.setIfInBounds_toArray, List.set_cons_zero, List.set_cons_succ]
        go_simp
        have f0 : (wd.alloc (.cells #[.int .u8 (97 + (q : Int))] 5)).cell? ⟨b, o + j, none⟩ = some (.string v) := (World.cell?_alloc_old _ _ _ (by dsimp only; omega)).trans e0
        have hcv : (convert 22 9 (.slice (some ⟨wd.heap.size, 0, none⟩) 1 1)).run Tryd.prog (wd.alloc (.cells #[.int .u8 (97 + (q : Int))] 5)) = .ok (.string (chB q)) (wd.alloc (.cells #[.int .u8 (97 + (q : Int))] 5)) := run_convert_bytes_back (P := Tryd.prog) (wd.alloc (.cells #[.int .u8 (97 + (q : Int))] 5)) 22 9 5 ⟨wd.heap.size, 0, none⟩ 1 [UInt8.ofNat (97 + q)] Tryd.underlying22 Tryd.underlying5 Tryd.underlying9 (one_byte wd hq4)
        have hba := hbd.alloc hszd (.cells #[.int .u8 (97 + (q : Int))] 5)
        have hoa := hod.alloc (.cells #[.int .u8 (97 + (q : Int))] 5)
        refine hK.out _ _ (f0) (fun hHeld => ?_)
        clear hK K
        try simp only [Act.put, List.getElem_toArray, List.getElem_cons_succ, List.getElem_cons_zero, List.setIfInBounds_toArray, List.set_cons_zero, List.set_cons_succ]
        refine wpAnyH_ready (rs := [9]) (by kernel_rfl) (by simp) ?_
        refine AllReadyH.cons rfl (fun K hK => ?_) AllReadyH.nil
        try simp only [Act.put, List.getElem_toArray, List.getElem_cons_succ, List.getElem_cons_zero, List.setIfInBounds_toArray, List.set_cons_zero, List.set_cons_succ]
        go_simp
        refine hK.out _ _ (f0) (fun hHeld => ?_)
        clear hK K
        try simp only [Act.put, List.getElem_toArray, List.getElem_cons_succ, List.getElem_cons_zero, List.setIfInBounds_toArray, List.set_cons_zero, List.set_cons_succ]
        clear hcv
        have hu1 : (chB q).size = 1 := rfl
        refine wpAnyH_take (i := 10) (v := ?_) rfl (by kernel_rfl) (by kernel_rfl) (by kernel_rfl) (fun _ _ _ h => h) (Or.inl ⟨by rfl, ?_⟩) (by assumption) ?_
        rotate_left 1
        · (intro w hSw; (try dsimp only at hSw); go_simp; try with_reducible rfl)
        try simp only [Act.put, List.getElem_toArray, List.getElem_cons_succ, List.getElem_cons_zero, List.setIfInBounds_toArray, List.set_cons_zero, List.set_cons_succ]
        refine wpAnyH_ready (rs := [11]) (by kernel_rfl) (by simp) ?_
        refine AllReadyH.cons rfl (fun K hK => ?_) AllReadyH.nil
        try simp only [Act.put, List.getElem_toArray, List.getElem_cons_succ, List.getElem_cons_zero, List.setIfInBounds_toArray, List.set_cons_zero, List.set_cons_succ]
        go_simp
        have g0 : ((wd.alloc (.cells #[.int .u8 (97 + (q : Int))] 5)).alloc (.cells #[.string (v ++ chB q)] 9)).cell? ⟨b, o + j, none⟩ = some (.string v) := (World.cell?_alloc_old _ _ _ (by simp; omega)).trans f0
        refine hK.out _ _ (g0) (fun hHeld => ?_)
        clear hK K
        try simp only [Act.put, List.getElem_toArray, List.getElem_cons_succ, List.getElem_cons_zero, List.setIfInBounds_toArray, List.set_cons_zero, List.set_cons_succ]
        have hbb := hba.alloc hba.size (.cells #[.string (v ++ chB q)] 9)
        have hob := hoa.alloc (.cells #[.string (v ++ chB q)] 9)
        have hrd := rd_new (wd.alloc (.cells #[.int .u8 (97 + (q : Int))] 5)) [.string (v ++ chB q)] 9 _ rfl
        rw [show (wd.alloc (.cells #[.int .u8 (97 + (q : Int))] 5)).heap.size = wd.heap.size + 1 by simp] at hrd
        refine wpAnyH_ready (rs := [12]) (by kernel_rfl) (by simp) ?_
        refine AllReadyH.cons rfl (fun K hK => ?_) AllReadyH.nil
        try simp only [Act.put, List.getElem_toArray, List.getElem_cons_succ, List.getElem_cons_zero, List.setIfInBounds_toArray, List.set_cons_zero, List.set_cons_succ]
        rw [if_pos (by rfl)]
        refine op_app _ _ _ 26 rfl wo.heap.size 9 i0 (.string ByteArray.empty) 1 16 Tryd.underlying26 hi0 hz0 hs0 hb0 rfl (by decide) _ _ _ rfl hob _ _ 1 1 [.string (v ++ chB q)] rfl rfl hrd (str_one _) (by omega) (by decide) hbb.size ?_
        intro v9 w9 hown9 hgrow9 hat9
        have hb9 := app_below hbb hob hgrow9 (Nat.le_refl _) hbb.size
        have l0 : w9.cell? ⟨b, o + j, none⟩ = some (.string v) := HKS.out _ hb9
        have HB9 := hide hb9
        have HO9 := hide (show w9.ownsRow wo.heap.size 9 1 v9 (m + 1) ((xs ++ (List.range (q + 1)).map fun c => v ++ chB c).map Value.string) by
          rw [hrs, ← List.append_assoc, List.map_append]; exact hown9)
        dsimp only
        refine hK.out _ _ (l0) (fun hHeld => ?_)
        clear hK K
        try simp only [Act.put, List.getElem_toArray, List.getElem_cons_succ, List.getElem_cons_zero, List.setIfInBounds_toArray, List.set_cons_zero, List.set_cons_succ]
        refine wpAnyH_take (i := 13) (v := ?_) rfl (by kernel_rfl) (by kernel_rfl) (by kernel_rfl) (fun _ _ _ h => h) (Or.inl ⟨by rfl, ?_⟩) (by assumption) ?_
        rotate_left 1
        · (intro w hSw; (try dsimp only at hSw); go_simp; try with_reducible rfl)
        try simp only [Act.put, List.getElem_toArray, List.getElem_cons_succ, List.getElem_cons_zero, List.setIfInBounds_toArray, List.set_cons_zero, List.set_cons_succ]
        refine wpAnyH_done (by kernel_rfl) ?_ _
        clear hown9 hgrow9 hat9 hoa hob hba hbb hrs hu1 hrd e0 f0 g0 l0 hb9 hod hbd
        go_wp2_with fail
        go_roundg (s - (q + 1))
        case measure => have := hgq.out; omega
        case rel => exact ⟨q + 1, m + 1, by omega, rfl, by go_num, hide (by omega), HO9, HB9⟩
end Go.Proofs.YtaajkmjilcamgaaDoor
namespace Go.Proofs.YtaajkmjilcamgaaDoor
open Go.RowKit
def nearL (d : Int) (ws : List ByteArray) (v : ByteArray) : Bool := ws.any fun w => decide (farB w v < d)
set_option maxRecDepth 100000 in
set_option maxHeartbeats 1000000 in
theorem indexFuncS_mem (p : ByteArray → Bool) (F : FuncId) (cap : Array Value) (xs : List ByteArray) (A : Option Addr) (c : Nat) (w : World) (hx : xs.length ≤ 9223372036854775807)
    (hcf : ∀ args w, (callFunc F args).run Tryd.prog w = .ok (.enter F args) w) (h1 : RdS w w.heap.size A xs)
    (hp : ∀ z W, z ∈ xs → Below w.heap.size w W → Calls Tryd.prog F (#[.string z] ++ cap) W fun e w' => e = .returned (.bool (p z)) ∧ Below W.heap.size W w') :
    Calls Tryd.prog 55 #[.slice A xs.length c, .func (.func F) #[] cap] w fun e w' => e = .returned (.int .i64 (firstI p xs 0)) ∧ Below w.heap.size w w' := by
  have HP := hide hp; clear hp
  go_enter Tryd.func55, Tryd.ntmps55
  go_wp2_with fail
  go_loopg [8] xs.length (fun g i wr => ∃ k : Nat, k ≤ xs.length ∧ g = xs.length - k ∧ i = .int .i64 k ∧ Below w.heap.size w wr ∧ Hid (firstI p xs 0 = firstI p (xs.drop k) k))
  case atStart => exact ⟨0, by omega, by omega, rfl, Below.refl _ _, hide (by simp)⟩
  case round =>
    obtain ⟨k, hk, hg, rfl, hb, HE⟩ := hrel
    have HG := hide hg; clear hg
    by_cases hlt : k < xs.length
    · obtain ⟨b, o, z, rfl, _, hz, hc⟩ := (h1.below hb).at_ hlt
      have Z := hide hz; clear hz h1
      have HQ := HP.out z wr (List.mem_of_getElem? Z.out) hb
      have h := HE.out
      rw [drop_cons Z.out] at h
      cases hpz : p z
      · rw [hpz] at HQ
        have h' := hide (show firstI p xs 0 = firstI p (xs.drop (k + 1)) (k + 1) by simpa [firstI, hpz] using h)
        have HQ' := hide HQ
        clear h HQ hpz HE
        go_wp2_with fail
        refine HQ'.out.mono ?_
        rintro e w1 ⟨rfl, hb1⟩
        go_wp2_with fail
        go_roundg (xs.length - (k + 1))
        case measure => have := HG.out; omega
        case rel => exact ⟨k + 1, by omega, rfl, by go_num, hb.trans (hb1.mono hb.size), h'⟩
      · rw [hpz] at HQ
        have h' := hide (show firstI p xs 0 = k by simpa [firstI, hpz] using h)
        have HQ' := hide HQ
        clear h HQ hpz HE
        go_wp2_with fail
        refine HQ'.out.mono ?_
        rintro e w1 ⟨rfl, hb1⟩
        go_wp2_with fail
        go_ret
        exact ⟨ret_i h'.out.symm, hb.trans (hb1.mono hb.size)⟩
    · go_wp2_with fail
      go_ret
      refine ⟨ret_i ?_, hb⟩
      have h := HE.out
      rw [List.drop_eq_nil_of_le (by omega)] at h
      rw [h]; rfl
set_option maxRecDepth 100000 in
set_option maxHeartbeats 1000000 in
theorem containsFuncS_mem (p : ByteArray → Bool) (F : FuncId) (cap : Array Value) (xs : List ByteArray) (A : Option Addr) (c : Nat) (w : World) (hx : xs.length ≤ 9223372036854775807)
    (hcf : ∀ args w, (callFunc F args).run Tryd.prog w = .ok (.enter F args) w) (h1 : RdS w w.heap.size A xs)
    (hp : ∀ z W, z ∈ xs → Below w.heap.size w W → Calls Tryd.prog F (#[.string z] ++ cap) W fun e w' => e = .returned (.bool (p z)) ∧ Below W.heap.size W w') :
    Calls Tryd.prog 45 #[.slice A xs.length c, .func (.func F) #[] cap] w fun e w' => e = .returned (.bool (xs.any p)) ∧ Below w.heap.size w w' := by
  have HC := hide (indexFuncS_mem p F cap xs A c w hx hcf h1 hp)
  clear hp
  have HE := hide (firstI_ge p xs 0)
  go_enter Tryd.func45, Tryd.ntmps45
  go_wp2_with fail
  refine HC.out.mono ?_
  rintro e w1 ⟨rfl, hb⟩
  go_wp2_with fail
  go_ret
  exact ⟨ret_b HE.out, hb⟩
set_option maxRecDepth 100000 in
set_option maxHeartbeats 1000000 in
theorem isFar1_any (z v : ByteArray) (d : Int) (g1 g2 : Nat) (w : World) (hs : z.size = v.size) (hl : z.size ≤ 1048576) (h1 : w.cell? ⟨g1, 0, none⟩ = some (.string v)) (h2 : w.cell? ⟨g2, 0, none⟩ = some (.int .i64 d)) :
    Calls Tryd.prog 46 #[.string z, .pointer (some ⟨g1, 0, none⟩), .pointer (some ⟨g2, 0, none⟩)] w fun e w' => e = .returned (.bool (decide (farB z v < d))) ∧ Below w.heap.size w w' := by
  have HD := hide fun n => distance_any z v (w.drewN n) hs hl
  by_cases hc : farB z v < d
  · have hB := decide_eq_true hc
    generalize farB z v = fd at *
    go_enter Tryd.func46, Tryd.ntmps46
    go_wp2_with fail
    go_quiet ((go_at_call 26; with_reducible exact qdn (HD.out _)))
    go_wp2_with fail
    go_ret
    exact ⟨ret_b hB.symm, bdn (Below.refl _ _) _⟩
  · have hB := decide_eq_false hc
    generalize farB z v = fd at *
    go_enter Tryd.func46, Tryd.ntmps46
    go_wp2_with fail
    go_quiet ((go_at_call 26; with_reducible exact qdn (HD.out _)))
    go_wp2_with fail
    go_ret
    exact ⟨ret_b hB.symm, bdn (Below.refl _ _) _⟩
set_option maxRecDepth 100000 in
set_option maxHeartbeats 2000000 in
theorem isFar_any (ws : List ByteArray) (v : ByteArray) (d : Int) (A : Option Addr) (c : Nat) (w : World) (hl : ws.length ≤ 1048576) (hs : ∀ s ∈ ws, s.size = v.size) (hv : v.size ≤ 1048576) (hr : RdS w w.heap.size A ws) :
    Calls Tryd.prog 22 #[.slice A ws.length c, .string v, .int .i64 d] w fun e w' => e = .returned (.bool (!nearL d ws v)) ∧ Below w.heap.size w w' := by
  have hcf := callFunc_gen (P := Tryd.prog) (F := 46) Tryd.func46 (by kernel_rfl) (by kernel_rfl)
  have hsA : (w.alloc (.cells #[.string v] 9)).heap.size = w.heap.size + 1 := by simp
  have X1 := hide ((BoxN.new w #[.string v] 9).alloc (.cells #[.int .i64 d] 2))
  have X2 : Hid (BoxN ((w.alloc (.cells #[.string v] 9)).alloc (.cells #[.int .i64 d] 2)) (w.heap.size + 1) #[.int .i64 d] 2) := hide (hsA ▸ BoxN.new (w.alloc (.cells #[.string v] 9)) #[.int .i64 d] 2)
  have B0 := hide (show Below w.heap.size w ((w.alloc (.cells #[.string v] 9)).alloc (.cells #[.int .i64 d] 2)) from ((Below.refl _ _).alloc (Nat.le_refl _) _).alloc (by simp) _)
  have HC := hide (containsFuncS_mem (fun z => decide (farB z v < d)) 46 #[.pointer (some ⟨w.heap.size, 0, none⟩), .pointer (some ⟨w.heap.size + 1, 0, none⟩)] ws A c _ (by omega) hcf ((hr.below B0.out).more B0.out.size) fun z W hz hW =>
    isFar1_any z v d w.heap.size (w.heap.size + 1) W (hs z hz) (by rw [hs z hz]; exact hv) ((X1.out.below hW X1.out.lt).cell 0) ((X2.out.below hW X2.out.lt).cell 0))
  clear hcf hr hs hsA X1 X2
  go_enter Tryd.func22, Tryd.ntmps22
  go_wp2_with (go_at_call 45; (with_reducible refine (HC.out).mono ?_); rintro e w1 ⟨rfl, b1⟩)
  go_ret
  exact ⟨rfl, B0.out.trans (b1.mono B0.out.size)⟩
set_option maxRecDepth 100000 in
set_option maxHeartbeats 2000000 in
theorem l05Near_any (ws : List ByteArray) (v : ByteArray) (d : Int) (A : Option Addr) (c : Nat) (w : World) (hl : ws.length ≤ 1048576) (hs : ∀ s ∈ ws, s.size = v.size) (hv : v.size ≤ 1048576) (hr : RdS w w.heap.size A ws) :
    Calls Tryd.prog 25 #[.slice A ws.length c, .string v, .int .i64 d] w fun e w' => e = .returned (.bool (nearL d ws v)) ∧ ∃ m, w' = w.drewN m := by
  have HX := hide hr; clear hr
  have HS := hide hs; clear hs
  go_enter Tryd.func25, Tryd.ntmps25
  go_wp2_with fail
  go_loopg [7] ws.length (fun g i wr => ∃ k : Nat, k ≤ ws.length ∧ Hid (g = ws.length - k) ∧ i = .int .i64 k ∧ Hid (nearL d ws v = nearL d (ws.drop k) v) ∧ ∃ m, wr = w.drewN m)
  case atStart => exact ⟨0, by omega, by simp [Hid], rfl, by simp [Hid], 0, rfl⟩
  case round =>
    obtain ⟨k, hk, hg, rfl, HQ, m, rfl⟩ := hrel
    by_cases hlt : k < ws.length
    · obtain ⟨b1, o1, z1, rfl, hb1, hz1, hca⟩ := HX.out.at_ hlt
      have hca2 : (w.drewN m).cell? ⟨b1, o1 + k, none⟩ = some (.string z1) := ((bdn (Below.refl w.heap.size w) m).cell (p := ⟨b1, o1 + k, none⟩) hb1).trans hca
      have hzs := HS.out z1 (List.mem_of_getElem? hz1)
      have HD := hide (l05Far_any z1 v (w.drewN m) hzs (by omega))
      have HQ' := HQ.out
      rw [drop_cons hz1] at HQ'
      have HQ2 : Hid (nearL d ws v = (decide (farB z1 v < d) || nearL d (ws.drop (k + 1)) v)) := HQ'
      have hki : (k : Int) < (ws.length : Int) := by omega
      clear HQ HQ' hz1 hca hzs
      by_cases hc : farB z1 v < d
      · have hB := decide_eq_true hc
        have HN := hide (show nearL d ws v = true by rw [HQ2.out, decide_eq_true hc]; rfl)
        have HC := hide hc
        clear hc HQ2
        generalize farB z1 v = fd at *
        go_wp2_with (go_at_call 28; (with_reducible refine (HD.out).mono ?_); rintro e w2 ⟨rfl, nq, rfl⟩)
        go_ret
        exact ⟨ret_b HN.out.symm, m + nq, rfl⟩
      · have hB := decide_eq_false hc
        have HN := hide (show nearL d ws v = nearL d (ws.drop (k + 1)) v by rw [HQ2.out, decide_eq_false hc]; rfl)
        have HC := hide hc
        clear hc HQ2
        generalize farB z1 v = fd at *
        go_wp2_with (go_at_call 28; (with_reducible refine (HD.out).mono ?_); rintro e w2 ⟨rfl, nq, rfl⟩)
        go_roundg (ws.length - (k + 1))
        case measure => have := hg.out; omega
        case rel => exact ⟨k + 1, by omega, rfl, by go_num, HN, m + nq, rfl⟩
    · have HN := hide (show nearL d ws v = false by rw [HQ.out, List.drop_eq_nil_of_le (by omega)]; rfl)
      go_wp2_with fail
      go_ret
      exact ⟨ret_b HN.out.symm, m, rfl⟩
end Go.Proofs.YtaajkmjilcamgaaDoor
