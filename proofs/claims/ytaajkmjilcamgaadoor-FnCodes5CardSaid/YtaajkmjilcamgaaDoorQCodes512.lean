/-
  The program's greatest number of words.
  What the law of codes says of the results. Plain lemmas.
  The table of the lowest bits out of a row's list of laid variables.
  Words over signs are words; distances of such words. Plain lemmas.
-/
import Derived.Test.YtaajkmjilcamgaaDoorQCodes511
import Derived.Test.YtaajkmjilcamgaaDoorQCodes50
namespace Go.Proofs.YtaajkmjilcamgaaDoor
open Go.RowKit
theorem bits_or_u32_nat (a b : Nat) (ha : a < 4294967296) (hb : b < 4294967296) : bits .or .u32 (a : Int) (b : Int) = ((a ||| b : Nat) : Int) := by
  have hx : a ||| b < 2 ^ 32 := Nat.or_lt_two_pow ha hb
  have h1 : (BitVec.ofInt 32 (a : Int)).toNat = a := by
    rw [BitVec.ofInt_natCast, BitVec.toNat_ofNat]; exact Nat.mod_eq_of_lt (by omega)
  have h2 : (BitVec.ofInt 32 (b : Int)).toNat = b := by
    rw [BitVec.ofInt_natCast, BitVec.toNat_ofNat]; exact Nat.mod_eq_of_lt (by omega)
  show IntKind.u32.wrap ((BitVec.ofInt 32 (a : Int) ||| BitVec.ofInt 32 (b : Int)).toNat : Int) = _
  rw [BitVec.toNat_or, h1, h2, wrap_u32']
  omega
/-- The words near the i-th, among the first k. -/
def nearM (ws : List ByteArray) (d : Int) (i : Nat) : Nat → Nat
  | 0 => 0
  | k + 1 => if i ≠ k ∧ farB (txt ws i) (txt ws k) < d then nearM ws d i k ||| 2 ^ k else nearM ws d i k
theorem nearM_bit (ws : List ByteArray) (d : Int) (i : Nat) : ∀ k j, (nearM ws d i k).testBit j = true ↔ (j < k ∧ j ≠ i ∧ farB (txt ws i) (txt ws j) < d) := by
  intro k
  induction k with
  | zero => intro j; rw [nearM, Nat.zero_testBit]; exact ⟨fun h => (by cases h), fun h => (by omega)⟩
  | succ k ih =>
    intro j
    rw [nearM]
    split
    · rename_i h
      rw [Nat.testBit_or, Bool.or_eq_true, ih, pow_bit]
      constructor
      · rintro (⟨h1, h2, h3⟩ | rfl)
        · exact ⟨by omega, h2, h3⟩
        · exact ⟨by omega, fun e => h.1 e.symm, h.2⟩
      · rintro ⟨h1, h2, h3⟩
        by_cases e : j = k
        · exact .inr e
        · exact .inl ⟨by omega, h2, h3⟩
    · rename_i h
      rw [ih]
      constructor
      · rintro ⟨h1, h2, h3⟩; exact ⟨by omega, h2, h3⟩
      · rintro ⟨h1, h2, h3⟩
        refine ⟨?_, h2, h3⟩
        by_cases e : j = k
        · subst e; exact (h ⟨fun e => h2 e.symm, h3⟩).elim
        · omega
theorem nearM_lt (ws : List ByteArray) (d : Int) (i : Nat) : ∀ k, k ≤ 32 → nearM ws d i k < 4294967296 := by
  intro k
  induction k with
  | zero => intro _; rw [nearM]; decide
  | succ k ih =>
    intro hk
    rw [nearM]
    split
    · exact Nat.or_lt_two_pow (n := 32) (ih (by omega)) (Nat.pow_lt_pow_right (by decide) (by omega))
    · exact ih (by omega)
def nearT (ws : List ByteArray) (d : Int) (k : Nat) : List Nat := (List.range k).map fun i => nearM ws d i ws.length
theorem nearT_ok {ws : List ByteArray} {d : Int} {R : Nat} (h32 : ws.length ≤ 32) : NrOk ws d R (nearT ws d ws.length) := by
  refine ⟨by simp [nearT], h32, fun m hm => ?_, fun k j m x y hm hx hy => ?_⟩
  · obtain ⟨i, _, rfl⟩ := List.mem_map.1 hm
    exact nearM_lt ws d i _ h32
  · have hk := lt_of_get hx
    have hj := lt_of_get hy
    unfold nearT at hm
    rw [List.getElem?_map, List.getElem?_range hk] at hm
    obtain rfl := Option.some.inj hm
    rw [nearM_bit, txt_get hx, txt_get hy]
    exact ⟨fun ⟨_, a, b⟩ => ⟨a, b⟩, fun ⟨a, b⟩ => ⟨hj, a, b⟩⟩
theorem uint32_info : (Tryd.prog.info? 43).map (fun i => (i.zero, i.size, i.bytes)) = some (some (.int .u32 0), 1, 4) := by kernel_rfl
theorem u32s_one (xs : List Nat) : ∀ u ∈ u32s xs, u.oneCell' = true := by
  intro u hu
  unfold u32s at hu
  obtain ⟨m, _, rfl⟩ := List.mem_map.1 hu
  rfl
theorem u32_one (m : Nat) : ∀ u ∈ [Value.int .u32 (m : Int)], u.oneCell' = true := by
  intro u hu
  rw [List.mem_singleton] at hu
  rw [hu]; rfl
theorem full_bit {n i : Nat} : (2 ^ n - 1).testBit i = true ↔ i < n := by rw [Nat.testBit_two_pow_sub_one, decide_eq_true_eq]
theorem bitS_full {ws : List ByteArray} (y : ByteArray) : y ∈ ws ↔ bitS ws (2 ^ ws.length - 1) y := by
  constructor
  · intro h
    obtain ⟨i, hi, rfl⟩ := List.mem_iff_getElem.1 h
    exact ⟨i, full_bit.2 hi, List.getElem?_eq_getElem hi⟩
  · rintro ⟨i, _, h⟩
    exact List.mem_of_getElem? h
theorem full_wrap {n : Nat} (h : n ≤ 32) : IntKind.u32.wrap ((2 : Int) ^ n % 4294967296 - 1) = ((2 ^ n - 1 : Nat) : Int) := by
  rw [wrap_u32']
  have h1 : 1 ≤ 2 ^ n := Nat.pow_pos (by decide)
  have h2 : 2 ^ n ≤ 2 ^ 32 := Nat.pow_le_pow_right (by decide) h
  have e : (2 : Int) ^ n = ((2 ^ n : Nat) : Int) := by push_cast; rfl
  rw [e]
  generalize 2 ^ n = q at *
  omega
set_option maxRecDepth 100000 in
set_option maxHeartbeats 8000000 in
theorem P_MostAddresses (s r d : Int) (w : World) (hgb : 0 < w.heap.size) (hT : TabB w) :
    Calls Tryd.prog 9 #[.int .i64 s, .int .i64 r, .int .i64 d] w fun e w' => e = .returned (.tuple #[.int .i64 (mostR s r d), .int .i64 (codeW s r d 32)]) ∧ Below w.heap.size w w' := by
  obtain ⟨i0, hi0, hz0, hs0, hb0⟩ := info_parts uint32_info
  have HC := hide (show Calls Tryd.prog 20 #[.int .i64 s, .int .i64 r, .int .i64 d, .int .i64 32] w fun e w' => e = .returned (.int .i64 (codeW s r d 32)) ∧ w = w' from wordsCode_any s r d 32 w (by omega))
  by_cases h : codeW s r d 32 = 0
  case neg =>
    have hL : mostR s r d = 0 := by unfold mostR; rw [if_neg h]
    rw [hL]
    generalize codeW s r d 32 = cd at *
    have hB : (cd != 0) = true := by simpa using h
    have HH := hide h
    clear h hL
    go_enter Tryd.func9, Tryd.ntmps9
    go_wp2_with (go_at_call 20; refine (HC.out).mono ?_; rintro e w' ⟨rfl, rfl⟩)
    go_ret2
    exact ⟨rfl, Below.refl _ _⟩
  obtain ⟨⟨h1, h2⟩, ⟨h3, h4⟩, ⟨h6, h7⟩, h5⟩ := codeW_ok h
  have hL : mostR s r d = (mostN s.toNat r.toNat d : Int) := by unfold mostR; rw [if_pos h]
  rw [hL]
  rw [h] at HC ⊢
  obtain ⟨S, rfl⟩ : ∃ S : Nat, s = S := ⟨s.toNat, by omega⟩
  obtain ⟨R, rfl⟩ : ∃ R : Nat, r = R := ⟨r.toNat, by omega⟩
  rw [Int.toNat_natCast, Int.toNat_natCast] at h5 ⊢
  have HA := hide fun W => allWords_any S R W (by omega) (by omega) (by omega) (by omega)
  have hR8 : R ≤ 8 := by omega
  have HND := hide (allW_nodup (s := S) (by omega) R)
  have HLN := hide (show 1 ≤ (allW S R).length ∧ (allW S R).length ≤ 32 by rw [allW_len]; exact ⟨pow_ge1 (by omega) R, by omega⟩)
  have HSZ := hide (show ∀ v ∈ allW S R, v.size = R from fun v hv => allW_size hv)
  have HAL := hide (show ∀ q, Alpha (nearZ d R) (fun y => y ∈ allW S R) q → q = mostN S R d from fun q hq => by
    obtain ⟨l, he⟩ := allW_head (s := S) (by omega) R
    have hA := alpha_all (by omega) (by omega) h6 he
    have := hq.uniq hA
    rw [this]
    unfold mostN
    rw [he])
  have HTB := hide fun W (hW : Below w.heap.size w W) => hT.below hW hgb
  generalize mostN S R d = MX at *
  generalize allW S R = L at *
  clear h h1 h2 h3 h4 h5 h7 hL hT
  go_enter Tryd.func9, Tryd.ntmps9
  go_upto_region 5 with (first | (go_at_call 20; refine (HC.out).mono ?_; rintro e w' ⟨rfl, rfl⟩) | (go_at_call 21; (with_reducible refine (HA.out _).mono ?_); rintro e w1 ⟨A, c, rfl, ho, b1⟩))
  have HR := hide (show RdS w1 w1.heap.size A L from RdS.of_own ho)
  have HB1 := hide b1
  obtain ⟨hL1, hL2⟩ := HLN.out
  have ho1 := hide (own_new0 w1 w1.heap.size 43 1 (Nat.le_refl _))
  have hB1 : Hid (Below w1.heap.size w1 (w1.alloc (.cells #[] 43))) := hide ((Below.refl _ _).alloc (Nat.le_refl _) _)
  clear ho b1 HC HA
  go_wp2_with fail
  go_loopg [29, 10] L.length (fun g i sv wr => ∃ k : Nat, k ≤ L.length ∧ Hid (g = L.length - k) ∧ i = .int .i64 k ∧ Hid (wr.ownsRow w1.heap.size 43 1 sv k (u32s (nearT L d k))) ∧ Hid (Below w1.heap.size w1 wr))
  case atStart => exact ⟨0, by omega, by simp [Hid], rfl, hide (by simpa [u32s, nearT] using ho1.out), hB1⟩
  case round =>
    obtain ⟨k, hk, hg, rfl, HO, HB⟩ := hrel
    clear ho1 hB1
    have zr := HB.out.size
    by_cases hkt : k < L.length
    case neg =>
      obtain rfl : L.length = k := by omega
      have ho := HO.out
      obtain ⟨A5, c5, rfl, _⟩ := own_shape ho
      have hnl : (nearT L d L.length).length = L.length := by simp [nearT]
      have HBW := hide (HB1.out.trans (HB.out.mono HB1.out.size))
      have hap := apart_any L d R (nearT L d L.length) (nearT_ok hL2) HSZ.out HND.out h6 (2 ^ L.length - 1 + 1) (2 ^ L.length - 1) A5 c5 wr (by omega)
        (by have h1 : 1 ≤ 2 ^ L.length := Nat.pow_pos (by decide); have h2 : 2 ^ L.length ≤ 2 ^ 32 := Nat.pow_le_pow_right (by decide) hL2; omega)
        (fun i hi => full_bit.1 hi) (Nat.lt_of_lt_of_le hgb HBW.out.size) (HTB.out _ HBW.out) (Rd.of_own ho)
      rw [hnl] at hap
      have HAP := hide hap
      have hfw := full_wrap hL2
      have HQ := hide fun q (hq : Alpha (nearZ d R) (bitS L (2 ^ L.length - 1)) q) => HAL.out q (hq.congr fun y => bitS_full y)
      clear ho hap HO hnl
      generalize 2 ^ L.length - 1 = FM at *
      go_wp2_with (go_at_call 27; (with_reducible refine (HAP.out).mono ?_); rintro e w2 ⟨q, rfl, hq, _, b2⟩)
      go_ret2
      exact ⟨by rw [HQ.out q hq]; rfl, HBW.out.trans (b2.mono HBW.out.size)⟩
    obtain ⟨b, o, x, rfl, hbw, hx, hcx⟩ := HR.out.at_ hkt
    have hxs := HSZ.out x (List.mem_of_getElem? hx)
    have HKX := hide fun W (hW : Below w1.heap.size w1 W) => (hW.cell (p := ⟨b, o + k, none⟩) hbw).trans hcx
    have HTX := hide (txt_get hx)
    have hki : (k : Int) < (L.length : Int) := by omega
    have kx : wr.cell? ⟨b, o + k, none⟩ = some (.string x) := HKX.out wr HB.out
    have HTS := hide (show u32s (nearT L d (k + 1)) = u32s (nearT L d k) ++ [.int .u32 (nearM L d k L.length : Int)] by unfold u32s nearT; rw [List.range_succ, List.map_append, List.map_append]; rfl)
    clear hx hcx
    go_wp2_with fail
    clear kx
    go_loopg [36, 13] L.length (fun g j ov wr2 => ∃ q m : Nat, q ≤ L.length ∧ Hid (g = L.length - q) ∧ j = .int .i64 q ∧ ov = .int .u32 (m : Int) ∧ Hid (m = nearM L d k q) ∧ ∃ z, wr2 = wr.drewN z)
    case atStart => exact ⟨0, 0, by omega, by simp [Hid], rfl, rfl, hide rfl, 0, rfl⟩
    case round =>
      obtain ⟨q, m, hq, hgq, rfl, rfl, HM, z, rfl⟩ := hrel
      have HBZ := hide (show Below w1.heap.size w1 (wr.drewN z) from bdn HB.out z)
      have hm32 : m < 4294967296 := by rw [HM.out]; exact nearM_lt L d k q (by omega)
      by_cases hqt : q < L.length
      case neg =>
        obtain rfl : L.length = q := by omega
        have hro := row_belowS HO.out (bdn (Below.refl wr.heap.size wr) z)
        have hoF := hro.alloc (.cells #[.int .u32 (m : Int)] 43)
        have zz := HBZ.out.size
        go_wp2_with (at_builtin; refine Hid.out ?_)
        refine hide ?_
        refine wp_app _ rfl _ _ 42 rfl w1.heap.size 43 i0 (.int .u32 0) 1 4 Tryd.underlying42 hi0 hz0 hs0 hb0 rfl (by decide) u10 k _ rfl hoF _ _ 1 1 [.int .u32 (m : Int)] rfl rfl (rd_new _ _ _ _ ?c1) (u32_one _) ?c2 (by decide) ?c3 ?_
        case c1 => simp
        case c2 => omega
        case c3 => simp; omega
        intro v9 w9 hown9 hgrow9 hat9
        have HB9 := hide (app_below (HBZ.out.alloc zz _) hoF hgrow9 (Nat.le_refl _) (by simp; omega))
        have HO9 := hide (show w9.ownsRow w1.heap.size 43 1 v9 (k + 1) (u32s (nearT L d (k + 1))) by rw [HTS.out, ← HM.out]; exact hown9)
        clear hown9 hgrow9 hat9 hoF hro HBZ
        go_wp2_with fail
        go_roundg (L.length - (k + 1))
        case measure => have := hg.out; omega
        case rel => exact ⟨k + 1, by omega, rfl, by go_num, HO9, HB9⟩
      obtain ⟨b2, o2, y, hA2, _, hy, hcy⟩ := HR.out.at_ hqt
      obtain ⟨rfl, rfl⟩ : b = b2 ∧ o = o2 := by cases hA2; exact ⟨rfl, rfl⟩
      have hys := HSZ.out y (List.mem_of_getElem? hy)
      have ky : (wr.drewN z).cell? ⟨b, o + q, none⟩ = some (.string y) := (HBZ.out.cell (p := ⟨b, o + q, none⟩) hbw).trans hcy
      have hst : nearM L d k (q + 1) = if k ≠ q ∧ farB x y < d then nearM L d k q ||| 2 ^ q else nearM L d k q := by
        show (if k ≠ q ∧ farB (txt L k) (txt L q) < d then nearM L d k q ||| 2 ^ q else nearM L d k q) = _
        rw [HTX.out, txt_get hy]
      have hqi : (q : Int) < (L.length : Int) := by omega
      clear hy hcy hA2
      by_cases hkq : k = q
      · have HS := hide (show m = nearM L d k (q + 1) by rw [hst, if_neg (fun e => e.1 hkq), ← HM.out])
        have hB : ((k : Int) != (q : Int)) = false := by simp [hkq]
        have HH := hide hkq
        clear hst hkq
        go_wp2_with fail
        go_roundg (L.length - (q + 1))
        case measure => have := hgq.out; omega
        case rel => exact ⟨q + 1, m, by omega, rfl, by go_num, rfl, HS, z, rfl⟩
      have hB : ((k : Int) != (q : Int)) = true := by simp; omega
      have HD := hide (distance_any x y (wr.drewN z) (by omega) (by omega))
      generalize hfd : farB x y = fd at *
      by_cases hf : fd < d
      · have hB2 : decide (fd < d) = true := decide_eq_true hf
        have HS := hide (show m ||| 2 ^ q = nearM L d k (q + 1) by rw [hst, if_pos ⟨hkq, hf⟩]; rw [← HM.out])
        obtain ⟨P, hP⟩ : ∃ P, P = 2 ^ q := ⟨_, rfl⟩
        have hPl : P < 4294967296 := by rw [hP]; exact (Nat.pow_lt_pow_right (a := 2) (by decide) (show q < 32 by omega) : 2 ^ q < 2 ^ 32)
        have hsh : (2 : Int) ^ q % 4294967296 = (P : Int) := by
          have : (2 : Int) ^ q = (P : Int) := by rw [hP]; push_cast; rfl
          rw [this]; omega
        have hor := bits_or_u32_nat m P hm32 hPl
        rw [← hP] at HS
        have HH := hide hkq
        have HF := hide hf
        clear hst hkq hfd hf hP
        generalize m ||| P = m2 at *
        go_wp2_with (go_at_call 26; (with_reducible refine (HD.out).mono ?_); rintro e w5 ⟨rfl, z5, rfl⟩)
        go_roundg (L.length - (q + 1))
        case measure => have := hgq.out; omega
        case rel => exact ⟨q + 1, m2, by omega, rfl, by go_num, rfl, HS, z + z5, rfl⟩
      · have hB2 : decide (fd < d) = false := decide_eq_false hf
        have HS := hide (show m = nearM L d k (q + 1) by rw [hst, if_neg (fun e => hf e.2), ← HM.out])
        have HH := hide hkq
        have HF := hide hf
        clear hst hkq hfd hf
        go_wp2_with (go_at_call 26; (with_reducible refine (HD.out).mono ?_); rintro e w5 ⟨rfl, z5, rfl⟩)
        go_roundg (L.length - (q + 1))
        case measure => have := hgq.out; omega
        case rel => exact ⟨q + 1, m, by omega, rfl, by go_num, rfl, HS, z + z5, rfl⟩
end Go.Proofs.YtaajkmjilcamgaaDoor
namespace Go.Proofs.YtaajkmjilcamgaaDoor
open Go.RowKit
theorem nearL_no {d : Int} {ws : List ByteArray} {v : ByteArray} (h : nearL d ws v = false) : ∀ x ∈ ws, d ≤ farB x v := by
  intro x hx
  unfold nearL at h
  rw [List.any_eq_false] at h
  have := h x hx
  rw [decide_eq_true_eq] at this
  omega
theorem greedyG_ok {d : Int} : ∀ (l out : List ByteArray), (out.Pairwise fun a b => d ≤ farB a b) →
    ((greedyG d out l).Pairwise fun a b => d ≤ farB a b) ∧ (∀ x ∈ greedyG d out l, x ∈ out ∨ x ∈ l) ∧ out.length ≤ (greedyG d out l).length := by
  intro l
  induction l with
  | nil => intro out h; exact ⟨h, fun x hx => .inl hx, Nat.le_refl _⟩
  | cons w l ih =>
    intro out h
    rw [greedyG]
    cases hn : nearL d out w
    · rw [if_neg (by decide)]
      obtain ⟨h1, h2, h3⟩ := ih (out ++ [w]) (by
        rw [List.pairwise_append]
        refine ⟨h, List.pairwise_singleton _ _, fun a ha b hb => ?_⟩
        rw [List.mem_singleton] at hb
        rw [hb]
        exact nearL_no hn a ha)
      refine ⟨h1, fun x hx => ?_, ?_⟩
      · rcases h2 x hx with q | q
        · rcases List.mem_append.1 q with q | q
          · exact .inl q
          · rw [List.mem_singleton] at q
            exact .inr (q ▸ List.mem_cons_self ..)
        · exact .inr (List.mem_cons_of_mem _ q)
      · rw [List.length_append] at h3; omega
    · rw [if_pos rfl]
      obtain ⟨h1, h2, h3⟩ := ih out h
      refine ⟨h1, fun x hx => ?_, h3⟩
      rcases h2 x hx with q | q
      · exact .inl q
      · exact .inr (List.mem_cons_of_mem _ q)
theorem greedyG_some {d : Int} {w : ByteArray} {l : List ByteArray} : 1 ≤ (greedyG d [] (w :: l)).length := by
  rw [greedyG]
  have e : nearL d [] w = false := rfl
  rw [e, if_neg (by decide)]
  exact (greedyG_ok l ([] ++ [w]) (List.pairwise_singleton _ _)).2.2
/-- What the codes that are told satisfy. -/
theorem greedyR_ok {s r d : Int} (h : codeW s r d 300 = 0) : (greedyR s r d).Pairwise (fun a b => d ≤ farB a b) ∧ (∀ x ∈ greedyR s r d, x ∈ allW s.toNat r.toNat) ∧ 1 ≤ (greedyR s r d).length := by
  obtain ⟨⟨h1, h2⟩, ⟨h3, h4⟩, _, h5⟩ := codeW_ok h
  unfold greedyR
  rw [if_pos h]
  obtain ⟨g1, g2, _⟩ := greedyG_ok (d := d) (allW s.toNat r.toNat) [] List.Pairwise.nil
  obtain ⟨l, he⟩ := allW_head (s := s.toNat) (by omega) r.toNat
  refine ⟨g1, fun x hx => ?_, ?_⟩
  · rcases g2 x hx with q | q
    · cases q
    · exact q
  · rw [he]; exact greedyG_some
theorem codeW_32_300 {s r d : Int} (h : codeW s r d 32 = 0) : codeW s r d 300 = 0 := by
  unfold codeW at h ⊢
  split at h
  · rename_i h1
    rw [if_pos h1]
    split at h
    · rename_i h2
      rw [if_pos (by omega)]
    · cases h
  · cases h
theorem greedy_most {s r d : Int} (h : codeW s r d 32 = 0) : ((greedyR s r d).length : Int) ≤ mostR s r d := by
  obtain ⟨⟨h1, h2⟩, ⟨h3, h4⟩, ⟨h6, h7⟩, h5⟩ := codeW_ok h
  obtain ⟨g1, g2, _⟩ := greedyR_ok (codeW_32_300 h)
  unfold mostR
  rw [if_pos h]
  obtain ⟨l, he⟩ := allW_head (s := s.toNat) (by omega) r.toNat
  have hA := alpha_all (by omega) (by omega) h6 he
  have hm : mostN s.toNat r.toNat d = alphaL d l.length (l.filter fun y => decide (d ≤ farB (zeroW r.toNat) y)) + 1 := by unfold mostN; rw [he]
  rw [hm]
  have := hA.2 (greedyR s r d) g2 (List.Pairwise.imp_of_mem (fun {a b} ha hb hab k => by
    have := k ⟨allW_size (g2 a ha), allW_size (g2 b hb)⟩
    unfold nearD at this
    omega) g1)
  omega
theorem findF_ok {d : Int} {ws : List ByteArray} : ∀ {l : List ByteArray} {v : ByteArray}, findF d ws l = some v → v ∈ l ∧ ∀ x ∈ ws, d ≤ farB x v := by
  intro l
  induction l with
  | nil => intro v h; cases h
  | cons w l ih =>
    intro v h
    rw [findF] at h
    cases hn : nearL d ws w
    · rw [hn, if_neg (by decide)] at h
      cases h
      exact ⟨List.mem_cons_self .., nearL_no hn⟩
    · rw [hn, if_pos rfl] at h
      obtain ⟨h1, h2⟩ := ih h
      exact ⟨List.mem_cons_of_mem _ h1, h2⟩
/-- What an added address satisfies. -/
theorem addR_ok {n : Int} {ws : List ByteArray} {d : Int} (h : (addR n ws d).2 = 0) : ∃ v, (addR n ws d).1 = ws ++ [v] ∧ addrs n ws = true ∧ v ∈ allW n.toNat (txt ws 0).size ∧ 1 ≤ ws.length ∧ ∀ x ∈ ws, d ≤ farB x v := by
  unfold addR at h ⊢
  split at h
  · cases h
  · rename_i h1
    rw [if_neg h1]
    split at h
    · cases h
    · rename_i h2
      rw [if_neg h2]
      split at h
      · cases h
      · rename_i h3
        rw [if_neg h3]
        split at h
        · cases h
        · rename_i h4
          rw [if_neg h4]
          cases hf : addF n ws d with
          | none => rw [hf] at h; cases h
          | some v =>
            obtain ⟨g1, g2⟩ := findF_ok hf
            exact ⟨v, rfl, by cases ha : addrs n ws <;> simp_all, g1, by omega, g2⟩
end Go.Proofs.YtaajkmjilcamgaaDoor
namespace Go.Proofs.YtaajkmjilcamgaaDoor
open Go.RowKit
def zsB : List Int := Lib.deBruijn32tab.map fun (n : Nat) => (n : Int)
theorem tabB_of {w : World} (h : ReadsV w "math/bits.deBruijn32tab" (Lib.tabData .u8 zsB)) : TabB w := by
  have ht : Lib.TabIs Tryd.prog w "math/bits.deBruijn32tab" .u8 zsB :=
    tab_of_reads (g := 0) (t := 75) (e := 5) (m := 32) (by kernel_rfl) (by kernel_rfl) Tryd.underlying75 Tryd.underlying5 (by kernel_rfl) (by kernel_rfl) h
  intro j hj
  have hc := ht.cell (g := 0) (by kernel_rfl) j (by unfold zsB; rw [List.length_map]; exact hj)
  have e : zsB.getD j 0 = ((Lib.deBruijn32tab.getD j 0 : Nat) : Int) := by
    unfold zsB
    rw [List.getD_eq_getElem?_getD, List.getElem?_map, List.getD_eq_getElem?_getD, List.getElem?_eq_getElem hj]
    rfl
  rw [e] at hc
  exact hc
theorem tabB_lt {w : World} (h : TabB w) : 0 < w.heap.size := by
  have hc := h 0 (by decide)
  rcases Nat.lt_or_ge 0 w.heap.size with q | q
  · exact q
  · unfold World.cell? at hc
    simp [Array.getElem?_eq_none q] at hc
end Go.Proofs.YtaajkmjilcamgaaDoor
namespace Go.Proofs.YtaajkmjilcamgaaDoor
open Go.RowKit
theorem letN_all {n : Int} {s : ByteArray} : ∀ m i, (∀ j, i ≤ j → j < i + m → 97 ≤ chr s j ∧ chr s j ≤ 97 + n - 1) → letN n s i m = true := by
  intro m
  induction m with
  | zero => intro i _; rfl
  | succ m ih =>
    intro i h
    rw [letN_true (h i (Nat.le_refl _) (by omega))]
    exact ih (i + 1) fun j h1 h2 => h j (by omega) (by omega)
theorem allW_wordB {s r : Nat} (hs : s ≤ 4) (h1 : 1 ≤ r) (h8 : r ≤ 8) {w : ByteArray} (h : w ∈ allW s r) : wordB 4 w = true := by
  have hz := allW_size h
  unfold wordB
  rw [letN_all w.size 0 (fun j _ hj => by
    obtain ⟨c, hc, e⟩ := allW_let (by omega) h j (by omega)
    omega), decide_eq_true (show 1 ≤ w.size ∧ w.size ≤ 8 by omega)]
  rfl
theorem dist_ok {a b : ByteArray} (ha : wordB 4 a = true) (hb : wordB 4 b = true) (h : a.size = b.size) : distR a b = (farB a b, 0) := by
  unfold distR
  rw [if_neg (by rw [ha, hb]; simp), if_pos h]
end Go.Proofs.YtaajkmjilcamgaaDoor
