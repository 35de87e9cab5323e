/-
  What is drawn for the law of the nearest address.
-/
import Derived.Test.YtofjnmeblmbnmaaNeaN
import Derived.Test.YtofjnmeblmbnmaaSrc13
namespace Go.Proofs.Ytofjnmeblmbnmaa
open Go.RowKit
/-- Signs and words that are small, the words in a slice with room for c. -/
structure WOk (sg : Int) (ws : List ByteArray) (c : Nat) : Prop where
  sgn : -9223372036854775808 ≤ sg ∧ sg ≤ 9223372036854775807
  len : ws.length ≤ 50
  small : ∀ s ∈ ws, s.size ≤ 9
  cap : ws.length ≤ c ∧ c ≤ 9223372036854775807
theorem WdSt.cap {b : Nat} {bs : List Int} {N : Int} {w wr : World} {gb cb : Nat} {ws : List ByteArray} (h : WdSt b bs N w wr gb cb ws) : ws.length ≤ cb ∧ cb ≤ 9223372036854775807 := by
  obtain ⟨A, c, he, h1, h2⟩ := own_shape h.row
  simp only [Value.slice.injEq] at he
  obtain ⟨_, _, rfl⟩ := he
  exact ⟨h1, by unfold maxLen at h2; omega⟩
theorem WdSt.rd {b : Nat} {bs : List Int} {N : Int} {w wr : World} {gb cb : Nat} {ws : List ByteArray} (h : WdSt b bs N w wr gb cb ws) : RdS wr wr.heap.size (some ⟨gb, 0, none⟩) ws := RdS.of_own h.row
set_option maxRecDepth 100000 in
theorem l00MinN_any (a b : Int) (w : World) : Calls Try.prog 29 #[.int .i64 a, .int .i64 b] w fun e w' => e = .returned (.int .i64 (min a b)) ∧ w = w' := by
  by_cases h : a < b
  · have e : min a b = a := by omega
    rw [e]
    have hB : decide (a < b) = true := decide_eq_true h
    go_enter Try.func29, Try.ntmps29
    go_wp2_with fail
    go_ret
    exact ⟨rfl, rfl⟩
  · have e : min a b = b := by omega
    rw [e]
    have hB : decide (a < b) = false := decide_eq_false h
    go_enter Try.func29, Try.ntmps29
    go_wp2_with fail
    go_ret
    exact ⟨rfl, rfl⟩
theorem l00MaxN_any (a b : Int) (w : World) : Calls Try.prog 28 #[.int .i64 a, .int .i64 b] w fun e w' => e = .returned (.int .i64 (max a b)) ∧ w = w' := by
  by_cases h : a > b
  · have e : max a b = a := by omega
    rw [e]
    have hB : decide (b < a) = true := decide_eq_true h
    go_enter Try.func28, Try.ntmps28
    go_wp2_with fail
    go_ret
    exact ⟨rfl, rfl⟩
  · have e : max a b = b := by omega
    rw [e]
    have hB : decide (b < a) = false := decide_eq_false h
    go_enter Try.func28, Try.ntmps28
    go_wp2_with fail
    go_ret
    exact ⟨rfl, rfl⟩
set_option maxRecDepth 100000 in
set_option maxHeartbeats 8000000 in
theorem drawNearest_any (bs : List Int) (A : Option Addr) (c : Nat) (w : World) (hbs : BsOk bs) (h1 : RdB w w.heap.size A bs) :
    Calls Try.prog 5 #[.slice A bs.length c] w fun e w' => ∃ (sg : Int) (A' : Option Addr) (c' : Nat) (ws : List ByteArray) (s : ByteArray), e = .returned (.tuple #[.int .i64 sg, .slice A' ws.length c', .string s]) ∧ WOk sg ws c' ∧ s.size ≤ 9 ∧ RdS w' w'.heap.size A' ws ∧ Below w.heap.size w w' := by
  have HF := hide (l00From_any bs A c w hbs.1 h1)
  have HT := hide fun W (hW : SrcAt w.heap.size bs 0 W) => draw05_any w.heap.size bs 0 W hbs (by omega) hW
  have HO1 := hide fun M n W (hM : M ≤ 1099511000000) (hW : SrcAt w.heap.size bs M W) => one_any w.heap.size bs M n W hbs hM hW
  have HDW := hide fun M sg rn W (hM : M ≤ 1099510000000) hsg hrn (hW : SrcAt w.heap.size bs M W) => drawWord_any w.heap.size bs M sg rn W hbs hM hsg hrn hW
  clear h1
  go_enter Try.func5, Try.ntmps5
  go_upto_if 18 with (first | (go_at_call 23; (with_reducible refine (HF.out).mono ?_); rintro e w1 ⟨rfl, hs1, hz1, hb1⟩; have HS := hide hs1; have hz1a := Nat.le_of_eq hz1.symm; clear hs1 hz1) | (go_at_call 24; (with_reducible refine (HT.out _ HS.out).mono ?_); rintro e w2 ⟨sg, gb, cb, ws, rfl, hsg, hl50, hW2⟩; have HW2 := hide hW2; clear hW2))
  have HB1 := hide hb1
  have hbl : w.heap.size < w1.heap.size := by omega
  obtain ⟨hsg1, hsg2⟩ := hsg
  clear hb1
  go_cut [8] (fun c8 wx => ∃ rn : Nat, c8 = .int .i64 (rn : Int) ∧ rn ≤ 9 ∧ w2 = wx)
  case first =>
    by_cases hl : 0 < ws.length
    · obtain ⟨g9, o9, s0, hA, _, hs0, hc0⟩ := HW2.out.rd.at_ hl
      cases hA
      have hs09 := HW2.out.small s0 (List.mem_of_getElem? hs0)
      have hli : (0 : Int) < (ws.length : Int) := by omega
      rw [Nat.add_zero] at hc0
      clear hs0
      go_wp2_with fail
      go_meet
      exact ⟨s0.size, rfl, hs09, rfl⟩
    · have hli : decide ((0 : Int) < (ws.length : Int)) = false := decide_eq_false (by omega)
      have hln : ¬ 0 < ws.length := hl
      go_wp2_with fail
      go_meet
      exact ⟨3, rfl, by omega, rfl⟩
  case rest =>
    obtain ⟨rn, rfl, hrn, rfl⟩ := hcut
    go_upto_if 24 with (go_at_call 25; (with_reducible refine (HO1.out (0 + 1000) 8 _ (by omega) HW2.out.src).mono ?_); rintro e w3 ⟨v3, rfl, hs3, ho3⟩)
    have HW3 := hide (HW2.out.src2 hbl hs3 ho3)
    clear hs3 ho3 HW2
    cases v3
    · go_wp2_with (first | (go_at_call 29; (with_reducible refine (l00MinN_any _ _ _).mono ?_); rintro e w' ⟨rfl, rfl⟩) | (go_at_call 28; (with_reducible refine (l00MaxN_any _ _ _).mono ?_); rintro e w' ⟨rfl, rfl⟩) | (go_at_call 27; (with_reducible refine (HDW.out (0 + 1000 + 2) (max 1 (min 4 sg)) rn _ (by omega) ⟨by omega, by omega⟩ (by omega) HW3.out.src).mono ?_); rintro e w4 ⟨s, rfl, hss, hs4, ho4⟩))
      have HW4 := hide (HW3.out.src2 hbl hs4 ho4)
      refine bodyPost_ret (v := .tuple #[.int .i64 sg, .slice (some ⟨gb, 0, none⟩) ws.length cb, .string s]) (by simp [results, Try.results5, go_sem]) rfl ?_
      exact ⟨sg, some ⟨gb, 0, none⟩, cb, ws, s, rfl, ⟨⟨hsg1, hsg2⟩, hl50, HW4.out.small, HW4.out.cap⟩, by omega, HW4.out.rd, below_src' HB1.out HW4.out.only⟩
    · have H2 := textLit_any w.heap.size bs (0 + 1000 + 2) [⟨#[]⟩, ⟨#[97]⟩, ⟨#[101]⟩, ⟨#[97, 98, 99, 100]⟩, ⟨#[97, 97, 97, 97, 97, 97, 97, 97, 97]⟩] w3 hbs (by omega) HW3.out.src (by simp) (by simp)
      simp only [List.map_cons, List.map_nil, List.length_cons, List.length_nil, Nat.zero_add, Nat.reduceAdd] at H2
      have HTX2 := hide H2
      clear H2
      go_wp2_with (go_at_call 26; (with_reducible refine (HTX2.out).mono ?_); rintro e w8 ⟨y, rfl, hy, hs8, ho8⟩; have HW8 := hide (HW3.out.src2 hbl hs8 ho8); have HY := hide hy; clear hs8 ho8 hy)
      refine bodyPost_ret (v := .tuple #[.int .i64 sg, .slice (some ⟨gb, 0, none⟩) ws.length cb, .string y]) (by simp [results, Try.results5, go_sem]) rfl ?_
      exact ⟨sg, some ⟨gb, 0, none⟩, cb, ws, y, rfl, ⟨⟨hsg1, hsg2⟩, hl50, HW8.out.small, HW8.out.cap⟩, by have := HY.out; simp at this; rcases this with rfl | rfl | rfl | rfl | rfl <;> decide, HW8.out.rd, below_src' HB1.out HW8.out.only⟩
set_option maxRecDepth 100000 in
set_option maxHeartbeats 8000000 in
theorem drawDistance_any (bs : List Int) (A : Option Addr) (c : Nat) (w : World) (hbs : BsOk bs) (h1 : RdB w w.heap.size A bs) :
    Calls Try.prog 12 #[.slice A bs.length c] w fun e w' => ∃ (s t : ByteArray), e = .returned (.tuple #[.string s, .string t]) ∧ s.size ≤ 9 ∧ t.size ≤ 9 ∧ Below w.heap.size w w' := by
  have HF := hide (l00From_any bs A c w hbs.1 h1)
  have HP := hide fun M n W (hM : M ≤ 1099511000000) (hW : SrcAt w.heap.size bs M W) => pick_any w.heap.size bs M n W hbs hM hW
  have HO1 := hide fun M n W (hM : M ≤ 1099511000000) (hW : SrcAt w.heap.size bs M W) => one_any w.heap.size bs M n W hbs hM hW
  have HDW := hide fun M sg rn W (hM : M ≤ 1099510000000) hsg hrn (hW : SrcAt w.heap.size bs M W) => drawWord_any w.heap.size bs M sg rn W hbs hM hsg hrn hW
  clear h1
  go_enter Try.func12, Try.ntmps12
  go_upto_region 3 with (first | (go_at_call 23; (with_reducible refine (HF.out).mono ?_); rintro e w1 ⟨rfl, hs1, hz1, hb1⟩; have HS := hide hs1; have hz1a := Nat.le_of_eq hz1.symm; clear hs1 hz1) | (go_at_call 38; (with_reducible refine (HP.out 0 8 _ (by omega) HS.out).mono ?_); rintro e w2 ⟨z2, rfl, ⟨hz2, hz2', _⟩, hs2, ho2⟩))
  have hz2' := hz2' (by omega)
  obtain ⟨r2, rfl⟩ := Int.eq_ofNat_of_zero_le hz2
  have HS2 := hide hs2
  have HQ2 := hide ho2
  have HB1 := hide hb1
  have hcr : ((1 + r2 : Nat) : Int) = 1 + (r2 : Int) := by omega
  have hw := HDW.out (0 + 2) 4 (1 + r2) w2 (by omega) ⟨by omega, by omega⟩ (by omega) HS2.out
  rw [hcr] at hw
  have HW := hide hw
  clear hs2 ho2 hb1 hw
  go_upto_if 16 with (first | (go_at_call 27; (with_reducible refine (HW.out).mono ?_); rintro e w3 ⟨s, rfl, hss, hs3, ho3⟩; have HS3 := hide hs3; have HQ3 := hide (only_trans HQ2.out ho3); clear hs3 ho3) | (go_at_call 25; (with_reducible refine (HO1.out (0 + 2 + 20) 8 _ (by omega) HS3.out).mono ?_); rintro e w4 ⟨v4, rfl, hs4, ho4⟩; have HS4 := hide hs4; have HQ4 := hide (only_trans HQ3.out ho4); clear hs4 ho4))
  cases v4
  · have hw := HDW.out (0 + 2 + 20 + 2) 4 (1 + r2) w4 (by omega) ⟨by omega, by omega⟩ (by omega) HS4.out
    rw [hcr] at hw
    have HW4 := hide hw
    clear hw hcr
    go_wp2_with (go_at_call 27; (with_reducible refine (HW4.out).mono ?_); rintro e w5 ⟨t, rfl, htt, hs5, ho5⟩)
    go_ret2
    exact ⟨s, t, rfl, by omega, by omega, below_src' HB1.out (only_trans HQ4.out ho5)⟩
  · have H2 := textLit_any w.heap.size bs (0 + 2 + 20 + 2) [⟨#[]⟩, ⟨#[97]⟩, ⟨#[101]⟩, ⟨#[97, 98, 99, 100, 97, 98, 99, 100, 97]⟩, ⟨#[97, 98, 99, 100, 97, 98, 99, 100]⟩] w4 hbs (by omega) HS4.out (by simp) (by simp)
    simp only [List.map_cons, List.map_nil, List.length_cons, List.length_nil, Nat.zero_add, Nat.reduceAdd] at H2
    have HTX2 := hide H2
    clear H2 hcr
    go_wp2_with (go_at_call 26; (with_reducible refine (HTX2.out).mono ?_); rintro e w8 ⟨y, rfl, hy, hs8, ho8⟩; have HY := hide hy; clear hy)
    go_ret2
    exact ⟨s, y, rfl, by omega, by have := HY.out; simp at this; rcases this with rfl | rfl | rfl | rfl | rfl <;> decide, below_src' HB1.out (only_trans HQ4.out ho8)⟩
set_option maxRecDepth 100000 in
set_option maxHeartbeats 8000000 in
theorem drawMisread_any (bs : List Int) (A : Option Addr) (c : Nat) (w : World) (hbs : BsOk bs) (h1 : RdB w w.heap.size A bs) :
    Calls Try.prog 15 #[.slice A bs.length c] w fun e w' => ∃ (sg : Int) (A' : Option Addr) (c' : Nat) (ws : List ByteArray) (k r : Int), e = .returned (.tuple #[.int .i64 sg, .slice A' ws.length c', .int .i64 k, .int .i64 r]) ∧ WOk sg ws c' ∧ RdS w' w'.heap.size A' ws ∧ Below w.heap.size w w' := by
  have HF := hide (l00From_any bs A c w hbs.1 h1)
  have HT := hide fun W (hW : SrcAt w.heap.size bs 0 W) => draw05_any w.heap.size bs 0 W hbs (by omega) hW
  have HP := hide fun M n W (hM : M ≤ 1099511000000) (hW : SrcAt w.heap.size bs M W) => pick_any w.heap.size bs M n W hbs hM hW
  have HO1 := hide fun M n W (hM : M ≤ 1099511000000) (hW : SrcAt w.heap.size bs M W) => one_any w.heap.size bs M n W hbs hM hW
  clear h1
  go_enter Try.func15, Try.ntmps15
  go_upto_region 3 with (first | (go_at_call 23; (with_reducible refine (HF.out).mono ?_); rintro e w1 ⟨rfl, hs1, hz1, hb1⟩; have HS := hide hs1; have hz1a := Nat.le_of_eq hz1.symm; clear hs1 hz1) | (go_at_call 24; (with_reducible refine (HT.out _ HS.out).mono ?_); rintro e w2 ⟨sg, gb, cb, ws, rfl, hsg, hl50, hW2⟩; have HW2 := hide hW2; clear hW2))
  have HB1 := hide hb1
  have hbl : w.heap.size < w1.heap.size := by omega
  obtain ⟨hsg1, hsg2⟩ := hsg
  clear hb1
  go_upto_if 27 with (first | (go_at_call 38; (with_reducible refine (HP.out (0 + 1000) ((ws.length : Int) + 1) _ (by omega) HW2.out.src).mono ?_); rintro e w3 ⟨z3, rfl, ⟨hz3, hz3', _⟩, hs3, ho3⟩; have hz3' := hz3' (by omega); have HW3 := hide (HW2.out.src2 hbl hs3 ho3); clear hs3 ho3) | (go_at_call 38; (with_reducible refine (HP.out (0 + 1000 + 2) 16 _ (by omega) HW3.out.src).mono ?_); rintro e w4 ⟨z4, rfl, ⟨hz4, hz4', _⟩, hs4, ho4⟩; have hz4' := hz4' (by omega); have HW4 := hide (HW3.out.src2 hbl hs4 ho4); clear hs4 ho4) | (go_at_call 25; (with_reducible refine (HO1.out (0 + 1000 + 2 + 2) 8 _ (by omega) HW4.out.src).mono ?_); rintro e w5 ⟨v5, rfl, hs5, ho5⟩; have HW5 := hide (HW4.out.src2 hbl hs5 ho5); clear hs5 ho5))
  cases v5
  · go_wp2_with (go_at_call 38; (with_reducible refine (HP.out (0 + 1000 + 2 + 2 + 2) 4 _ (by omega) HW5.out.src).mono ?_); rintro e w6 ⟨z6, rfl, _, hs6, ho6⟩)
    have HW6 := hide (HW5.out.src2 hbl hs6 ho6)
    refine bodyPost_ret (v := .tuple #[.int .i64 sg, .slice (some ⟨gb, 0, none⟩) ws.length cb, .int .i64 (z3 - z4 / 15), .int .i64 z6]) (by simp [results, Try.results15, go_sem]) rfl ?_
    exact ⟨sg, some ⟨gb, 0, none⟩, cb, ws, _, _, rfl, ⟨⟨hsg1, hsg2⟩, hl50, HW6.out.small, HW6.out.cap⟩, HW6.out.rd, below_src' HB1.out HW6.out.only⟩
  · have H2 := amongLit_any w.heap.size bs (0 + 1000 + 2 + 2 + 2) [-1, 0, 8, 9] w5 hbs (by omega) HW5.out.src (by simp) (by simp)
    simp only [List.map_cons, List.map_nil, List.length_cons, List.length_nil, Nat.zero_add, Nat.reduceAdd] at H2
    have HTX2 := hide H2
    clear H2
    go_wp2_with (go_at_call 39; (with_reducible refine (HTX2.out).mono ?_); rintro e w8 ⟨y, rfl, hy, hs8, ho8⟩; have HW8 := hide (HW5.out.src2 hbl hs8 ho8); have HY := hide hy; clear hs8 ho8 hy)
    refine bodyPost_ret (v := .tuple #[.int .i64 sg, .slice (some ⟨gb, 0, none⟩) ws.length cb, .int .i64 (z3 - z4 / 15), .int .i64 y]) (by simp [results, Try.results15, go_sem]) rfl ?_
    exact ⟨sg, some ⟨gb, 0, none⟩, cb, ws, _, _, rfl, ⟨⟨hsg1, hsg2⟩, hl50, HW8.out.small, HW8.out.cap⟩, HW8.out.rd, below_src' HB1.out HW8.out.only⟩
set_option maxRecDepth 100000 in
theorem specValidAddr_any (n : Int) (ws : List ByteArray) (A : Option Addr) (c : Nat) (w : World) (hwl : ws.length ≤ 1048576) (hsz : ∀ s ∈ ws, s.size ≤ 1048576) (hr : RdS w w.heap.size A ws) :
    Calls Try.prog 22 #[.int .i64 n, .slice A ws.length c] w fun e w' => e = .returned (.bool (addrs n ws)) ∧ ∃ m, w' = w.drewN m := by
  have HV := hide (l05Ok_any n ws A c w hwl hsz hr)
  clear hr hsz
  go_enter Try.func22, Try.ntmps22
  go_wp2_with (go_at_call 32; with_reducible refine (HV.out).mono ?_; rintro e w1 ⟨rfl, m0, rfl⟩)
  go_ret
  exact ⟨rfl, _, rfl⟩
end Go.Proofs.Ytofjnmeblmbnmaa
