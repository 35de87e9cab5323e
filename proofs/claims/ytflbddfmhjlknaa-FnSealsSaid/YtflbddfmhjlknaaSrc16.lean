/-
  Drawn stocks of carriers.
-/
import Derived.Test.YtflbddfmhjlknaaSrc15
import Derived.Test.YtflbddfmhjlknaaCarS
import Derived.Test.YtflbddfmhjlknaaRunS
namespace Go.Proofs.Ytflbddfmhjlknaa
open Go.RowKit
theorem sum_le {xs : List Int} {B : Int} : (∀ z ∈ xs, 0 ≤ z ∧ z ≤ B) → 0 ≤ xs.sum ∧ xs.sum ≤ B * xs.length := by
  induction xs with
  | nil => intro _; simp
  | cons x xs ih =>
    intro h
    have h1 := h x (List.mem_cons_self ..)
    have h2 := ih fun z hz => h z (List.mem_cons_of_mem _ hz)
    rw [List.sum_cons, List.length_cons]
    have e : B * ((xs.length + 1 : Nat) : Int) = B * xs.length + B := by rw [Int.natCast_add, Int.mul_add]; simp
    omega
set_option maxRecDepth 100000 in
set_option maxHeartbeats 4000000 in
theorem draw07_any (b : Nat) (bs : List Int) (N : Int) (w : World) (hbs : BsOk bs) (hN : N ≤ 1099510000000) (h : SrcAt b bs N w) :
    Calls Try.prog 84 #[.pointer (some ⟨b, 0, none⟩)] w fun e w' => ∃ (A : Option Addr) (c : Nat) (l : List Int), e = .returned (.slice A l.length c) ∧ w'.ownsRow w.heap.size 2 1 (.slice A l.length c) l.length (l.map (Value.int .i64)) ∧ ((1 ≤ l.length ∧ l.length ≤ 11) ∧ ∀ z ∈ l, -9223372036854775808 ≤ z ∧ z ≤ 9223372036854775807) ∧ SrcAt b bs (N + 20) w' ∧ Only b (b + 1) w w' := by
  obtain ⟨i0, hi0, hz0, hs0, hb0⟩ := info_parts int64_info
  have hbl := h.lt
  have HP := hide fun M n W (hM : M ≤ 1099511000000) (hW : SrcAt b bs M W) => pick_any b bs M n W hbs hM hW
  have HAM := hide fun M g o c xs W (hM : M ≤ 1099511000000) (hW : SrcAt b bs M W) => among_any b bs M g o c xs W hbs hM hW
  have h1 := hide (h.alloc (.cells #[] 2))
  clear h
  go_enter Try.func84, Try.ntmps84
  go_wp2_with (go_at_call 79; refine (HP.out N 4 _ (by omega) h1.out).mono ?_; rintro e w1 ⟨z, rfl, ⟨hz0', hz1', _⟩, hs1, ho1⟩)
  have hz6 := hz1' (by omega)
  obtain ⟨k0, rfl⟩ := Int.eq_ofNat_of_zero_le hz0'
  have hr1 := row_only (own_new0 w w.heap.size 2 1 (Nat.le_refl _)) ho1 (by omega)
  have o1 : Only b (b + 1) w w1 := only_trans (only_of_below ((Below.refl _ _).alloc (Nat.le_refl _) _)) ho1
  have HS1 := hide hs1
  clear hs1 h1 ho1 hz1'
  go_loopg [3, 4] (2 + k0) (fun g s i wr => ∃ (k : Nat) (acc : List Int) (gb cb : Nat), g = k ∧ i = .int .i64 k ∧ k + acc.length = 2 + k0 ∧ s = .slice (some ⟨gb, 0, none⟩) acc.length cb ∧ wr.ownsRow w.heap.size 2 1 (.slice (some ⟨gb, 0, none⟩) acc.length cb) acc.length (acc.map (Value.int .i64)) ∧ Hid (∀ z ∈ acc, 0 ≤ z ∧ z ≤ 5) ∧ Hid (SrcAt b bs (N + 2 + 2 * (acc.length : Int)) wr) ∧ Hid (Only b (b + 1) w wr))
  case atStart => exact ⟨2 + k0, [], w.heap.size, 0, rfl, by go_num, by simp, rfl, hr1, by simp [Hid], HS1.out.more (by simp), o1⟩
  case round =>
    obtain ⟨k, acc, gb, cb, hg, rfl, hka, rfl, hown, HA, HS, HO⟩ := hrel
    clear hr1 HS1 o1
    have HG := hide hg
    clear hg
    have hka1 : k + acc.length ≤ 2 + k0 := by omega
    have hka2 : 2 + k0 ≤ k + acc.length := by omega
    clear hka
    by_cases hlt : 0 < k
    · have hkn : (0 : Int) < (k : Int) := by omega
      have hzw := HO.out.size
      have HC := hide (HP.out (N + 2 + 2 * (acc.length : Int)) 6 _ (by omega) HS.out)
      go_wp2_with (first | (go_at_call 79; refine (HC.out).mono ?_; rintro e w2 ⟨y, rfl, ⟨hy0, hy1', _⟩, hs2, ho2⟩; have hy1 := hy1' (by omega); have hr2 := row_only hown ho2 (by omega); have oo2 := only_trans HO.out ho2; have hz2 := ho2.size) | (at_builtin; go_must (refine wp_app _ rfl _ _ 30 rfl (w.heap.size) 2 i0 (.int .i64 0) 1 8 Try.underlying30 hi0 hz0 hs0 hb0 rfl (by decide) _ _ _ rfl (hr2.alloc _) _ _ 1 1 [.int .i64 y] rfl rfl (rd_new _ _ _ _ (by first | rfl | simp)) (int_one _) (by omega) (by decide) (by first | omega | (simp <;> omega) | (simp; omega)) ?_); intro v4 w4 hown4 hgrow4 hat4))
      have oA := hr2.alloc (.cells #[.int .i64 y] 2)
      have o4 := only_app (only_alloc oo2 (.cells #[.int .i64 y] 2)) oA hgrow4 (Nat.le_refl _)
      have s4 := (hs2.alloc (.cells #[.int .i64 y] 2)).grown hgrow4 (fun g e => by have := (oA.lt g e).1; omega)
      obtain ⟨A9, c9, rfl, _⟩ := own_shape hown4
      obtain ⟨g9, rfl, _, _⟩ : ∃ g, A9 = some ⟨g, 0, none⟩ ∧ w.heap.size ≤ g ∧ g < w4.heap.size := by
        rcases own_block hown4 with ⟨_, h0, _⟩ | h0
        · omega
        · exact h0
      go_roundg (k - 1)
      case measure => have := HG.out; omega
      case rel =>
        refine ⟨k - 1, acc ++ [y], g9, c9, rfl, ?_, by simp; omega, by simp, by rw [List.length_append, List.map_append]; exact hown4, ?_, s4.more (by simp; omega), o4⟩
        · congr 1; omega
        · intro z hz
          rcases List.mem_append.1 hz with hz | hz
          · exact HA.out z hz
          · rw [List.mem_singleton] at hz; subst hz; omega
    · obtain rfl : k = 0 := by omega
      have hzw := HO.out.size
      have HROW := hide hown
      have HC := hide (HP.out (N + 2 + 2 * (acc.length : Int)) 20 _ (by omega) HS.out)
      have hgb := (hown.lt gb rfl).1
      have hcb : acc.length ≤ cb := by
        obtain ⟨_, _, e, h, _⟩ := own_shape hown
        simp only [Value.slice.injEq] at e
        omega
      clear hown HS
      go_upto_if 20 with (go_at_call 79; (with_reducible refine (HC.out).mono ?_); rintro e w2 ⟨v, rfl, _, hs2, ho2⟩)
      have HR2 := hide (row_only HROW.out ho2 (by omega))
      have HS2 := hide hs2
      have HO2 := hide (only_trans HO.out ho2)
      have hz2 := ho2.size
      have hg2 := (HR2.out.lt gb rfl).2
      clear hs2 ho2 HC HROW HO
      obtain ⟨y0, rest, rfl⟩ : ∃ y0 rest, acc = y0 :: rest := by
        cases acc with
        | nil => simp at hka2
        | cons y r => exact ⟨y, r, rfl⟩
      by_cases hv0 : v = 0
      · subst hv0
        have hb5 := sum_le (xs := rest) (B := 5) (fun z hz => HA.out z (List.mem_cons_of_mem _ hz))
        have hrl : rest.length ≤ 4 := by simp at hka1; omega
        have hsm0 := hb5.1
        have hsm1 : rest.sum ≤ 20 := by omega
        have HSUM := hide (l00Sum_any rest (some ⟨gb, 0 + 1, none⟩) (cb - 1) w2 (by omega) (fun z hz => by have := HA.out z (List.mem_cons_of_mem _ hz); omega) (by have h := RdI.drop (Rd.of_own HR2.out) 1; exact h))
        have e1 : (y0 :: rest).length - 1 = rest.length := by simp
        clear hb5
        generalize rest.sum = sm at *
        have hwn : IntKind.i64.wrap (200 - sm) = 200 - sm := by rw [IntKind.wrap_i64] <;> omega
        have HS4 := hide (HS2.out.alloc (.cells #[.int .i64 (-1), .int .i64 0, .int .i64 (200 - sm), .int .i64 200, .int .i64 201, .int .i64 (-9223372036854775808)] 2))
        have HR4 := hide (HR2.out.alloc (.cells #[.int .i64 (-1), .int .i64 0, .int .i64 (200 - sm), .int .i64 200, .int .i64 201, .int .i64 (-9223372036854775808)] 2))
        have HO4 := hide (only_alloc HO2.out (.cells #[.int .i64 (-1), .int .i64 0, .int .i64 (200 - sm), .int .i64 200, .int .i64 201, .int .i64 (-9223372036854775808)] 2))
        have ham : Calls Try.prog 93 #[.pointer (some ⟨b, 0, none⟩), .slice (some ⟨w2.heap.size, 0, none⟩) 6 6] (w2.alloc (.cells #[.int .i64 (-1), .int .i64 0, .int .i64 (200 - sm), .int .i64 200, .int .i64 201, .int .i64 (-9223372036854775808)] 2)) fun e w' => ∃ z, e = .returned (.int .i64 z) ∧ z ∈ ([(-1), 0, 200 - sm, 200, 201, -9223372036854775808] : List Int) ∧ SrcAt b bs (N + 2 + 2 * ((y0 :: rest).length : Int) + 2 + 2) w' ∧ Only b (b + 1) (w2.alloc (.cells #[.int .i64 (-1), .int .i64 0, .int .i64 (200 - sm), .int .i64 200, .int .i64 201, .int .i64 (-9223372036854775808)] 2)) w' := HAM.out (N + 2 + 2 * ((y0 :: rest).length : Int) + 2) w2.heap.size 0 6 ([(-1), 0, 200 - sm, 200, 201, -9223372036854775808] : List Int) _ (by omega) HS4.out (by omega) (by simp) (by simp) (by simp) (fun j z hj => by
            match j, hj with
            | 0, hj => simp at hj; subst hj; simp [go_sem]
            | 1, hj => simp at hj; subst hj; simp [go_sem]
            | 2, hj => simp at hj; subst hj; simp [go_sem]
            | 3, hj => simp at hj; subst hj; simp [go_sem]
            | 4, hj => simp at hj; subst hj; simp [go_sem]
            | 5, hj => simp at hj; subst hj; simp [go_sem]
            | j + 6, hj => simp at hj)
        have HAMH := hide ham
        clear ham
        rw [List.length_cons] at *
        go_wp2_with (first | (go_at_call 108; (with_reducible refine (HSUM.out).mono ?_); rintro e' w3 ⟨rfl, rfl⟩) | (go_at_call 93; (with_reducible refine (HAMH.out).mono ?_); rintro e w4 ⟨z, rfl, hz, hs4, ho4⟩; have HR5 := hide (row_only HR4.out ho4 (by omega)); have c5 : w4.cell? ⟨gb, 0, none⟩ = some (.int .i64 y0) := (by rw [HR5.out.cellAt 0 (by simp)]; rfl); have f5 := HR5.out.frozenAt 0; have HST := hide (HR5.out.stored 0 (.int .i64 z))))
        go_ret
        have hzb : -9223372036854775808 ≤ z ∧ z ≤ 9223372036854775807 := by simp at hz; omega
        refine ⟨_, _, z :: rest, by rw [List.length_cons]; rfl, HST.out.1, ⟨⟨by simp, by simp; omega⟩, fun u hu => ?_⟩, (hs4.grown HST.out.2 (fun g h => by have h0 : (some gb : Option Nat) = some g := h; have h1 := Option.some.inj h0; omega)).more (by omega), only_grown (only_trans HO4.out ho4) HST.out.2 (fun g h => by have h0 : (some gb : Option Nat) = some g := h; have h1 := Option.some.inj h0; omega)⟩
        rcases List.mem_cons.1 hu with rfl | hu
        · exact hzb
        · have := HA.out u (List.mem_cons_of_mem _ hu); omega
      · have hB0 : (v == 0) = false := by simp [hv0]
        by_cases hv1 : v = 1
        · subst hv1
          have HS4 := hide (HS2.out.alloc (.cells #[.int .i64 1, .int .i64 2, .int .i64 10, .int .i64 11] 2))
          have HO4 := hide (only_alloc HO2.out (.cells #[.int .i64 1, .int .i64 2, .int .i64 10, .int .i64 11] 2))
          have ham : Calls Try.prog 93 #[.pointer (some ⟨b, 0, none⟩), .slice (some ⟨w2.heap.size, 0, none⟩) 4 4] (w2.alloc (.cells #[.int .i64 1, .int .i64 2, .int .i64 10, .int .i64 11] 2)) fun e w' => ∃ z, e = .returned (.int .i64 z) ∧ z ∈ ([1, 2, 10, 11] : List Int) ∧ SrcAt b bs (N + 2 + 2 * ((y0 :: rest).length : Int) + 2 + 2) w' ∧ Only b (b + 1) (w2.alloc (.cells #[.int .i64 1, .int .i64 2, .int .i64 10, .int .i64 11] 2)) w' := HAM.out (N + 2 + 2 * ((y0 :: rest).length : Int) + 2) w2.heap.size 0 4 ([1, 2, 10, 11] : List Int) _ (by omega) HS4.out (by omega) (by simp) (by simp) (by simp) (fun j z hj => by
              match j, hj with
              | 0, hj => simp at hj; subst hj; simp [go_sem]
              | 1, hj => simp at hj; subst hj; simp [go_sem]
              | 2, hj => simp at hj; subst hj; simp [go_sem]
              | 3, hj => simp at hj; subst hj; simp [go_sem]
              | j + 4, hj => simp at hj)
          have HAMH := hide ham
          clear ham
          have hzz : w.heap.size ≤ w2.heap.size + 1 := by omega
          go_wp2_with (first | (go_at_call 93; (with_reducible refine (HAMH.out).mono ?_); rintro e w4 ⟨z, rfl, hz, hs4, ho4⟩; obtain ⟨n, rfl, hn1, hn11⟩ : ∃ n : Nat, z = n ∧ 1 ≤ n ∧ n ≤ 11 := (by simp at hz; exact ⟨z.toNat, by omega, by omega, by omega⟩); have hz4 : w.heap.size ≤ w4.heap.size := (by have := ho4.size; simp at this; omega); have HS5 := hide hs4; have HO5 := hide ho4; clear hz hs4 ho4) | (refine wpList_make_full _ rfl _ _ _ rfl w.heap.size 2 i0 _ 1 Try.underlying30 hi0 hz0 hs0 .i64 .i64 (n : Int) (n : Int) n rfl rfl rfl rfl (by rw [hb0]; omega) (by unfold maxLen; omega) hz4 ?_; intro w5 hown5 hgr5))
          go_ret
          have hrow : w5.ownsRow w.heap.size 2 1 (.slice (some ⟨w4.heap.size, 0, none⟩) n n) n ((List.replicate n (0 : Int)).map (Value.int .i64)) := by
            have h := made_ints n
            rw [← h]; exact hown5
          refine ⟨some ⟨w4.heap.size, 0, none⟩, n, List.replicate n 0, by rw [List.length_replicate]; rfl, by rw [List.length_replicate]; exact hrow, ⟨⟨by rw [List.length_replicate]; exact hn1, by rw [List.length_replicate]; exact hn11⟩, fun u hu => by rw [List.eq_of_mem_replicate hu]; omega⟩, (HS5.out.grown hgr5 (fun g h => by cases h)).more (by omega), only_grown (only_trans HO4.out HO5.out) hgr5 (fun g h => by cases h)⟩
        · have hB1 : (v == 1) = false := by simp [hv1]
          have HV := hide hv0
          have HV1 := hide hv1
          clear hv0 hv1
          go_wp2_with fail
          go_ret
          exact ⟨_, _, y0 :: rest, rfl, HR2.out, ⟨⟨by simp, by omega⟩, fun u hu => by have := HA.out u hu; omega⟩, HS2.out.more (by omega), HO2.out⟩
end Go.Proofs.Ytflbddfmhjlknaa
