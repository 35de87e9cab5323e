/-
  Drawn signs and addresses.
-/
import Derived.Test.YtofjnmeblmbnmaaNeaM
namespace Go.Proofs.Ytofjnmeblmbnmaa
open Go.RowKit
theorem row_belowS {w w' : World} {base : Nat} {e : TypeId} {s n : Nat} {v : Value} {xs : List Value} (h : w.ownsRow base e s v n xs) (k : Below w.heap.size w w') : w'.ownsRow base e s v n xs := by
  refine ⟨h.1, ?_⟩
  rcases h.2 with h0 | ⟨g, cap, cur, he, hb, hg, rest⟩
  · exact .inl h0
  · exact .inr ⟨g, cap, cur, he, hb, (k.block g (lt_of_block hg)).trans hg, rest⟩
theorem strs_one (xs : List ByteArray) : ∀ u ∈ xs.map Value.string, u.oneCell' = true := by
  intro u hu
  obtain ⟨s, _, rfl⟩ := List.mem_map.1 hu
  rfl
/-- The words that are drawn so far. -/
structure WdSt (b : Nat) (bs : List Int) (N : Int) (w wr : World) (gb cb : Nat) (ws : List ByteArray) : Prop where
  row : wr.ownsRow w.heap.size 9 1 (.slice (some ⟨gb, 0, none⟩) ws.length cb) ws.length (ws.map Value.string)
  src : SrcAt b bs N wr
  only : Only b (b + 1) w wr
  small : ∀ s ∈ ws, s.size ≤ 9
theorem WdSt.far {b : Nat} {bs : List Int} {N : Int} {w wr w' : World} {gb cb : Nat} {ws : List ByteArray} (h : WdSt b bs N w wr gb cb ws) (hbl : b < w.heap.size) (k : Below wr.heap.size wr w') : WdSt b bs N w w' gb cb ws :=
  ⟨row_belowS h.row k, h.src.below k h.src.lt, only_trans h.only (only_of_below k), h.small⟩
theorem WdSt.src2 {b : Nat} {bs : List Int} {N N' : Int} {w wr w' : World} {gb cb : Nat} {ws : List ByteArray} (h : WdSt b bs N w wr gb cb ws) (hbl : b < w.heap.size) (hs : SrcAt b bs N' w') (k : Only b (b + 1) wr w') : WdSt b bs N' w w' gb cb ws :=
  ⟨row_only h.row k (by omega), hs, only_trans h.only k, h.small⟩
theorem WdSt.more {b : Nat} {bs : List Int} {N N' : Int} {w wr : World} {gb cb : Nat} {ws : List ByteArray} (h : WdSt b bs N w wr gb cb ws) (hN : N ≤ N') : WdSt b bs N' w wr gb cb ws := ⟨h.row, h.src.more hN, h.only, h.small⟩
theorem WdSt.push {b : Nat} {bs : List Int} {N : Int} {w wr w' : World} {gb cb : Nat} {ws : List ByteArray} {s : ByteArray} {v : Value} (h : WdSt b bs N w wr gb cb ws) (hbl : b < w.heap.size) (hs : s.size ≤ 9)
    (ho : w'.ownsRow w.heap.size 9 1 v (ws.length + 1) (ws.map Value.string ++ [.string s])) (hg : wr.grownBy w' (Value.slice (some ⟨gb, 0, none⟩) ws.length cb).ownBlock) :
    ∃ g c, v = .slice (some ⟨g, 0, none⟩) (ws ++ [s]).length c ∧ WdSt b bs N w w' g c (ws ++ [s]) := by
  obtain ⟨A9, c9, rfl, _⟩ := own_shape ho
  obtain ⟨g9, rfl, _, _⟩ : ∃ g, A9 = some ⟨g, 0, none⟩ ∧ w.heap.size ≤ g ∧ g < w'.heap.size := by
    rcases own_block ho with ⟨_, h0, _⟩ | h0
    · omega
    · exact h0
  refine ⟨g9, c9, by rw [List.length_append]; rfl, ?_, h.src.grown hg (fun g e => by have := (h.row.lt g e).1; omega), only_app h.only h.row hg (Nat.le_refl _), ?_⟩
  · rw [List.length_append, List.map_append]; exact ho
  · intro t ht
    rcases List.mem_append.1 ht with ht | ht
    · exact h.small t ht
    · rw [List.mem_singleton] at ht; rw [ht]; exact hs
theorem amongLit_any (b : Nat) (bs : List Int) (N : Int) (xs : List Int) (w : World) (hbs : BsOk bs) (hN : N ≤ 1099511000000) (h : SrcAt b bs N w) (hx0 : 1 ≤ xs.length) (hx1 : xs.length ≤ 1000) :
    Calls Try.prog 39 #[.pointer (some ⟨b, 0, none⟩), .slice (some ⟨w.heap.size, 0, none⟩) xs.length xs.length] (w.alloc (.cells (xs.map (Value.int .i64)).toArray 2)) fun e w' => ∃ z, e = .returned (.int .i64 z) ∧ z ∈ xs ∧ SrcAt b bs (N + 2) w' ∧ Only b (b + 1) w w' := by
  have hbl := h.lt
  refine (among_any b bs N w.heap.size 0 xs.length xs _ hbs hN (h.alloc _) (by omega) (by simp) hx0 hx1 (fun j z hj => ?_)).mono ?_
  · rw [cell_of_row _ w.heap.size (0 + j) _ _ _ (heap_alloc_new w (.cells (xs.map (Value.int .i64)).toArray 2))]
    simp [hj]
  · rintro e w' ⟨z, he, hz, hs, ho⟩
    exact ⟨z, he, hz, hs, only_trans (only_of_below ((Below.refl _ _).alloc (Nat.le_refl _) _)) ho⟩
theorem textLit_any (b : Nat) (bs : List Int) (N : Int) (xs : List ByteArray) (w : World) (hbs : BsOk bs) (hN : N ≤ 1099511000000) (h : SrcAt b bs N w) (hx0 : 1 ≤ xs.length) (hx1 : xs.length ≤ 1000) :
    Calls Try.prog 26 #[.pointer (some ⟨b, 0, none⟩), .slice (some ⟨w.heap.size, 0, none⟩) xs.length xs.length] (w.alloc (.cells (xs.map Value.string).toArray 9)) fun e w' => ∃ z, e = .returned (.string z) ∧ z ∈ xs ∧ SrcAt b bs (N + 2) w' ∧ Only b (b + 1) w w' := by
  have hbl := h.lt
  refine (textS_any b bs N w.heap.size 0 xs.length xs _ hbs hN (h.alloc _) (by omega) (by simp) hx0 hx1 (fun j z hj => ?_)).mono ?_
  · rw [cell_of_row _ w.heap.size (0 + j) _ _ _ (heap_alloc_new w (.cells (xs.map Value.string).toArray 9))]
    simp [hj]
  · rintro e w' ⟨z, he, hz, hs, ho⟩
    exact ⟨z, he, hz, hs, only_trans (only_of_below ((Below.refl _ _).alloc (Nat.le_refl _) _)) ho⟩
set_option maxRecDepth 100000 in
set_option maxHeartbeats 8000000 in
theorem draw05_any (b : Nat) (bs : List Int) (N : Int) (w : World) (hbs : BsOk bs) (hN : N ≤ 1099509000000) (h : SrcAt b bs N w) :
    Calls Try.prog 24 #[.pointer (some ⟨b, 0, none⟩)] w fun e w' => ∃ (sg : Int) (gb cb : Nat) (ws : List ByteArray), e = .returned (.tuple #[.int .i64 sg, .slice (some ⟨gb, 0, none⟩) ws.length cb]) ∧ (-9223372036854775808 ≤ sg ∧ sg ≤ 9223372036854775807) ∧ ws.length ≤ 50 ∧ WdSt b bs (N + 1000) w w' gb cb ws := by
  obtain ⟨i0, hi0, hz0, hs0, hb0⟩ := info_parts string_inf
  have hbl := h.lt
  have HP := hide fun M n W (hM : M ≤ 1099511000000) (hW : SrcAt b bs M W) => pick_any b bs M n W hbs hM hW
  have HO1 := hide fun M n W (hM : M ≤ 1099511000000) (hW : SrcAt b bs M W) => one_any b bs M n W hbs hM hW
  have HAM := hide fun M g o c xs W (hM : M ≤ 1099511000000) (hW : SrcAt b bs M W) => among_any b bs M g o c xs W hbs hM hW
  have HTX := hide fun M g o c xs W (hM : M ≤ 1099511000000) (hW : SrcAt b bs M W) => textS_any b bs M g o c xs W hbs hM hW
  have HDW := hide fun M sg rn W (hM : M ≤ 1099510000000) hsg hrn (hW : SrcAt b bs M W) => drawWord_any b bs M sg rn W hbs hM hsg hrn hW
  have h1 := hide h
  clear h
  go_enter Try.func24, Try.ntmps24
  go_upto_region 2 with (go_at_call 38; (with_reducible refine (HP.out N 3 _ (by omega) h1.out).mono ?_); rintro e w1 ⟨z1, rfl, ⟨hz1, hz1', _⟩, hs1, ho1⟩)
  have hz1' := hz1' (by omega)
  have HS1 := hide hs1
  have HQ1 := hide ho1
  clear hs1 ho1
  go_upto_region 3 with (go_at_call 38; (with_reducible refine (HP.out (N + 2) 6 _ (by omega) HS1.out).mono ?_); rintro e w2 ⟨z2, rfl, ⟨hz2, hz2', _⟩, hs2, ho2⟩)
  have hz2' := hz2' (by omega)
  have HQ2 := hide (only_trans HQ1.out ho2)
  have hw2 := HQ2.out.size
  have HW2 := hide (show WdSt b bs (N + 2 + 2) w (w2.alloc (.cells #[] 9)) w2.heap.size 0 [] from
    ⟨own_new0 w2 w.heap.size 9 1 hw2, hs2.alloc _, only_alloc HQ2.out _, fun s hs => by cases hs⟩)
  clear hs2 ho2 HS1 HQ1
  go_upto_region 4 with fail
  generalize hgw : w2.alloc (.cells #[] 9) = w3 at *
  have hgb : w2.heap.size < w3.heap.size := by rw [← hgw]; simp
  clear hgw
  generalize w2.heap.size = gb at *
  go_upto_region 5 with (go_at_call 38; (with_reducible refine (HP.out (N + 2 + 2) 9 _ (by omega) HW2.out.src).mono ?_); rintro e w4 ⟨z4, rfl, ⟨hz4, hz4', _⟩, hs4, ho4⟩)
  have hz4' := hz4' (by omega)
  have HW4 := hide (HW2.out.src2 hbl hs4 ho4)
  clear hs4 ho4 HW2
  go_upto_if 20 with (go_at_call 25; (with_reducible refine (HO1.out (N + 2 + 2 + 2) 20 _ (by omega) HW4.out.src).mono ?_); rintro e w5 ⟨v5, rfl, hs5, ho5⟩)
  have HW5 := hide (HW4.out.src2 hbl hs5 ho5)
  clear hs5 ho5 HW4
  go_cut [5, 7] (fun c5 c7 wx => ∃ rn n : Nat, c5 = .int .i64 (rn : Int) ∧ c7 = .int .i64 (n : Int) ∧ rn ≤ 8 ∧ n ≤ 43 ∧ Hid (WdSt b bs (N + 10) w wx gb 0 []))
  case first =>
    cases v5
    · go_wp2_with fail
      go_meet
      obtain ⟨r2, rfl⟩ := Int.eq_ofNat_of_zero_le hz2
      obtain ⟨r4, rfl⟩ := Int.eq_ofNat_of_zero_le hz4
      exact ⟨1 + r2, r4, by go_num, rfl, by omega, by omega, hide (HW5.out.more (by omega))⟩
    · go_wp2_with (go_at_call 38; (with_reducible refine (HP.out (N + 2 + 2 + 2 + 2) 3 _ (by omega) HW5.out.src).mono ?_); rintro e w6 ⟨z6, rfl, ⟨hz6, hz6', _⟩, hs6, ho6⟩; have hz6' := hz6' (by omega); have HW6 := hide (HW5.out.src2 hbl hs6 ho6); clear hs6 ho6)
      go_meet
      obtain ⟨r6, rfl⟩ := Int.eq_ofNat_of_zero_le hz6
      exact ⟨8, 40 + r6, rfl, by go_num, by omega, by omega, hide (HW6.out.more (by omega))⟩
  case rest =>
    obtain ⟨rn, n, rfl, rfl, hrn, hn, HW⟩ := hcut
    clear HW5 hgb
    go_wp2_with fail
    go_loopg [8, 6] n (fun g i ov wr => ∃ (k : Nat) (ws : List ByteArray) (g6 c6 : Nat), g = k ∧ i = .int .i64 k ∧ k ≤ n ∧ ws.length + k ≤ n ∧ ov = .slice (some ⟨g6, 0, none⟩) ws.length c6 ∧ Hid (WdSt b bs (N + 10 + 20 * ((n : Int) - (k : Int))) w wr g6 c6 ws))
    case atStart => exact ⟨n, [], gb, 0, rfl, rfl, Nat.le_refl _, by simp, rfl, hide (HW.out.more (by omega))⟩
    case round =>
      obtain ⟨k, ws, g6, c6, hg, rfl, hkn, hwk, rfl, HW6⟩ := hrel
      have HG := hide hg
      clear HW hg
      by_cases hlt : 0 < k
      · have hk0 : (0 : Int) < (k : Int) := by omega
        go_upto_region 12 with (go_at_call 27; (with_reducible refine (HDW.out (N + 10 + 20 * ((n : Int) - (k : Int))) (2 + z1) rn _ (by omega) ⟨by omega, by omega⟩ (by omega) HW6.out.src).mono ?_); rintro e w7 ⟨s, rfl, hss, hs7, ho7⟩)
        have HW7 := hide (HW6.out.src2 hbl hs7 ho7)
        have HSS := hide hss
        clear hs7 ho7 HW6 hss
        go_cut [45] (fun c wx => ∃ v : Bool, c = .bool v ∧ Hid (WdSt b bs (N + 10 + 20 * ((n : Int) - (k : Int)) + 20) w wx g6 c6 ws))
        case first =>
          have hz7 := Nat.le_refl w7.heap.size
          have hoE := own_new0 w7 w7.heap.size 9 1 (Nat.le_refl _)
          have hbE : Below w7.heap.size w7 (w7.alloc (.cells #[] 9)) := (Below.refl _ _).alloc (Nat.le_refl _) _
          have hrE : Rd (w7.alloc (.cells #[] 9)) (w7.heap.size + 1) (some ⟨g6, 0, none⟩) (ws.map Value.string) := ((Rd.of_own HW7.out.row).below hbE).more (by omega)
          have HL := hide fun (W : World) (A : Option Addr) (c : Nat) (hR : RdS W W.heap.size A (ws ++ [s])) => (show Calls Try.prog 32 #[.int .i64 (2 + z1), .slice A (ws.length + 1) c] W fun e w' => e = .returned (.bool (addrs (2 + z1) (ws ++ [s]))) ∧ ∃ m, w' = W.drewN m from by
            have hx := l05Ok_any (2 + z1) (ws ++ [s]) A c W (by rw [List.length_append, List.length_singleton]; omega) (fun t ht => by
              rcases List.mem_append.1 ht with ht | ht
              · have := HW7.out.small t ht; omega
              · rw [List.mem_singleton] at ht; rw [ht, HSS.out]; omega) hR
            rw [List.length_append] at hx
            exact hx)
          go_wp2_with (at_builtin; refine Hid.out ?_)
          refine hide ?_
          refine wp_app _ rfl _ _ 24 rfl w7.heap.size 9 i0 (.string ByteArray.empty) 1 16 Try.underlying24 hi0 hz0 hs0 hb0 rfl (by decide) (.slice (some ⟨w7.heap.size, 0, none⟩) 0 0) 0 [] rfl hoE _ _ ws.length c6 (ws.map Value.string) rfl (by simp) hrE (strs_one ws) ?c2 (by decide) ?c3 ?_
          case c2 => omega
          case c3 => simp
          intro v8 w8 hown8 hgrow8 hat8
          have hb8 := app_below hbE hoE hgrow8 (Nat.le_refl _) hbE.size
          rw [Nat.zero_add, List.nil_append] at hown8
          have HO8 := hide hown8
          have HB8 := hide hb8
          have hz8 := hb8.size
          clear hown8 hgrow8 hat8 hb8 hoE hbE hrE
          go_wp2_with (at_builtin; refine Hid.out ?_)
          refine hide ?_
          have hoF := HO8.out.alloc (.cells #[.string s] 9)
          refine wp_app _ rfl _ _ 24 rfl w7.heap.size 9 i0 (.string ByteArray.empty) 1 16 Try.underlying24 hi0 hz0 hs0 hb0 rfl (by decide) v8 ws.length (ws.map Value.string) rfl hoF _ _ 1 1 [.string s] rfl rfl (rd_new _ _ _ _ ?c1) (str_one _) ?c2 (by decide) ?c3 ?_
          case c1 => simp
          case c2 => omega
          case c3 => simp; omega
          intro v9 w9 hown9 hgrow9 hat9
          have HB9 := hide (app_below (HB8.out.alloc hz8 _) hoF hgrow9 (Nat.le_refl _) (by simp; omega))
          obtain ⟨A9, c9, rfl, _⟩ := own_shape hown9
          have HR9 := hide (show RdS w9 w9.heap.size A9 (ws ++ [s]) from RdS.of_own (xs := ws ++ [s]) (by rw [List.map_append]; exact hown9))
          clear hown9 hgrow9 hat9 hoF
          have HC := hide (HL.out w9 A9 c9 HR9.out)
          cases ha : addrs (2 + z1) (ws ++ [s])
          · rw [ha] at HC
            clear ha
            by_cases h40 : 40 ≤ ws.length
            · have hB : decide (40 ≤ (ws.length : Int)) = true := decide_eq_true (by omega)
              go_wp2_with (go_at_call 32; (with_reducible refine (HC.out).mono ?_); rintro e w10 ⟨rfl, m0, rfl⟩)
              go_meet
              exact ⟨_, rfl, hide (HW7.out.far hbl (bdn HB9.out _))⟩
            · have hB : decide (40 ≤ (ws.length : Int)) = false := decide_eq_false (by omega)
              go_wp2_with (go_at_call 32; (with_reducible refine (HC.out).mono ?_); rintro e w10 ⟨rfl, m0, rfl⟩)
              go_meet
              exact ⟨_, rfl, hide (HW7.out.far hbl (bdn HB9.out _))⟩
          · rw [ha] at HC
            clear ha
            go_wp2_with (go_at_call 32; (with_reducible refine (HC.out).mono ?_); rintro e w10 ⟨rfl, m0, rfl⟩)
            go_meet
            exact ⟨_, rfl, hide (HW7.out.far hbl (bdn HB9.out _))⟩
        case rest =>
          obtain ⟨v, rfl, HWx⟩ := hcut
          clear HW7
          cases v
          · go_wp2_with fail
            go_roundg (k - 1)
            case measure => have := HG.out; omega
            case rel => exact ⟨k - 1, ws, g6, c6, rfl, by congr 1; omega, by omega, by omega, rfl, hide (HWx.out.more (by omega))⟩
          · have hsx := HWx.out.only.size
            have hrowx := HWx.out.row.alloc (.cells #[.string s] 9)
            go_wp2_with (at_builtin; refine Hid.out ?_)
            refine hide ?_
            refine wp_app _ rfl _ _ 24 rfl w.heap.size 9 i0 (.string ByteArray.empty) 1 16 Try.underlying24 hi0 hz0 hs0 hb0 rfl (by decide) (.slice (some ⟨g6, 0, none⟩) ws.length c6) ws.length (ws.map Value.string) rfl hrowx _ _ 1 1 [.string s] rfl rfl (rd_new _ _ _ _ ?c1) (str_one _) ?c2 (by decide) ?c3 ?_
            case c1 => simp
            case c2 => omega
            case c3 => simp; omega
            intro v9 w9 hown9 hgrow9 hat9
            obtain ⟨g9, c9, rfl, hw9⟩ := (HWx.out.far hbl ((Below.refl _ _).alloc (Nat.le_refl _) (.cells #[.string s] 9))).push hbl (by rw [HSS.out]; omega) hown9 hgrow9
            have HW9 := hide hw9
            have HLN := hide (show (ws ++ [s]).length = ws.length + 1 by simp)
            clear hown9 hgrow9 hat9 hrowx hw9
            go_wp2_with fail
            go_roundg (k - 1)
            case measure => have := HG.out; omega
            case rel => exact ⟨k - 1, ws ++ [s], g9, c9, rfl, by congr 1; omega, by omega, by rw [HLN.out]; omega, by rw [HLN.out], hide (HW9.out.more (by omega))⟩
      · obtain rfl : k = 0 := by omega
        have HWe := hide (HW6.out.more (show N + 10 + 20 * ((n : Int) - ((0 : Nat) : Int)) ≤ N + 880 by omega))
        clear HW6 HG
        go_upto_region 15 with (go_at_call 38; (with_reducible refine (HP.out (N + 880) 20 _ (by omega) HWe.out.src).mono ?_); rintro e w7 ⟨z, rfl, ⟨hz7, _, _⟩, hs7, ho7⟩)
        have HW7 := hide (HWe.out.src2 hbl hs7 ho7)
        clear hs7 ho7 HWe
        by_cases he0 : z = 0
        · have hB0 : ((z : Int) == 0) = true := by simp [he0]
          have HE0 := hide he0
          have H2 := amongLit_any b bs (N + 880 + 2) [-1, 1, 2, 4, 5, 9223372036854775807] w7 hbs (by omega) HW7.out.src (by simp) (by simp)
          simp only [List.map_cons, List.map_nil, List.length_cons, List.length_nil, Nat.zero_add, Nat.reduceAdd] at H2
          have HAM2 := hide H2
          clear H2 he0
          go_wp2_with (go_at_call 39; (with_reducible refine (HAM2.out).mono ?_); rintro e w8 ⟨y, rfl, hy, hs8, ho8⟩; have HW8 := hide (HW7.out.src2 hbl hs8 ho8); have HY := hide hy; clear hs8 ho8 hy)
          refine bodyPost_ret (v := .tuple #[.int .i64 y, .slice (some ⟨g6, 0, none⟩) ws.length c6]) (by simp [results, Try.results24, go_sem]) rfl ?_
          exact ⟨y, g6, c6, ws, rfl, (by have := HY.out; simp at this; rcases this with rfl | rfl | rfl | rfl | rfl | rfl <;> decide), by omega, HW8.out.more (by omega)⟩
        have hB0 : ((z : Int) == 0) = false := by simp [he0]
        have HE0 := hide he0
        clear he0
        by_cases he1 : z = 1
        · have hB1 : ((z : Int) == 1) = true := by simp [he1]
          have HE1 := hide he1
          have H2 := textLit_any b bs (N + 880 + 2) [⟨#[]⟩, ⟨#[97]⟩, ⟨#[97, 98, 99, 100, 97, 98, 99, 100, 97]⟩, ⟨#[101]⟩, ⟨#[65]⟩] w7 hbs (by omega) HW7.out.src (by simp) (by simp)
          simp only [List.map_cons, List.map_nil, List.length_cons, List.length_nil, Nat.zero_add, Nat.reduceAdd] at H2
          have HTX2 := hide H2
          clear H2 he1
          go_wp2_with (first | (go_at_call 26; (with_reducible refine (HTX2.out).mono ?_); rintro e w8 ⟨y, rfl, hy, hs8, ho8⟩; have HW8 := hide (HW7.out.src2 hbl hs8 ho8); have HY := hide hy; clear hs8 ho8 hy) | (at_builtin; refine Hid.out ?_))
          refine hide ?_
          have hsx := HW8.out.only.size
          have hrowx := HW8.out.row.alloc (.cells #[.string y] 9)
          have hy9 : y.size ≤ 9 := by have := HY.out; simp at this; rcases this with rfl | rfl | rfl | rfl | rfl <;> decide
          refine wp_app _ rfl _ _ 24 rfl w.heap.size 9 i0 (.string ByteArray.empty) 1 16 Try.underlying24 hi0 hz0 hs0 hb0 rfl (by decide) (.slice (some ⟨g6, 0, none⟩) ws.length c6) ws.length (ws.map Value.string) rfl hrowx _ _ 1 1 [.string y] rfl rfl (rd_new _ _ _ _ ?c1) (str_one _) ?c2 (by decide) ?c3 ?_
          case c1 => simp
          case c2 => omega
          case c3 => simp; omega
          intro v9 w9 hown9 hgrow9 hat9
          obtain ⟨g9, c9, rfl, hw9⟩ := (HW8.out.far hbl ((Below.refl _ _).alloc (Nat.le_refl _) (.cells #[.string y] 9))).push hbl hy9 hown9 hgrow9
          have HW9 := hide hw9
          clear hown9 hgrow9 hat9 hrowx hw9 hy9
          go_wp2_with fail
          refine bodyPost_ret (v := .tuple #[.int .i64 (2 + z1), .slice (some ⟨g9, 0, none⟩) (ws ++ [y]).length c9]) (by simp [results, Try.results24, go_sem]) rfl ?_
          exact ⟨2 + z1, g9, c9, ws ++ [y], rfl, ⟨by omega, by omega⟩, by simp; omega, HW9.out.more (by omega)⟩
        · have hB1 : ((z : Int) == 1) = false := by simp [he1]
          have HE1 := hide he1
          clear he1
          go_wp2_with fail
          refine bodyPost_ret (v := .tuple #[.int .i64 (2 + z1), .slice (some ⟨g6, 0, none⟩) ws.length c6]) (by simp [results, Try.results24, go_sem]) rfl ?_
          exact ⟨2 + z1, g6, c6, ws, rfl, ⟨by omega, by omega⟩, by omega, HW7.out.more (by omega)⟩
end Go.Proofs.Ytofjnmeblmbnmaa
