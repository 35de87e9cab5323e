/-
  Drawn seals.
-/
import Derived.Test.YtflbddfmhjlknaaSrc11
import Derived.Test.YtflbddfmhjlknaaRec
import Derived.Test.YtflbddfmhjlknaaNestL
import Derived.Deep.DeepCutAuto
namespace Go.Proofs.Ytflbddfmhjlknaa
open Go.RowKit

theorem grown_setC (w : World) (b j : Nat) (v : Value) : w.grownBy (w.setCell ⟨b, j, none⟩ v) (some b) :=
  ⟨rfl, rfl, rfl, by simp, fun k _ ho => heap_setCell_other w ⟨b, j, none⟩ _ v (fun e => ho (by rw [e]))⟩
theorem only_grown {lo hi : Nat} {w0 w w' : World} {row : Option Nat} (h : Only lo hi w0 w) (hg : w.grownBy w' row) (hr : ∀ g, row = some g → w0.heap.size ≤ g) : Only lo hi w0 w' :=
  ⟨hg.os.trans h.1, hg.tape.trans h.2.1, hg.output.trans h.2.2.1, Nat.le_trans h.size hg.size, fun i hi' ho' => (hg.block i (Nat.lt_of_lt_of_le hi' h.size) (fun e => by have := hr i e.symm; omega)).trans (h.2.2.2.2 i hi' ho')⟩
theorem Seal_inf : (Try.prog.info? 46).map (fun i => (i.zero, i.size, i.bytes)) = some (some (.agg #[.int .i64 0, .int .i64 0]), 2, 16) := by kernel_rfl
set_option maxRecDepth 100000 in
set_option maxHeartbeats 4000000 in
theorem drawSeals_any (b : Nat) (bs : List Int) (N : Int) (w : World) (hbs : BsOk bs) (hN : N ≤ 1099510000000) (h : SrcAt b bs N w) :
    Calls Try.prog 78 #[.pointer (some ⟨b, 0, none⟩)] w fun e w' => ∃ (A : Option Addr) (c : Nat) (l : List T2), e = .returned (.slice A l.length c) ∧ w'.ownsRow w.heap.size 46 2 (.slice A l.length c) l.length (l.flatMap T2.cells) ∧ (l.length ≤ 61 ∧ ∀ z ∈ l, z.Fits) ∧ SrcAt b bs (N + 1000) w' ∧ Only b (b + 1) w w' := by
  obtain ⟨i0, hi0, hz0, hs0, hb0⟩ := info_parts Seal_inf
  have hbl := h.lt
  have HP := hide fun M n W (hM : M ≤ 1099511000000) (hW : SrcAt b bs M W) => pick_any b bs M n W hbs hM hW
  have HO1 := hide fun M n W (hM : M ≤ 1099511000000) (hW : SrcAt b bs M W) => one_any b bs M n W hbs hM hW
  have HAM := hide fun M g o c xs W (hM : M ≤ 1099511000000) (hW : SrcAt b bs M W) => among_any b bs M g o c xs W hbs hM hW
  have h1 := hide (h.alloc (.cells #[] 46))
  clear h
  go_enter Try.func78, Try.ntmps78
  go_upto_if 12 with (first | (go_at_call 79; refine (HP.out N 7 _ (by omega) h1.out).mono ?_; rintro e w1 ⟨z, rfl, ⟨hz0', hz1', _⟩, hs1, ho1⟩; have hz6 := hz1' (by omega); obtain ⟨k0, rfl⟩ := Int.eq_ofNat_of_zero_le hz0'; have HS1 := hide hs1) | (go_at_call 92; refine (HO1.out (N + 2) 20 _ (by omega) HS1.out).mono ?_; rintro e w2 ⟨v, rfl, hs2, ho2⟩))
  have o2 : Only b (b + 1) w w2 := only_trans (only_trans (only_of_below ((Below.refl _ _).alloc (Nat.le_refl _) _)) ho1) ho2
  have hr2 := row_only (row_only (own_new0 w w.heap.size 46 2 (Nat.le_refl _)) ho1 (by omega)) ho2 (by omega)
  have HS2 := hide hs2
  have HR2 := hide hr2
  have HO2 := hide o2
  clear hs1 hs2 ho1 ho2 hr2 o2 HS1 h1 hz1'
  go_cut [4] (fun c wx => ∃ n : Nat, c = .int .i64 n ∧ n ≤ 61 ∧ Hid (wx.ownsRow w.heap.size 46 2 (.slice (some ⟨w.heap.size, 0, none⟩) 0 0) 0 []) ∧ Hid (SrcAt b bs (N + 6) wx) ∧ Hid (Only b (b + 1) w wx))
  case first =>
    cases v
    · go_wp2_with fail
      go_meet
      exact ⟨k0, rfl, by omega, HR2.out, HS2.out.more (by omega), HO2.out⟩
    · go_wp2_with (go_at_call 79; refine (HP.out (N + 2 + 2) 2 _ (by omega) HS2.out).mono ?_; rintro e w3 ⟨z3, rfl, ⟨hy0, hy1, _⟩, hs3, ho3⟩; have hy2 := hy1 (by omega); obtain ⟨k3, rfl⟩ := Int.eq_ofNat_of_zero_le hy0)
      go_meet
      exact ⟨60 + k3, by go_num, by omega, row_only HR2.out ho3 (by omega), hs3.more (by omega), only_trans HO2.out ho3⟩
  case rest =>
    obtain ⟨n, rfl, hn, HR, HS, HO⟩ := hcut
    clear HR2 HS2 HO2
    have hr0 := HR.out
    go_wp2_with fail
    go_loopg [3, 5] n (fun g s i wr => ∃ (k : Nat) (acc : List T2) (gb cb : Nat), g = k ∧ i = .int .i64 k ∧ k + acc.length = n ∧ s = .slice (some ⟨gb, 0, none⟩) acc.length cb ∧ wr.ownsRow w.heap.size 46 2 (.slice (some ⟨gb, 0, none⟩) acc.length cb) acc.length (acc.flatMap T2.cells) ∧ Hid (∀ z ∈ acc, (0 ≤ z.a ∧ z.a ≤ 31) ∧ (0 ≤ z.b ∧ z.b ≤ 31)) ∧ Hid (SrcAt b bs (N + 6 + 4 * (acc.length : Int)) wr) ∧ Hid (Only b (b + 1) w wr))
    case atStart => exact ⟨n, [], w.heap.size, 0, rfl, rfl, by simp, rfl, hr0, by simp [Hid], HS.out.more (by simp), HO.out⟩
    case round =>
      obtain ⟨k, acc, gb, cb, hg, rfl, hka, rfl, hown, HA, HSr, HOr⟩ := hrel
      have HG := hide hg
      have hka1 : k + acc.length ≤ n := by omega
      have hka2 : n ≤ k + acc.length := by omega
      clear hr0 HR HS HO hg hka
      by_cases hlt : 0 < k
      · have hkn : (0 : Int) < (k : Int) := by omega
        have hzw := HOr.out.size
        have HC := hide (HP.out (N + 6 + 4 * (acc.length : Int)) 30 _ (by omega) HSr.out)
        have HROW := hide hown
        clear hown
        go_wp2_with (first | (go_at_call 79; (with_reducible refine (HC.out).mono ?_); rintro e w2 ⟨y, rfl, ⟨hy0, hy1', _⟩, hs2, ho2⟩; have hy1 := hy1' (by omega); have hr2 := row_only HROW.out ho2 (by omega); have hz2 := ho2.size; have HS2 := hide (hs2.alloc (.cells #[.int .i64 0, .int .i64 (1 + y)] 46)); have HR2 := hide (hr2.alloc (.cells #[.int .i64 0, .int .i64 (1 + y)] 46)); have HO2 := hide (only_alloc (only_trans HOr.out ho2) (.cells #[.int .i64 0, .int .i64 (1 + y)] 46)); have X2 := hide (BoxN.new w2 #[.int .i64 0, .int .i64 (1 + y)] 46); clear hs2 ho2 hr2) | (go_at_call 79; refine (HP.out (N + 6 + 4 * (acc.length : Int) + 2) (1 + y + 1) _ (by omega) HS2.out).mono ?_; rintro e w3 ⟨y3, rfl, ⟨hv0, hv1', _⟩, hs3, ho3⟩; have hv1 := hv1' (by omega); have X3 : BoxN w3 w2.heap.size #[.int .i64 0, .int .i64 (1 + y)] 46 := (ho3.2.2.2.2 _ X2.out.lt (by omega)).trans X2.out; have f0 := X3.fro 0; have q0 : w3.cell? ⟨w2.heap.size, 0, none⟩ = some (.int .i64 0) := X3.cell 0; have X4 := hide (X3.set 0 (.int .i64 y3)); have d0 : (w3.setCell ⟨w2.heap.size, 0, none⟩ (.int .i64 y3)).cell? ⟨w2.heap.size, 0, none⟩ = some (.int .i64 y3) := X4.out.cell 0; have d1 : (w3.setCell ⟨w2.heap.size, 0, none⟩ (.int .i64 y3)).cell? ⟨w2.heap.size, 1, none⟩ = some (.int .i64 (1 + y)) := X4.out.cell 1; go_must (have hgs := grown_setC w3 w2.heap.size 0 (.int .i64 y3); have hgbl := (HROW.out.lt gb rfl).2; have HRW := hide ((row_only HR2.out ho3 (by omega)).kept hgs (.inr (fun h => by have h0 : (some gb : Option Nat) = some w2.heap.size := h; have h1 := Option.some.inj h0; omega)) |>.alloc (.cells #[.int .i64 y3, .int .i64 (1 + y)] 46)); have HSS := hide ((hs3.grown hgs (fun g h => by injection h with h; omega)).alloc (.cells #[.int .i64 y3, .int .i64 (1 + y)] 46)); have HOO := hide (only_alloc (only_grown (only_trans HO2.out ho3) hgs (fun g h => by injection h with h; omega)) (.cells #[.int .i64 y3, .int .i64 (1 + y)] 46)); have hzz : w.heap.size ≤ w3.heap.size + 1 := (by have := ho3.size; simp at this; omega))) | (at_builtin; go_must (refine wp_app _ rfl _ _ 24 rfl w.heap.size 46 i0 (.agg #[.int .i64 0, .int .i64 0]) 2 16 Try.underlying24 hi0 hz0 hs0 hb0 rfl (by decide) _ _ _ rfl HRW.out _ _ 1 1 [.int .i64 y3, .int .i64 (1 + y)] rfl rfl (rd_new _ _ _ _ (by simp)) (by intro u hu; simp at hu; rcases hu with rfl | rfl <;> rfl) (by omega) (by decide) (by first | omega | (simp <;> omega) | (simp; omega)) ?_); intro v4 w4 hown4 hgrow4 hat4))
        have hS4 := HSS.out.grown hgrow4 (fun g e => by have := (HRW.out.lt g e).1; omega)
        have hO4 := only_app HOO.out HRW.out hgrow4 (Nat.le_refl _)
        obtain ⟨A9, c9, rfl, _⟩ := own_shape hown4
        obtain ⟨g9, rfl, _, _⟩ : ∃ g, A9 = some ⟨g, 0, none⟩ ∧ w.heap.size ≤ g ∧ g < w4.heap.size := by
          rcases own_block hown4 with ⟨_, h0, _⟩ | h0
          · omega
          · exact h0
        have HA2 := hide (show ∀ z ∈ acc ++ [(⟨y3, 1 + y⟩ : T2)], (0 ≤ z.a ∧ z.a ≤ 31) ∧ (0 ≤ z.b ∧ z.b ≤ 31) by
          intro z hz
          rcases List.mem_append.1 hz with hz | hz
          · exact HA.out z hz
          · rw [List.mem_singleton] at hz; subst hz; dsimp only; omega)
        go_roundg (k - 1)
        case measure => have := HG.out; omega
        case rel => exact ⟨k - 1, acc ++ [⟨y3, 1 + y⟩], g9, c9, rfl, by congr 1; omega, by simp; omega, by simp, by rw [List.flatMap_append, List.length_append]; exact hown4, HA2, hS4.more (by simp; omega), hO4⟩
      · obtain rfl : k = 0 := by omega
        have hal : acc.length = n := by omega
        have hal1 : acc.length ≤ n := by omega
        have hal2 : n ≤ acc.length := by omega
        have HAL := hide hal
        clear hal
        have HROW := hide hown
        clear hown
        by_cases hn0 : 0 < n
        case neg =>
          have hD : decide ((0 : Int) < (n : Int)) = false := decide_eq_false (by omega)
          go_wp2_with fail
          go_ret
          exact ⟨_, _, acc, rfl, HROW.out, ⟨by omega, fun z hz => by have := HA.out z hz; exact ⟨⟨by omega, by omega⟩, by omega, by omega⟩⟩, HSr.out.more (by omega), HOr.out⟩
        case pos =>
          have hD : (0 : Int) < (n : Int) := by omega
          have hzw := HOr.out.size
          have hgbl := HROW.out.lt gb rfl
          go_upto_region 14 with (first | (go_at_call 79; (with_reducible refine (HP.out (N + 6 + 4 * (acc.length : Int)) (n : Int) _ (by omega) HSr.out).mono ?_); rintro e w2 ⟨y, rfl, ⟨hy0, hy1', _⟩, hs2, ho2⟩; have hy1 := hy1' (by omega); obtain ⟨y, rfl⟩ := Int.eq_ofNat_of_zero_le hy0; have hyl : y < acc.length := (by omega); have hyl' : (y : Int) < (acc.length : Int) := (by omega); have hr2 := row_only HROW.out ho2 (by omega); have hz2 := ho2.size; have HS2 := hide hs2; have HR2 := hide hr2; have HO2 := hide (only_trans HOr.out ho2); clear hs2 ho2 hr2) | (go_at_call 79; refine (HP.out (N + 6 + 4 * (acc.length : Int) + 2) 20 _ (by omega) HS2.out).mono ?_; rintro e w3 ⟨v, rfl, _, hs3, ho3⟩))
          have hz3 := ho3.size
          have HR3 := hide (row_only HR2.out ho3 (by omega))
          have HS3 := hide hs3
          have HO3 := hide (only_trans HO2.out ho3)
          have hg3 := (HR3.out.lt gb rfl).2
          have hey := List.getElem?_eq_getElem hyl
          obtain ⟨sd, hsd⟩ : ∃ q, q = acc[y] := ⟨_, rfl⟩
          rw [← hsd] at hey
          have hsa := HA.out sd (List.mem_of_getElem? hey)
          have hgetc := flatMap_get T2.cells 2 (fun _ => rfl) acc y
          have ca : w3.cell? ⟨gb, y * 2, none⟩ = some (.int .i64 sd.a) := by
            have h1 := hgetc 0 sd hey (by omega)
            rw [HR3.out.cellAt (y * 2) (by omega)]; rw [Nat.add_zero] at h1; rw [h1]; rfl
          have cb' : w3.cell? ⟨gb, y * 2 + 1, none⟩ = some (.int .i64 sd.b) := by
            have h1 := hgetc 1 sd hey (by omega)
            rw [HR3.out.cellAt (y * 2 + 1) (by omega), h1]; rfl
          have hfin : ∀ (u : T2), u.Fits → ∀ z ∈ acc.set y u, z.Fits := fun u hu z hz => by
            rcases List.mem_or_eq_of_mem_set hz with hz | rfl
            · have := HA.out z hz; exact ⟨⟨by omega, by omega⟩, by omega, by omega⟩
            · exact hu
          have HFIN := hide hfin
          have HEY := hide hey
          clear hs3 ho3 hey hsd hgetc hfin HR2 HS2 HO2
          by_cases hv0 : v = 0
          · subst hv0
            have HS4 := hide (HS3.out.alloc (.cells #[.int .i64 (-1), .int .i64 0, .int .i64 sd.a, .int .i64 1000, .int .i64 1001] 2))
            have HR4 := hide (HR3.out.alloc (.cells #[.int .i64 (-1), .int .i64 0, .int .i64 sd.a, .int .i64 1000, .int .i64 1001] 2))
            have HO4 := hide (only_alloc HO3.out (.cells #[.int .i64 (-1), .int .i64 0, .int .i64 sd.a, .int .i64 1000, .int .i64 1001] 2))
            have ham : Calls Try.prog 93 #[.pointer (some ⟨b, 0, none⟩), .slice (some ⟨w3.heap.size, 0, none⟩) 5 5] (w3.alloc (.cells #[.int .i64 (-1), .int .i64 0, .int .i64 sd.a, .int .i64 1000, .int .i64 1001] 2)) fun e w' => ∃ z, e = .returned (.int .i64 z) ∧ z ∈ ([(-1), 0, sd.a, 1000, 1001] : List Int) ∧ SrcAt b bs (N + 6 + 4 * (acc.length : Int) + 2 + 2 + 2) w' ∧ Only b (b + 1) (w3.alloc (.cells #[.int .i64 (-1), .int .i64 0, .int .i64 sd.a, .int .i64 1000, .int .i64 1001] 2)) w' := HAM.out (N + 6 + 4 * (acc.length : Int) + 2 + 2) w3.heap.size 0 5 ([(-1), 0, sd.a, 1000, 1001] : List Int) _ (by omega) HS4.out (by omega) (by simp) (by simp) (by simp) (fun j z hj => by
              match j, hj with
              | 0, hj => simp at hj; subst hj; simp [go_sem]
              | 1, hj => simp at hj; subst hj; simp [go_sem]
              | 2, hj => simp at hj; subst hj; simp [go_sem]
              | 3, hj => simp at hj; subst hj; simp [go_sem]
              | 4, hj => simp at hj; subst hj; simp [go_sem]
              | j + 5, hj => simp at hj)
            have HAMH := hide ham
            clear ham
            go_wp2_with (go_at_call 93; refine (HAMH.out).mono ?_; rintro e w4 ⟨z, rfl, hz, hs4, ho4⟩; have HR5 := hide (row_only HR4.out ho4 (by omega)); have c5 : w4.cell? ⟨gb, y * 2 + 1, none⟩ = some (.int .i64 sd.b) := (by rw [HR5.out.cellAt (y * 2 + 1) (by omega), flatMap_get T2.cells 2 (fun _ => rfl) acc y 1 sd HEY.out (by omega)]; rfl); have f5 := HR5.out.frozenAt (y * 2 + 1); have st := HR5.out.stored (y * 2 + 1) (.int .i64 z); have HST := hide st; clear st)
            have hfl := flatMap_set T2.cells 2 (fun _ => rfl) acc y 1 sd ⟨sd.a, z⟩ (.int .i64 z) HEY.out (by omega) rfl
            have HRF := HST.out.1
            rw [hfl] at HRF
            have hzb : -1 ≤ z ∧ z ≤ 1001 := by simp at hz; omega
            go_ret
            refine ⟨_, _, acc.set y ⟨sd.a, z⟩, by rw [List.length_set]; rfl, by rw [List.length_set]; exact HRF, ⟨by rw [List.length_set]; omega, HFIN.out _ ⟨⟨by dsimp only; omega, by dsimp only; omega⟩, by dsimp only; omega, by dsimp only; omega⟩⟩, (hs4.grown HST.out.2 (fun g h => by have h0 : (some gb : Option Nat) = some g := h; have h1 := Option.some.inj h0; omega)).more (by omega), only_grown (only_trans HO4.out ho4) HST.out.2 (fun g h => by have h0 : (some gb : Option Nat) = some g := h; have h1 := Option.some.inj h0; omega)⟩
          · have hB0 : (v == 0) = false := by simp [hv0]
            by_cases hv1 : v = 1
            · subst hv1
              go_wp2_with fail
              have HS3d : Hid (SrcAt b bs (N + 6 + 4 * (acc.length : Int) + 2 + 2) w3.drew) := HS3.out.below (B := b + 1) (Below.refl _ _).drew (Nat.lt_succ_self b)
              have HR3d : Hid (w3.drew.ownsRow w.heap.size 46 2 (.slice (some ⟨gb, 0, none⟩) acc.length cb) acc.length (acc.flatMap T2.cells)) := HR3.out
              have HO3d := hide (only_trans HO3.out (only_of_below (Below.refl _ w3).drew))
              have e1 : w3.drew.cell? ⟨gb, y * 2 + 1, none⟩ = some (.int .i64 sd.b) := cb'
              have hg3d : gb < w3.drew.heap.size := hg3
              have hz3d : w2.heap.size ≤ w3.drew.heap.size := hz3
              clear ca cb' hg3 hz3 HR3 HS3 HO3
              refine wp_region_held_drew (S := fun W => W.cell? ⟨gb, y * 2 + 1, none⟩ = some (.int .i64 sd.b)) (by kernel_rfl) (e1) (fun hHeld => ?_)
              generalize w3.drew = wd at *
              have HS4 := hide (HS3d.out.alloc (.cells #[.int .i64 (-1), .int .i64 0, .int .i64 sd.b, .int .i64 (sd.b + 1), .int .i64 (-9223372036854775808)] 2))
              have HR4 := hide (HR3d.out.alloc (.cells #[.int .i64 (-1), .int .i64 0, .int .i64 sd.b, .int .i64 (sd.b + 1), .int .i64 (-9223372036854775808)] 2))
              have HO4 := hide (only_alloc HO3d.out (.cells #[.int .i64 (-1), .int .i64 0, .int .i64 sd.b, .int .i64 (sd.b + 1), .int .i64 (-9223372036854775808)] 2))
              have ham : Calls Try.prog 93 #[.pointer (some ⟨b, 0, none⟩), .slice (some ⟨wd.heap.size, 0, none⟩) 5 5] (wd.alloc (.cells #[.int .i64 (-1), .int .i64 0, .int .i64 sd.b, .int .i64 (sd.b + 1), .int .i64 (-9223372036854775808)] 2)) fun e w' => ∃ z, e = .returned (.int .i64 z) ∧ z ∈ ([(-1), 0, sd.b, (sd.b + 1), (-9223372036854775808)] : List Int) ∧ SrcAt b bs (N + 6 + 4 * (acc.length : Int) + 2 + 2 + 2) w' ∧ Only b (b + 1) (wd.alloc (.cells #[.int .i64 (-1), .int .i64 0, .int .i64 sd.b, .int .i64 (sd.b + 1), .int .i64 (-9223372036854775808)] 2)) w' := HAM.out (N + 6 + 4 * (acc.length : Int) + 2 + 2) wd.heap.size 0 5 ([(-1), 0, sd.b, (sd.b + 1), (-9223372036854775808)] : List Int) _ (by omega) HS4.out (by omega) (by simp) (by simp) (by simp) (fun j z hj => by
                match j, hj with
                | 0, hj => simp at hj; subst hj; simp [go_sem]
                | 1, hj => simp at hj; subst hj; simp [go_sem]
                | 2, hj => simp at hj; subst hj; simp [go_sem]
                | 3, hj => simp at hj; subst hj; simp [go_sem]
                | 4, hj => simp at hj; subst hj; simp [go_sem]
                | j + 5, hj => simp at hj)
              have HAMH := hide ham
              clear ham
              have g1 : (wd.alloc (.cells #[.int .i64 (-1), .int .i64 0, .int .i64 sd.b, .int .i64 (sd.b + 1), .int .i64 (-9223372036854775808)] 2)).cell? ⟨gb, y * 2 + 1, none⟩ = some (.int .i64 sd.b) := (World.cell?_alloc_old _ _ _ (by dsimp only; omega)).trans e1
              have hw1 : IntKind.i64.wrap (sd.b + 1) = sd.b + 1 := by rw [IntKind.wrap_i64] <;> omega
              refine wpAnyH_take (i := 0) (v := ?_) rfl (by kernel_rfl) (by kernel_rfl) (by kernel_rfl) (fun _ _ _ h => h) (Or.inl ⟨by rfl, ?_⟩) (by assumption) ?_
              rotate_left 1
              · (intro w hSw; (try dsimp only at hSw); go_simp; try with_reducible rfl)
              try simp only [Act.put, List.getElem_toArray, List.getElem_cons_succ, List.getElem_cons_zero, List.setIfInBounds_toArray, List.set_cons_zero, List.set_cons_succ]
              refine wpAnyH_take (i := 1) (v := ?_) rfl (by kernel_rfl) (by kernel_rfl) (by kernel_rfl) (fun _ _ _ h => h) (Or.inl ⟨by rfl, ?_⟩) (by assumption) ?_
              rotate_left 1
              · (intro w hSw; (try dsimp only at hSw); go_simp; try with_reducible rfl)
              try simp only [Act.put, List.getElem_toArray, List.getElem_cons_succ, List.getElem_cons_zero, List.setIfInBounds_toArray, List.set_cons_zero, List.set_cons_succ]
              refine wpAnyH_take (i := 2) (v := ?_) rfl (by kernel_rfl) (by kernel_rfl) (by kernel_rfl) (fun _ _ _ h => h) (Or.inl ⟨by rfl, ?_⟩) (by assumption) ?_
              rotate_left 1
              · (intro w hSw; (try dsimp only at hSw); go_simp; try with_reducible rfl)
              try simp only [Act.put, List.getElem_toArray, List.getElem_cons_succ, List.getElem_cons_zero, List.setIfInBounds_toArray, List.set_cons_zero, List.set_cons_succ]
              refine wpAnyH_take (i := 3) (v := ?_) rfl (by kernel_rfl) (by kernel_rfl) (by kernel_rfl) (fun _ _ _ h => h) (Or.inl ⟨by rfl, ?_⟩) (by assumption) ?_
              rotate_left 1
              · (intro w hSw; (try dsimp only at hSw); go_simp; try with_reducible rfl)
              try simp only [Act.put, List.getElem_toArray, List.getElem_cons_succ, List.getElem_cons_zero, List.setIfInBounds_toArray, List.set_cons_zero, List.set_cons_succ]
              refine wpAnyH_take (i := 4) (v := ?_) rfl (by kernel_rfl) (by kernel_rfl) (by kernel_rfl) (fun _ _ _ h => h) (Or.inl ⟨by rfl, ?_⟩) (by assumption) ?_
              rotate_left 1
              · (intro w hSw; (try dsimp only at hSw); go_simp; try with_reducible rfl)
              try simp only [Act.put, List.getElem_toArray, List.getElem_cons_succ, List.getElem_cons_zero, List.setIfInBounds_toArray, List.set_cons_zero, List.set_cons_succ]
              refine wpAnyH_take (i := 5) (v := ?_) rfl (by kernel_rfl) (by kernel_rfl) (by kernel_rfl) (fun _ _ _ h => h) (Or.inl ⟨by rfl, ?_⟩) (by assumption) ?_
              rotate_left 1
              · (intro w hSw; (try dsimp only at hSw); go_simp; try with_reducible rfl)
              try simp only [Act.put, List.getElem_toArray, List.getElem_cons_succ, List.getElem_cons_zero, List.setIfInBounds_toArray, List.set_cons_zero, List.set_cons_succ]
              refine wpAnyH_take (i := 6) (v := ?_) rfl (by kernel_rfl) (by kernel_rfl) (by kernel_rfl) (fun _ _ _ h => h) (Or.inl ⟨by rfl, ?_⟩) (by assumption) ?_
              rotate_left 1
              · (intro w hSw; (try dsimp only at hSw); go_simp; try with_reducible rfl)
              try simp only [Act.put, List.getElem_toArray, List.getElem_cons_succ, List.getElem_cons_zero, List.setIfInBounds_toArray, List.set_cons_zero, List.set_cons_succ]
              refine wpAnyH_take (i := 7) (v := ?_) rfl (by kernel_rfl) (by kernel_rfl) (by kernel_rfl) (fun _ _ _ h => h) (Or.inl ⟨by rfl, ?_⟩) (by assumption) ?_
              rotate_left 1
              · (intro w hSw; (try dsimp only at hSw); go_simp; try with_reducible rfl)
              try simp only [Act.put, List.getElem_toArray, List.getElem_cons_succ, List.getElem_cons_zero, List.setIfInBounds_toArray, List.set_cons_zero, List.set_cons_succ]
              refine wpAnyH_take (i := 8) (v := ?_) rfl (by kernel_rfl) (by kernel_rfl) (by kernel_rfl) (fun _ _ _ h => h) (Or.inl ⟨by rfl, ?_⟩) (by assumption) ?_
              rotate_left 1
              · (intro w hSw; (try dsimp only at hSw); go_simp; try with_reducible rfl)
              try simp only [Act.put, List.getElem_toArray, List.getElem_cons_succ, List.getElem_cons_zero, List.setIfInBounds_toArray, List.set_cons_zero, List.set_cons_succ]
              refine wpAnyH_take (i := 9) (v := ?_) rfl (by kernel_rfl) (by kernel_rfl) (by kernel_rfl) (fun _ _ _ h => h) (Or.inl ⟨by rfl, ?_⟩) (by assumption) ?_
              rotate_left 1
              · (intro w hSw; (try dsimp only at hSw); go_simp; try with_reducible rfl)
              try simp only [Act.put, List.getElem_toArray, List.getElem_cons_succ, List.getElem_cons_zero, List.setIfInBounds_toArray, List.set_cons_zero, List.set_cons_succ]
              refine wpAnyH_take (i := 10) (v := ?_) rfl (by kernel_rfl) (by kernel_rfl) (by kernel_rfl) (fun _ _ _ h => h) (Or.inl ⟨by rfl, ?_⟩) (by assumption) ?_
              rotate_left 1
              · (intro w hSw; (try dsimp only at hSw); go_simp; try with_reducible rfl)
              try simp only [Act.put, List.getElem_toArray, List.getElem_cons_succ, List.getElem_cons_zero, List.setIfInBounds_toArray, List.set_cons_zero, List.set_cons_succ]
              refine wpAnyH_ready (rs := [11]) (by kernel_rfl) (by simp) ?_
              refine AllReadyH.cons rfl (fun K hK => ?_) AllReadyH.nil
              try simp only [Act.put, List.getElem_toArray, List.getElem_cons_succ, List.getElem_cons_zero, List.setIfInBounds_toArray, List.set_cons_zero, List.set_cons_succ]
              go_simp
              refine hK.out _ _ (g1) (fun hHeld => ?_)
              clear hK K
              try simp only [Act.put, List.getElem_toArray, List.getElem_cons_succ, List.getElem_cons_zero, List.setIfInBounds_toArray, List.set_cons_zero, List.set_cons_succ]
              refine wpAnyH_ready (rs := [12]) (by kernel_rfl) (by simp) ?_
              refine AllReadyH.cons rfl (fun K hK => ?_) AllReadyH.nil
              try simp only [Act.put, List.getElem_toArray, List.getElem_cons_succ, List.getElem_cons_zero, List.setIfInBounds_toArray, List.set_cons_zero, List.set_cons_succ]
              go_simp
              go_at_call 93
              refine HAMH.out.mono ?_
              rintro e' w4 ⟨z, rfl, hz, hs4, ho4⟩
              have HR5 := hide (row_only HR4.out ho4 (by omega))
              have c5 : w4.cell? ⟨gb, y * 2, none⟩ = some (.int .i64 sd.a) := by
                have h1 := flatMap_get T2.cells 2 (fun _ => rfl) acc y 0 sd HEY.out (by omega)
                rw [HR5.out.cellAt (y * 2) (by omega)]; rw [Nat.add_zero] at h1; rw [h1]; rfl
              have c6 : w4.cell? ⟨gb, y * 2 + 1, none⟩ = some (.int .i64 sd.b) := by rw [HR5.out.cellAt (y * 2 + 1) (by omega), flatMap_get T2.cells 2 (fun _ => rfl) acc y 1 sd HEY.out (by omega)]; rfl
              have f5 := HR5.out.frozenAt (y * 2)
              have st := HR5.out.stored (y * 2) (.int .i64 z)
              have HST := hide st
              clear st
              dsimp only
              refine hK.out _ _ (c6) (fun hHeld => ?_)
              clear hK K
              try simp only [Act.put, List.getElem_toArray, List.getElem_cons_succ, List.getElem_cons_zero, List.setIfInBounds_toArray, List.set_cons_zero, List.set_cons_succ]
              refine wpAnyH_take (i := 13) (v := ?_) rfl (by kernel_rfl) (by kernel_rfl) (by kernel_rfl) (fun _ _ _ h => h) (Or.inl ⟨by rfl, ?_⟩) (by assumption) ?_
              rotate_left 1
              · (intro w hSw; (try dsimp only at hSw); go_simp; try with_reducible rfl)
              try simp only [Act.put, List.getElem_toArray, List.getElem_cons_succ, List.getElem_cons_zero, List.setIfInBounds_toArray, List.set_cons_zero, List.set_cons_succ]
              refine wpAnyH_take (i := 14) (v := ?_) rfl (by kernel_rfl) (by kernel_rfl) (by kernel_rfl) (fun _ _ _ h => h) (Or.inl ⟨by rfl, ?_⟩) (by assumption) ?_
              rotate_left 1
              · (intro w hSw; (try dsimp only at hSw); go_simp; try with_reducible rfl)
              try simp only [Act.put, List.getElem_toArray, List.getElem_cons_succ, List.getElem_cons_zero, List.setIfInBounds_toArray, List.set_cons_zero, List.set_cons_succ]
              have c7 : (w4.setCell ⟨gb, y * 2, none⟩ (.int .i64 z)).cell? ⟨gb, y * 2 + 1, none⟩ = some (.int .i64 sd.b) := (World.cell?_setCell_other w4 ⟨gb, y * 2, none⟩ ⟨gb, y * 2 + 1, none⟩ (.int .i64 z) (fun e => by have := (Addr.mk.inj e).2.1; omega)).trans c6
              refine wpAnyH_ready (rs := [15]) (by kernel_rfl) (by simp) ?_
              refine AllReadyH.cons rfl (fun K hK => ?_) AllReadyH.nil
              try simp only [Act.put, List.getElem_toArray, List.getElem_cons_succ, List.getElem_cons_zero, List.setIfInBounds_toArray, List.set_cons_zero, List.set_cons_succ]
              go_simp
              refine hK.out _ _ (c7) (fun hHeld => ?_)
              clear hK K
              try simp only [Act.put, List.getElem_toArray, List.getElem_cons_succ, List.getElem_cons_zero, List.setIfInBounds_toArray, List.set_cons_zero, List.set_cons_succ]
              refine wpAnyH_done (by kernel_rfl) ?_ _
              have hfl := flatMap_set T2.cells 2 (fun _ => rfl) acc y 0 sd ⟨z, sd.b⟩ (.int .i64 z) HEY.out (by omega) rfl
              rw [Nat.add_zero] at hfl
              have HRF := HST.out.1
              rw [hfl] at HRF
              have hzb : -9223372036854775808 ≤ z ∧ z ≤ 1001 := by simp at hz; omega
              go_wp2_with fail
              go_ret
              refine ⟨_, _, acc.set y ⟨z, sd.b⟩, by rw [List.length_set]; rfl, by rw [List.length_set]; exact HRF, ⟨by rw [List.length_set]; omega, HFIN.out _ ⟨⟨by dsimp only; omega, by dsimp only; omega⟩, by dsimp only; omega, by dsimp only; omega⟩⟩, (hs4.grown HST.out.2 (fun g h => by have h0 : (some gb : Option Nat) = some g := h; have h1 := Option.some.inj h0; omega)).more (by omega), only_grown (only_trans HO4.out ho4) HST.out.2 (fun g h => by have h0 : (some gb : Option Nat) = some g := h; have h1 := Option.some.inj h0; omega)⟩
            · have hB1 : (v == 1) = false := by simp [hv1]
              have HV := hide hv0
              have HV1 := hide hv1
              clear hv0 hv1
              go_wp2_with fail
              go_ret
              exact ⟨_, _, acc, rfl, HR3.out, ⟨by omega, fun z hz => by have := HA.out z hz; exact ⟨⟨by omega, by omega⟩, by omega, by omega⟩⟩, HS3.out.more (by omega), HO3.out⟩
end Go.Proofs.Ytflbddfmhjlknaa
