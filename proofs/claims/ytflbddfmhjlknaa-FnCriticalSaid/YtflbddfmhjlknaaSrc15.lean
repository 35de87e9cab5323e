/-
  Drawn moves.
-/
import Derived.Test.YtflbddfmhjlknaaSrc14
namespace Go.Proofs.Ytflbddfmhjlknaa
open Go.RowKit
theorem BoxN.c3 {w : World} {b : Nat} {x y z : Value} {e : TypeId} (h : BoxN w b #[x, y, z] e) : w.cell? ⟨b, 0, none⟩ = some x ∧ w.cell? ⟨b, 1, none⟩ = some y ∧ w.cell? ⟨b, 2, none⟩ = some z := ⟨h.cell 0, h.cell 1, h.cell 2⟩
def MvOk (n : Int) (m : T3) : Prop := (0 ≤ m.a ∧ m.a < n) ∧ (-1 ≤ m.b ∧ m.b ≤ n) ∧ -1 ≤ m.c ∧ m.c ≤ 201
theorem Move_inf : (Try.prog.info? 34).map (fun i => (i.zero, i.size, i.bytes)) = some (some (.agg #[.int .i64 0, .int .i64 0, .int .i64 0]), 3, 24) := by kernel_rfl
theorem l00MaxM_any (a b : Int) (w : World) : Calls Try.prog 109 #[.int .i64 a, .int .i64 b] w fun e w' => e = .returned (.int .i64 (max a b)) ∧ w = w' := by
  by_cases h : b < a
  · have e := Int.max_eq_left (Int.le_of_lt h)
    rw [e]; clear e
    go_enter Try.func109, Try.ntmps109
    go_wp2
    go_ret
    exact ⟨rfl, rfl⟩
  · have e := Int.max_eq_right (Int.not_lt.1 h)
    rw [e]; clear e
    go_enter Try.func109, Try.ntmps109
    go_wp2
    go_ret
    exact ⟨rfl, rfl⟩
set_option maxRecDepth 100000 in
set_option maxHeartbeats 4000000 in
theorem drawMoves_any (b : Nat) (bs : List Int) (N sn : Int) (w : World) (hbs : BsOk bs) (hN : N ≤ 1099509000000) (hsn : 1 ≤ sn) (hsn2 : sn ≤ 1000) (h : SrcAt b bs N w) :
    Calls Try.prog 94 #[.pointer (some ⟨b, 0, none⟩), .int .i64 sn] w fun e w' => ∃ (A : Option Addr) (c : Nat) (l : List T3), e = .returned (.slice A l.length c) ∧ w'.ownsRow w.heap.size 34 3 (.slice A l.length c) l.length (l.flatMap T3.cells) ∧ (l.length ≤ 41 ∧ ∀ z ∈ l, MvOk sn z) ∧ SrcAt b bs (N + 2000) w' ∧ Only b (b + 1) w w' := by
  obtain ⟨i0, hi0, hz0, hs0, hb0⟩ := info_parts Move_inf
  have hbl := h.lt
  have HP := hide fun M n W (hM : M ≤ 1099511000000) (hW : SrcAt b bs M W) => pick_any b bs M n W hbs hM hW
  have HO1 := hide fun M n W (hM : M ≤ 1099511000000) (hW : SrcAt b bs M W) => one_any b bs M n W hbs hM hW
  have HDM := hide fun M W (hM : M ≤ 1099510000000) (hW : SrcAt b bs M W) => drawMove_any b bs M sn W hbs hM hsn hsn2 hW
  have HMX := hide fun W => l00MaxM_any 1 sn W
  have hmx : max 1 sn = sn := Int.max_eq_right hsn
  rw [hmx] at HMX
  clear hmx
  have h1 := hide (h.alloc (.cells #[] 34))
  clear h
  go_enter Try.func94, Try.ntmps94
  go_upto_if 13 with (first | (go_at_call 79; (with_reducible refine (HP.out N 6 _ (by omega) h1.out).mono ?_); rintro e w1 ⟨z, rfl, ⟨hz0', hz1', _⟩, hs1, ho1⟩; have hz6 := hz1' (by omega); obtain ⟨k0, rfl⟩ := Int.eq_ofNat_of_zero_le hz0'; have HS1 := hide hs1) | (go_at_call 92; (with_reducible refine (HO1.out (N + 2) 20 _ (by omega) HS1.out).mono ?_); rintro e w2 ⟨v, rfl, hs2, ho2⟩))
  have o2 : Only b (b + 1) w w2 := only_trans (only_trans (only_of_below ((Below.refl _ _).alloc (Nat.le_refl _) _)) ho1) ho2
  have hr2 := row_only (row_only (own_new0 w w.heap.size 34 3 (Nat.le_refl _)) ho1 (by omega)) ho2 (by omega)
  have HS2 := hide hs2
  have HR2 := hide hr2
  have HO2 := hide o2
  clear hs1 hs2 ho1 ho2 hr2 o2 HS1 h1 hz1'
  go_cut [6] (fun c wx => ∃ n : Nat, c = .int .i64 n ∧ n ≤ 41 ∧ Hid (wx.ownsRow w.heap.size 34 3 (.slice (some ⟨w.heap.size, 0, none⟩) 0 0) 0 []) ∧ Hid (SrcAt b bs (N + 6) wx) ∧ Hid (Only b (b + 1) w wx))
  case first =>
    cases v
    · go_wp2_with fail
      go_meet
      exact ⟨k0, rfl, by omega, HR2.out, HS2.out.more (by omega), HO2.out⟩
    · go_wp2_with (go_at_call 79; (with_reducible refine (HP.out (N + 2 + 2) 2 _ (by omega) HS2.out).mono ?_); rintro e w3 ⟨z3, rfl, ⟨hy0, hy1, _⟩, hs3, ho3⟩; have hy2 := hy1 (by omega); obtain ⟨k3, rfl⟩ := Int.eq_ofNat_of_zero_le hy0)
      go_meet
      exact ⟨40 + k3, by go_num, by omega, row_only HR2.out ho3 (by omega), hs3.more (by omega), only_trans HO2.out ho3⟩
  case rest =>
    obtain ⟨n, rfl, hn, HR, HS, HO⟩ := hcut
    clear HR2 HS2 HO2
    have hr0 := HR.out
    go_wp2_with fail
    go_loopg [5, 7] n (fun g s i wr => ∃ (k : Nat) (acc : List T3) (gb cb : Nat), g = k ∧ i = .int .i64 k ∧ k + acc.length = n ∧ s = .slice (some ⟨gb, 0, none⟩) acc.length cb ∧ wr.ownsRow w.heap.size 34 3 (.slice (some ⟨gb, 0, none⟩) acc.length cb) acc.length (acc.flatMap T3.cells) ∧ Hid (∀ z ∈ acc, MvOk sn z) ∧ Hid (SrcAt b bs (N + 6 + 20 * (acc.length : Int)) wr) ∧ Hid (Only b (b + 1) w wr))
    case atStart => exact ⟨n, [], w.heap.size, 0, rfl, rfl, by simp, rfl, hr0, by simp [Hid], HS.out.more (by simp), HO.out⟩
    case round =>
      obtain ⟨k, acc, gb, cb, hg, rfl, hka, rfl, hown, HA, HSr, HOr⟩ := hrel
      have HG := hide hg
      have hka1 : k + acc.length ≤ n := by omega
      have hka2 : n ≤ k + acc.length := by omega
      clear hr0 HR HS HO hg hka
      by_cases hlt : 0 < k
      · have hkn : (0 : Int) < (k : Int) := by omega
        have hzw := HOr.out.size
        have HC := hide (HDM.out (N + 6 + 20 * (acc.length : Int)) _ (by omega) HSr.out)
        have HROW := hide hown
        clear hown
        go_upto_region 9 with (go_at_call 85; (with_reducible refine (HC.out).mono ?_); rintro e w2 ⟨m, rfl, hm, hs2, ho2⟩; have HM := hide hm; have z2 := ho2.size; have X2 := hide (BoxN.new w2 #[.int .i64 m.a, .int .i64 m.b, .int .i64 m.c] 34); have R2 := hide ((row_only HROW.out ho2 (by omega)).alloc (.cells #[.int .i64 m.a, .int .i64 m.b, .int .i64 m.c] 34)); have S2 := hide (hs2.alloc (.cells #[.int .i64 m.a, .int .i64 m.b, .int .i64 m.c] 34)); have O2 := hide (only_alloc (only_trans HOr.out ho2) (.cells #[.int .i64 m.a, .int .i64 m.b, .int .i64 m.c] 34)); clear hm hs2 ho2)
        have c0 := hide (X2.out.cell 0)
        have hbw : w.heap.size ≤ w2.heap.size := by omega
        have zx : w2.heap.size < (w2.alloc (.cells #[.int .i64 m.a, .int .i64 m.b, .int .i64 m.c] 34)).heap.size := by simp
        have hgb2 := (HROW.out.lt gb rfl).2
        have hgb : gb < w2.heap.size := by omega
        clear HC HROW HSr HOr c0
        generalize w2.alloc (.cells #[.int .i64 m.a, .int .i64 m.b, .int .i64 m.c] 34) = w3 at *
        have e0 : w3.cell? ⟨w2.heap.size, 0, none⟩ = some (.int .i64 m.a) := X2.out.cell 0
        have e1 : w3.cell? ⟨w2.heap.size, 1, none⟩ = some (.int .i64 m.b) := X2.out.cell 1
        go_upto_if 29 with fail
        go_cut [5] (fun c wx => ∃ u : T3, c = .slice (some ⟨gb, 0, none⟩) acc.length cb ∧ Hid (MvOk sn u) ∧ Hid (BoxN wx w2.heap.size #[.int .i64 u.a, .int .i64 u.b, .int .i64 u.c] 34) ∧ w2.heap.size < wx.heap.size ∧ Hid (wx.ownsRow w.heap.size 34 3 (.slice (some ⟨gb, 0, none⟩) acc.length cb) acc.length (acc.flatMap T3.cells)) ∧ Hid (SrcAt b bs (N + 6 + 20 * (acc.length : Int) + 20) wx) ∧ Hid (Only b (b + 1) w wx))
        case first =>
          have hm := HM.out
          by_cases hab : m.a = m.b
          · have hB : (m.a == m.b) = true := by simp [hab]
            clear hab
            have hma := hm.1.1
            have hma2 := hm.1.2
            have hw1 : IntKind.i64.wrap (m.a + 1) = m.a + 1 := by rw [IntKind.wrap_i64] <;> omega
            have hs0 : sn ≠ 0 := by omega
            go_wp2_with fail
            have e0d : w3.drew.cell? ⟨w2.heap.size, 0, none⟩ = some (.int .i64 m.a) := e0
            have X3 : Hid (BoxN w3.drew w2.heap.size #[.int .i64 m.a, .int .i64 m.b, .int .i64 m.c] 34) := X2.out
            have R3 : Hid (w3.drew.ownsRow w.heap.size 34 3 (.slice (some ⟨gb, 0, none⟩) acc.length cb) acc.length (acc.flatMap T3.cells)) := R2.out
            have S3 : Hid (SrcAt b bs (N + 6 + 20 * (acc.length : Int) + 20) w3.drew) := S2.out.below (B := b + 1) (Below.refl _ _).drew (Nat.lt_succ_self b)
            have O3 : Hid (Only b (b + 1) w w3.drew) := only_trans O2.out (only_of_below (Below.refl _ w3).drew)
            have zd : w2.heap.size < w3.drew.heap.size := zx
            clear e0 e1 X2 R2 S2 O2 zx
            refine wp_region_held_drew (S := fun W => W.cell? ⟨w2.heap.size, 0, none⟩ = some (.int .i64 m.a)) (by kernel_rfl) (e0d) (fun hHeld => ?_)
            generalize w3.drew = wd at *
            have f1 := X3.out.fro 1
            have e1 : wd.cell? ⟨w2.heap.size, 1, none⟩ = some (.int .i64 m.b) := X3.out.cell 1
            have X4 := hide (X3.out.set 1 (.int .i64 ((m.a + 1).tmod sn)))
            have c7 : (wd.setCell ⟨w2.heap.size, 1, none⟩ (.int .i64 ((m.a + 1).tmod sn))).cell? ⟨w2.heap.size, 0, none⟩ = some (.int .i64 m.a) := X4.out.cell 0
            have hwt : IntKind.i64.wrap ((m.a + 1).tmod sn) = (m.a + 1).tmod sn := by
              have h1 := Int.tmod_nonneg sn (show 0 ≤ m.a + 1 by omega)
              have h2 := Int.tmod_lt_of_pos (m.a + 1) (show 0 < sn by omega)
              rw [IntKind.wrap_i64] <;> omega
            refine wpAnyH_take (i := 0) (v := ?_) rfl (by kernel_rfl) (by kernel_rfl) (by kernel_rfl) (fun _ _ _ h => h) (Or.inl ⟨by rfl, ?_⟩) (by assumption) ?_
            rotate_left 1
            · (intro w hSw; (try dsimp only at hSw); go_simp; try with_reducible rfl)
            try simp only [Act.put, List.getElem_toArray, List.getElem_cons_succ, List.getElem_cons_zero, List.setIfInBounds_toArray, List.set_cons_zero, List.set_cons_succ]
            refine wpAnyH_take (i := 1) (v := ?_) rfl (by kernel_rfl) (by kernel_rfl) (by kernel_rfl) (fun _ _ _ h => h) (Or.inl ⟨by rfl, ?_⟩) (by assumption) ?_
            rotate_left 1
            · (intro w hSw; (try dsimp only at hSw); go_simp; try with_reducible rfl)
            try simp only [Act.put, List.getElem_toArray, List.getElem_cons_succ, List.getElem_cons_zero, List.setIfInBounds_toArray, List.set_cons_zero, List.set_cons_succ]
            refine wpAnyH_take (i := 2) (v := ?_) rfl (by kernel_rfl) (by kernel_rfl) (by kernel_rfl) (fun _ _ _ h => h) (Or.inl ⟨by rfl, ?_⟩) (by assumption) ?_
            rotate_left 1
            · (intro w hSw; (try dsimp only at hSw); go_simp; try with_reducible rfl)
            try simp only [Act.put, List.getElem_toArray, List.getElem_cons_succ, List.getElem_cons_zero, List.setIfInBounds_toArray, List.set_cons_zero, List.set_cons_succ]
            refine wpAnyH_take (i := 3) (v := ?_) rfl (by kernel_rfl) (by kernel_rfl) (by kernel_rfl) (fun _ _ _ h => h) (Or.inl ⟨by rfl, ?_⟩) (by assumption) ?_
            rotate_left 1
            · (intro w hSw; (try dsimp only at hSw); go_simp; try with_reducible rfl)
            try simp only [Act.put, List.getElem_toArray, List.getElem_cons_succ, List.getElem_cons_zero, List.setIfInBounds_toArray, List.set_cons_zero, List.set_cons_succ]
            refine wpAnyH_ready (rs := [4]) (by kernel_rfl) (by simp) ?_
            refine AllReadyH.cons rfl (fun K hK => ?_) AllReadyH.nil
            try simp only [Act.put, List.getElem_toArray, List.getElem_cons_succ, List.getElem_cons_zero, List.setIfInBounds_toArray, List.set_cons_zero, List.set_cons_succ]
            go_simp
            go_at_call 109
            refine (HMX.out _).mono ?_
            rintro e' w4 ⟨rfl, rfl⟩
            dsimp only
            refine hK.out _ _ (e0d) (fun hHeld => ?_)
            clear hK K
            try simp only [Act.put, List.getElem_toArray, List.getElem_cons_succ, List.getElem_cons_zero, List.setIfInBounds_toArray, List.set_cons_zero, List.set_cons_succ]
            refine wpAnyH_take (i := 5) (v := ?_) rfl (by kernel_rfl) (by kernel_rfl) (by kernel_rfl) (fun _ _ _ h => h) (Or.inl ⟨by rfl, ?_⟩) (by assumption) ?_
            rotate_left 1
            · (intro w hSw; (try dsimp only at hSw); go_simp; try with_reducible rfl)
            try simp only [Act.put, List.getElem_toArray, List.getElem_cons_succ, List.getElem_cons_zero, List.setIfInBounds_toArray, List.set_cons_zero, List.set_cons_succ]
            refine wpAnyH_take (i := 6) (v := ?_) rfl (by kernel_rfl) (by kernel_rfl) (by kernel_rfl) (fun _ _ _ h => h) (Or.inl ⟨by rfl, ?_⟩) (by assumption) ?_
            rotate_left 1
            · (intro w hSw; (try dsimp only at hSw); go_simp; try with_reducible rfl)
            try simp only [Act.put, List.getElem_toArray, List.getElem_cons_succ, List.getElem_cons_zero, List.setIfInBounds_toArray, List.set_cons_zero, List.set_cons_succ]
            refine wpAnyH_ready (rs := [7]) (by kernel_rfl) (by simp) ?_
            refine AllReadyH.cons rfl (fun K hK => ?_) AllReadyH.nil
            try simp only [Act.put, List.getElem_toArray, List.getElem_cons_succ, List.getElem_cons_zero, List.setIfInBounds_toArray, List.set_cons_zero, List.set_cons_succ]
            go_simp
            refine hK.out _ _ (c7) (fun hHeld => ?_)
            clear hK K
            try simp only [Act.put, List.getElem_toArray, List.getElem_cons_succ, List.getElem_cons_zero, List.setIfInBounds_toArray, List.set_cons_zero, List.set_cons_succ]
            refine wpAnyH_done (by kernel_rfl) ?_ _
            go_wp2_with fail
            go_meet
            have h1 := Int.tmod_nonneg sn (show 0 ≤ m.a + 1 by omega)
            have h2 := Int.tmod_lt_of_pos (m.a + 1) (show 0 < sn by omega)
            exact ⟨⟨m.a, (m.a + 1).tmod sn, m.c⟩, rfl, ⟨⟨hma, hma2⟩, ⟨by dsimp only; omega, by dsimp only; omega⟩, hm.2.2⟩, X4.out, by simp [World.setCell]; omega, R3.out.kept (grown_setCell wd ⟨w2.heap.size, 1, none⟩ (.int .i64 ((m.a + 1).tmod sn))) (.inr (fun h => by have h0 : (some gb : Option Nat) = some w2.heap.size := h; have h1 := Option.some.inj h0; omega)), S3.out.set ⟨w2.heap.size, 1, none⟩ (.int .i64 ((m.a + 1).tmod sn)) (by dsimp only; omega), only_setNew O3.out ⟨w2.heap.size, 1, none⟩ (.int .i64 ((m.a + 1).tmod sn)) hbw⟩
          · have hB : (m.a == m.b) = false := by simp [hab]
            have HAB := hide hab
            clear hab
            go_wp2_with fail
            go_meet
            exact ⟨m, rfl, HM.out, X2.out, zx, R2.out, S2.out, O2.out⟩
        case rest =>
          obtain ⟨u, rfl, HU, XU, zu, RU, SU, OU⟩ := hcut
          clear X2 R2 S2 O2 HM e0 e1
          obtain ⟨d0, d1, d2⟩ := XU.out.c3
          have HRW := hide (RU.out.alloc (.cells #[.int .i64 u.a, .int .i64 u.b, .int .i64 u.c] 34))
          have HSS := hide (SU.out.alloc (.cells #[.int .i64 u.a, .int .i64 u.b, .int .i64 u.c] 34))
          have HOO := hide (only_alloc OU.out (.cells #[.int .i64 u.a, .int .i64 u.b, .int .i64 u.c] 34))
          have hzz := Nat.le_succ_of_le OU.out.size
          go_wp2_with (at_builtin; go_must (refine wp_app _ rfl _ _ 38 rfl w.heap.size 34 i0 (.agg #[.int .i64 0, .int .i64 0, .int .i64 0]) 3 24 Try.underlying38 hi0 hz0 hs0 hb0 rfl (by decide) _ _ _ rfl HRW.out _ _ 1 1 [.int .i64 u.a, .int .i64 u.b, .int .i64 u.c] rfl rfl (rd_new _ _ _ _ (by simp)) (by intro q hq; simp at hq; rcases hq with rfl | rfl | rfl <;> rfl) (by omega) (by decide) (by first | omega | (simp <;> omega) | (simp; omega)) ?_); intro v4 w4 hown4 hgrow4 hat4)
          have hS4 := HSS.out.grown hgrow4 (fun g e => by have := (HRW.out.lt g e).1; omega)
          have hO4 := only_app HOO.out HRW.out hgrow4 (Nat.le_refl _)
          obtain ⟨A9, c9, rfl, _⟩ := own_shape hown4
          obtain ⟨g9, rfl, _, _⟩ : ∃ g, A9 = some ⟨g, 0, none⟩ ∧ w.heap.size ≤ g ∧ g < w4.heap.size := by
            rcases own_block hown4 with ⟨_, h0, _⟩ | h0
            · omega
            · exact h0
          have HA2 := hide (show ∀ z ∈ acc ++ [u], MvOk sn z by
            intro z hz
            rcases List.mem_append.1 hz with hz | hz
            · exact HA.out z hz
            · rw [List.mem_singleton] at hz; subst hz; exact HU.out)
          go_roundg (k - 1)
          case measure => have := HG.out; omega
          case rel => exact ⟨k - 1, acc ++ [u], g9, c9, rfl, by congr 1; omega, by simp; omega, by simp, by rw [List.flatMap_append, List.length_append]; exact hown4, HA2, hS4.more (by simp; omega), hO4⟩
      · obtain rfl : k = 0 := by omega
        have hal1 : acc.length ≤ n := by omega
        clear hka1 hka2
        go_wp2_with fail
        go_ret
        exact ⟨_, _, acc, rfl, hown, ⟨by omega, HA.out⟩, HSr.out.more (by omega), HOr.out⟩
end Go.Proofs.Ytflbddfmhjlknaa
