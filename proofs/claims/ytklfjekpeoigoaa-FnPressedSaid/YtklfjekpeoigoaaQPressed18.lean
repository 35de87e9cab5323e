/-
  Drawn moves.
  Drawn stocks of carriers.
  Drawn arguments of SendCarriers.
  Stocks: the contracts of the reference and of the program in the laws' words.
-/
import Derived.Test.YtklfjekpeoigoaaQPressed14
import Derived.Test.YtklfjekpeoigoaaQPressed11
import Derived.Test.YtklfjekpeoigoaaQPressed16
import Derived.Test.YtklfjekpeoigoaaQPressed2
namespace Go.Proofs.Ytklfjekpeoigoaa
open Go.RowKit
theorem BoxN.c3 {w : World} {b : Nat} {x y z : Value} {e : TypeId} (h : BoxN w b #[x, y, z] e) : w.cell? ⟨b, 0, none⟩ = some x ∧ w.cell? ⟨b, 1, none⟩ = some y ∧ w.cell? ⟨b, 2, none⟩ = some z := ⟨h.cell 0, h.cell 1, h.cell 2⟩
def MvOk (n : Int) (m : T3) : Prop := (0 ≤ m.a ∧ m.a < n) ∧ (-1 ≤ m.b ∧ m.b ≤ n) ∧ -1 ≤ m.c ∧ m.c ≤ 201
theorem Move_inf : (Try.prog.info? 143).map (fun i => (i.zero, i.size, i.bytes)) = some (some (.agg #[.int .i64 0, .int .i64 0, .int .i64 0]), 3, 24) := by kernel_rfl
theorem l00MaxM_any (a b : Int) (w : World) : Calls Try.prog 122 #[.int .i64 a, .int .i64 b] w fun e w' => e = .returned (.int .i64 (max a b)) ∧ w = w' := by
  by_cases h : b < a
  · have e := Int.max_eq_left (Int.le_of_lt h)
    rw [e]; clear e
    go_enter Try.func122, Try.ntmps122
    go_wp2
    go_ret
    exact ⟨rfl, rfl⟩
  · have e := Int.max_eq_right (Int.not_lt.1 h)
    rw [e]; clear e
    go_enter Try.func122, Try.ntmps122
    go_wp2
    go_ret
    exact ⟨rfl, rfl⟩
set_option maxRecDepth 100000 in
set_option maxHeartbeats 4000000 in
theorem drawMoves_any (b : Nat) (bs : List Int) (N sn : Int) (w : World) (hbs : BsOk bs) (hN : N ≤ 1099509000000) (hsn : 1 ≤ sn) (hsn2 : sn ≤ 1000) (h : SrcAt b bs N w) :
    Calls Try.prog 140 #[.pointer (some ⟨b, 0, none⟩), .int .i64 sn] w fun e w' => ∃ (A : Option Addr) (c : Nat) (l : List T3), e = .returned (.slice A l.length c) ∧ w'.ownsRow w.heap.size 143 3 (.slice A l.length c) l.length (l.flatMap T3.cells) ∧ (l.length ≤ 41 ∧ ∀ z ∈ l, MvOk sn z) ∧ SrcAt b bs (N + 2000) w' ∧ Only b (b + 1) w w' := by
  obtain ⟨i0, hi0, hz0, hs0, hb0⟩ := info_parts Move_inf
  have hbl := h.lt
  have HP := hide fun M n W (hM : M ≤ 1099511000000) (hW : SrcAt b bs M W) => pick_any b bs M n W hbs hM hW
  have HO1 := hide fun M n W (hM : M ≤ 1099511000000) (hW : SrcAt b bs M W) => one_any b bs M n W hbs hM hW
  have HDM := hide fun M W (hM : M ≤ 1099510000000) (hW : SrcAt b bs M W) => drawMove_any b bs M sn W hbs hM hsn hsn2 hW
  have HMX := hide fun W => l00MaxM_any 1 sn W
  have hmx : max 1 sn = sn := Int.max_eq_right hsn
  rw [hmx] at HMX
  clear hmx
  have h1 := hide (h.alloc (.cells #[] 143))
  clear h
  go_enter Try.func140, Try.ntmps140
  go_upto_if 13 with (first | (go_at_call 134; (with_reducible refine (HP.out N 6 _ (by omega) h1.out).mono ?_); rintro e w1 ⟨z, rfl, ⟨hz0', hz1', _⟩, hs1, ho1⟩; have hz6 := hz1' (by omega); obtain ⟨k0, rfl⟩ := Int.eq_ofNat_of_zero_le hz0'; have HS1 := hide hs1) | (go_at_call 133; (with_reducible refine (HO1.out (N + 2) 20 _ (by omega) HS1.out).mono ?_); rintro e w2 ⟨v, rfl, hs2, ho2⟩))
  have o2 : Only b (b + 1) w w2 := only_trans (only_trans (only_of_below ((Below.refl _ _).alloc (Nat.le_refl _) _)) ho1) ho2
  have hr2 := row_only (row_only (own_new0 w w.heap.size 143 3 (Nat.le_refl _)) ho1 (by omega)) ho2 (by omega)
  have HS2 := hide hs2
  have HR2 := hide hr2
  have HO2 := hide o2
  clear hs1 hs2 ho1 ho2 hr2 o2 HS1 h1 hz1'
  go_cut [6] (fun c wx => ∃ n : Nat, c = .int .i64 n ∧ n ≤ 41 ∧ Hid (wx.ownsRow w.heap.size 143 3 (.slice (some ⟨w.heap.size, 0, none⟩) 0 0) 0 []) ∧ Hid (SrcAt b bs (N + 6) wx) ∧ Hid (Only b (b + 1) w wx))
  case first =>
    cases v
    · go_wp2_with fail
      go_meet
      exact ⟨k0, rfl, by omega, HR2.out, HS2.out.more (by omega), HO2.out⟩
    · go_wp2_with (go_at_call 134; (with_reducible refine (HP.out (N + 2 + 2) 2 _ (by omega) HS2.out).mono ?_); rintro e w3 ⟨z3, rfl, ⟨hy0, hy1, _⟩, hs3, ho3⟩; have hy2 := hy1 (by omega); obtain ⟨k3, rfl⟩ := Int.eq_ofNat_of_zero_le hy0)
      go_meet
      exact ⟨40 + k3, by go_num, by omega, row_only HR2.out ho3 (by omega), hs3.more (by omega), only_trans HO2.out ho3⟩
  case rest =>
    obtain ⟨n, rfl, hn, HR, HS, HO⟩ := hcut
    clear HR2 HS2 HO2
    have hr0 := HR.out
    go_wp2_with fail
    go_loopg [5, 7] n (fun g s i wr => ∃ (k : Nat) (acc : List T3) (gb cb : Nat), g = k ∧ i = .int .i64 k ∧ k + acc.length = n ∧ s = .slice (some ⟨gb, 0, none⟩) acc.length cb ∧ wr.ownsRow w.heap.size 143 3 (.slice (some ⟨gb, 0, none⟩) acc.length cb) acc.length (acc.flatMap T3.cells) ∧ Hid (∀ z ∈ acc, MvOk sn z) ∧ Hid (SrcAt b bs (N + 6 + 20 * (acc.length : Int)) wr) ∧ Hid (Only b (b + 1) w wr))
    case atStart => exact ⟨n, [], w.heap.size, 0, rfl, rfl, by simp, rfl, hr0, by simp [Hid], HS.out.more (by simp), HO.out⟩
    case round =>
      obtain ⟨k, acc, gb, cb, hg, rfl, hka, rfl, hown, HA, HSr, HOr⟩ := hrel
      have HG := hide hg
      have hka1 : k + acc.length ≤ n := by omega
      have hka2 : n ≤ k + acc.length := by omega
      clear hr0 HR HS HO hg hka
      by_cases hlt : 0 < k
      · have hkn : (0 : Int) < (k : Int) := by omega
        have hzw := HOr.out.size
        have HC := hide (HDM.out (N + 6 + 20 * (acc.length : Int)) _ (by omega) HSr.out)
        have HROW := hide hown
        clear hown
        go_upto_region 9 with (go_at_call 235; (with_reducible refine (HC.out).mono ?_); rintro e w2 ⟨m, rfl, hm, hs2, ho2⟩; have HM := hide hm; have z2 := ho2.size; have X2 := hide (BoxN.new w2 #[.int .i64 m.a, .int .i64 m.b, .int .i64 m.c] 143); have R2 := hide ((row_only HROW.out ho2 (by omega)).alloc (.cells #[.int .i64 m.a, .int .i64 m.b, .int .i64 m.c] 143)); have S2 := hide (hs2.alloc (.cells #[.int .i64 m.a, .int .i64 m.b, .int .i64 m.c] 143)); have O2 := hide (only_alloc (only_trans HOr.out ho2) (.cells #[.int .i64 m.a, .int .i64 m.b, .int .i64 m.c] 143)); clear hm hs2 ho2)
        have c0 := hide (X2.out.cell 0)
        have hbw : w.heap.size ≤ w2.heap.size := by omega
        have zx : w2.heap.size < (w2.alloc (.cells #[.int .i64 m.a, .int .i64 m.b, .int .i64 m.c] 143)).heap.size := by simp
        have hgb2 := (HROW.out.lt gb rfl).2
        have hgb : gb < w2.heap.size := by omega
        clear HC HROW HSr HOr c0
        generalize w2.alloc (.cells #[.int .i64 m.a, .int .i64 m.b, .int .i64 m.c] 143) = w3 at *
        have e0 : w3.cell? ⟨w2.heap.size, 0, none⟩ = some (.int .i64 m.a) := X2.out.cell 0
        have e1 : w3.cell? ⟨w2.heap.size, 1, none⟩ = some (.int .i64 m.b) := X2.out.cell 1
        go_upto_if 29 with fail
        go_cut [5] (fun c wx => ∃ u : T3, c = .slice (some ⟨gb, 0, none⟩) acc.length cb ∧ Hid (MvOk sn u) ∧ Hid (BoxN wx w2.heap.size #[.int .i64 u.a, .int .i64 u.b, .int .i64 u.c] 143) ∧ w2.heap.size < wx.heap.size ∧ Hid (wx.ownsRow w.heap.size 143 3 (.slice (some ⟨gb, 0, none⟩) acc.length cb) acc.length (acc.flatMap T3.cells)) ∧ Hid (SrcAt b bs (N + 6 + 20 * (acc.length : Int) + 20) wx) ∧ Hid (Only b (b + 1) w wx))
        case first =>
          have hm := HM.out
          by_cases hab : m.a = m.b
          · have hB : (m.a == m.b) = true := by simp [hab]
            clear hab
            have hma := hm.1.1
            have hma2 := hm.1.2
            have hw1 : IntKind.i64.wrap (m.a + 1) = m.a + 1 := by rw [IntKind.wrap_i64] <;> omega
            have hs0 : sn ≠ 0 := by omega
            go_wp2_with fail
            have e0d : w3.drew.cell? ⟨w2.heap.size, 0, none⟩ = some (.int .i64 m.a) := e0
            have X3 : Hid (BoxN w3.drew w2.heap.size #[.int .i64 m.a, .int .i64 m.b, .int .i64 m.c] 143) := X2.out
            have R3 : Hid (w3.drew.ownsRow w.heap.size 143 3 (.slice (some ⟨gb, 0, none⟩) acc.length cb) acc.length (acc.flatMap T3.cells)) := R2.out
            have S3 : Hid (SrcAt b bs (N + 6 + 20 * (acc.length : Int) + 20) w3.drew) := S2.out.below (B := b + 1) (Below.refl _ _).drew (Nat.lt_succ_self b)
            have O3 : Hid (Only b (b + 1) w w3.drew) := only_trans O2.out (only_of_below (Below.refl _ w3).drew)
            have zd : w2.heap.size < w3.drew.heap.size := zx
            clear e0 e1 X2 R2 S2 O2 zx
            refine wp_region_held_drew (S := fun W => W.cell? ⟨w2.heap.size, 0, none⟩ = some (.int .i64 m.a)) (by kernel_rfl) (e0d) (fun hHeld => ?_)
            generalize w3.drew = wd at *
            have f1 := X3.out.fro 1
            have e1 : wd.cell? ⟨w2.heap.size, 1, none⟩ = some (.int .i64 m.b) := X3.out.cell 1
            have X4 := hide (X3.out.set 1 (.int .i64 ((m.a + 1).tmod sn)))
            have c7 : (wd.setCell ⟨w2.heap.size, 1, none⟩ (.int .i64 ((m.a + 1).tmod sn))).cell? ⟨w2.heap.size, 0, none⟩ = some (.int .i64 m.a) := X4.out.cell 0
            have hwt : IntKind.i64.wrap ((m.a + 1).tmod sn) = (m.a + 1).tmod sn := by
              have h1 := Int.tmod_nonneg sn (show 0 ≤ m.a + 1 by omega)
              have h2 := Int.tmod_lt_of_pos (m.a + 1) (show 0 < sn by omega)
              rw [IntKind.wrap_i64] <;> omega
            refine wpAnyH_take (i := 0) (v := ?_) rfl (by kernel_rfl) (by kernel_rfl) (by kernel_rfl) (fun _ _ _ h => h) (Or.inl ⟨by rfl, ?_⟩) (by assumption) ?_
            rotate_left 1
            · (intro w hSw; (try dsimp only at hSw); go_simp; try with_reducible rfl)
            try simp only [Act.put, List.getElem_toArray, List.getElem_cons_succ, List.getElem_cons_zero, List.setIfInBounds_toArray, List.set_cons_zero, List.set_cons_succ]
            refine wpAnyH_take (i := 1) (v := ?_) rfl (by kernel_rfl) (by kernel_rfl) (by kernel_rfl) (fun _ _ _ h => h) (Or.inl ⟨by rfl, ?_⟩) (by assumption) ?_
            rotate_left 1
            · (intro w hSw; (try dsimp only at hSw); go_simp; try with_reducible rfl)
            try simp only [Act.put, List.getElem_toArray, List.getElem_cons_succ, List.getElem_cons_zero, List.setIfInBounds_toArray, List.set_cons_zero, List.set_cons_succ]
            refine wpAnyH_take (i := 2) (v := ?_) rfl (by kernel_rfl) (by kernel_rfl) (by kernel_rfl) (fun _ _ _ h => h) (Or.inl ⟨by rfl, ?_⟩) (by assumption) ?_
            rotate_left 1
            · (intro w hSw; (try dsimp only at hSw); go_simp; try with_reducible rfl)
            try simp only [Act.put, List.getElem_toArray, List.getElem_cons_succ, List.getElem_cons_zero, List.setIfInBounds_toArray, List.set_cons_zero, List.set_cons_succ]
            refine wpAnyH_take (i := 3) (v := ?_) rfl (by kernel_rfl) (by kernel_rfl) (by kernel_rfl) (fun _ _ _ h => h) (Or.inl ⟨by rfl, ?_⟩) (by assumption) ?_
            rotate_left 1
            · (intro w hSw; (try dsimp only at hSw); go_simp; try with_reducible rfl)
            try simp only [Act.put, List.getElem_toArray, List.getElem_cons_succ, List.getElem_cons_zero, List.setIfInBounds_toArray, List.set_cons_zero, List.set_cons_succ]
            refine wpAnyH_ready (rs := [4]) (by kernel_rfl) (by simp) ?_
            refine AllReadyH.cons rfl (fun K hK => ?_) AllReadyH.nil
            try simp only [Act.put, List.getElem_toArray, List.getElem_cons_succ, List.getElem_cons_zero, List.setIfInBounds_toArray, List.set_cons_zero, List.set_cons_succ]
            go_simp
            go_at_call 122
            refine (HMX.out _).mono ?_
            rintro e' w4 ⟨rfl, rfl⟩
            dsimp only
            refine hK.out _ _ (e0d) (fun hHeld => ?_)
            clear hK K
            try simp only [Act.put, List.getElem_toArray, List.getElem_cons_succ, List.getElem_cons_zero, List.setIfInBounds_toArray, List.set_cons_zero, List.set_cons_succ]
            refine wpAnyH_take (i := 5) (v := ?_) rfl (by kernel_rfl) (by kernel_rfl) (by kernel_rfl) (fun _ _ _ h => h) (Or.inl ⟨by rfl, ?_⟩) (by assumption) ?_
            rotate_left 1
            · (intro w hSw; (try dsimp only at hSw); go_simp; try with_reducible rfl)
            try simp only [Act.put, List.getElem_toArray, List.getElem_cons_succ, List.getElem_cons_zero, List.setIfInBounds_toArray, List.set_cons_zero, List.set_cons_succ]
            refine wpAnyH_take (i := 6) (v := ?_) rfl (by kernel_rfl) (by kernel_rfl) (by kernel_rfl) (fun _ _ _ h => h) (Or.inl ⟨by rfl, ?_⟩) (by assumption) ?_
            rotate_left 1
            · (intro w hSw; (try dsimp only at hSw); go_simp; try with_reducible rfl)
            try simp only [Act.put, List.getElem_toArray, List.getElem_cons_succ, List.getElem_cons_zero, List.setIfInBounds_toArray, List.set_cons_zero, List.set_cons_succ]
            refine wpAnyH_ready (rs := [7]) (by kernel_rfl) (by simp) ?_
            refine AllReadyH.cons rfl (fun K hK => ?_) AllReadyH.nil
            try simp only [Act.put, List.getElem_toArray, List.getElem_cons_succ, List.getElem_cons_zero, List.setIfInBounds_toArray, List.set_cons_zero, List.set_cons_succ]
            go_simp
            refine hK.out _ _ (c7) (fun hHeld => ?_)
            clear hK K
            try simp only [Act.put, List.getElem_toArray, List.getElem_cons_succ, List.getElem_cons_zero, List.setIfInBounds_toArray, List.set_cons_zero, List.set_cons_succ]
            refine wpAnyH_done (by kernel_rfl) ?_ _
            go_wp2_with fail
            go_meet
            have h1 := Int.tmod_nonneg sn (show 0 ≤ m.a + 1 by omega)
            have h2 := Int.tmod_lt_of_pos (m.a + 1) (show 0 < sn by omega)
            exact ⟨⟨m.a, (m.a + 1).tmod sn, m.c⟩, rfl, ⟨⟨hma, hma2⟩, ⟨by dsimp only; omega, by dsimp only; omega⟩, hm.2.2⟩, X4.out, by simp [World.setCell]; omega, R3.out.kept (grown_setCell wd ⟨w2.heap.size, 1, none⟩ (.int .i64 ((m.a + 1).tmod sn))) (.inr (fun h => by have h0 : (some gb : Option Nat) = some w2.heap.size := h; have h1 := Option.some.inj h0; omega)), S3.out.set ⟨w2.heap.size, 1, none⟩ (.int .i64 ((m.a + 1).tmod sn)) (by dsimp only; omega), only_setNew O3.out ⟨w2.heap.size, 1, none⟩ (.int .i64 ((m.a + 1).tmod sn)) hbw⟩
          · have hB : (m.a == m.b) = false := by simp [hab]
            have HAB := hide hab
            clear hab
            go_wp2_with fail
            go_meet
            exact ⟨m, rfl, HM.out, X2.out, zx, R2.out, S2.out, O2.out⟩
        case rest =>
          obtain ⟨u, rfl, HU, XU, zu, RU, SU, OU⟩ := hcut
          clear X2 R2 S2 O2 HM e0 e1
          obtain ⟨d0, d1, d2⟩ := XU.out.c3
          have HRW := hide (RU.out.alloc (.cells #[.int .i64 u.a, .int .i64 u.b, .int .i64 u.c] 143))
          have HSS := hide (SU.out.alloc (.cells #[.int .i64 u.a, .int .i64 u.b, .int .i64 u.c] 143))
          have HOO := hide (only_alloc OU.out (.cells #[.int .i64 u.a, .int .i64 u.b, .int .i64 u.c] 143))
          have hzz := Nat.le_succ_of_le OU.out.size
          go_wp2_with (at_builtin; go_must (refine wp_app _ rfl _ _ 25 rfl w.heap.size 143 i0 (.agg #[.int .i64 0, .int .i64 0, .int .i64 0]) 3 24 Try.underlying25 hi0 hz0 hs0 hb0 rfl (by decide) _ _ _ rfl HRW.out _ _ 1 1 [.int .i64 u.a, .int .i64 u.b, .int .i64 u.c] rfl rfl (rd_new _ _ _ _ (by simp)) (by intro q hq; simp at hq; rcases hq with rfl | rfl | rfl <;> rfl) (by omega) (by decide) (by first | omega | (simp <;> omega) | (simp; omega)) ?_); intro v4 w4 hown4 hgrow4 hat4)
          have hS4 := HSS.out.grown hgrow4 (fun g e => by have := (HRW.out.lt g e).1; omega)
          have hO4 := only_app HOO.out HRW.out hgrow4 (Nat.le_refl _)
          obtain ⟨A9, c9, rfl, _⟩ := own_shape hown4
          obtain ⟨g9, rfl, _, _⟩ : ∃ g, A9 = some ⟨g, 0, none⟩ ∧ w.heap.size ≤ g ∧ g < w4.heap.size := by
            rcases own_block hown4 with ⟨_, h0, _⟩ | h0
            · omega
            · exact h0
          have HA2 := hide (show ∀ z ∈ acc ++ [u], MvOk sn z by
            intro z hz
            rcases List.mem_append.1 hz with hz | hz
            · exact HA.out z hz
            · rw [List.mem_singleton] at hz; subst hz; exact HU.out)
          go_roundg (k - 1)
          case measure => have := HG.out; omega
          case rel => exact ⟨k - 1, acc ++ [u], g9, c9, rfl, by congr 1; omega, by simp; omega, by simp, by rw [List.flatMap_append, List.length_append]; exact hown4, HA2, hS4.more (by simp; omega), hO4⟩
      · obtain rfl : k = 0 := by omega
        have hal1 : acc.length ≤ n := by omega
        clear hka1 hka2
        go_wp2_with fail
        go_ret
        exact ⟨_, _, acc, rfl, hown, ⟨by omega, HA.out⟩, HSr.out.more (by omega), HOr.out⟩
end Go.Proofs.Ytklfjekpeoigoaa
namespace Go.Proofs.Ytklfjekpeoigoaa
open Go.RowKit
theorem sum_le {xs : List Int} {B : Int} : (∀ z ∈ xs, 0 ≤ z ∧ z ≤ B) → 0 ≤ xs.sum ∧ xs.sum ≤ B * xs.length := by
  induction xs with
  | nil => intro _; simp
  | cons x xs ih =>
    intro h
    have h1 := h x (List.mem_cons_self ..)
    have h2 := ih fun z hz => h z (List.mem_cons_of_mem _ hz)
    rw [List.sum_cons, List.length_cons]
    have e : B * ((xs.length + 1 : Nat) : Int) = B * xs.length + B := by rw [Int.natCast_add, Int.mul_add]; simp
    omega
set_option maxRecDepth 100000 in
set_option maxHeartbeats 4000000 in
theorem draw07_any (b : Nat) (bs : List Int) (N : Int) (w : World) (hbs : BsOk bs) (hN : N ≤ 1099510000000) (h : SrcAt b bs N w) :
    Calls Try.prog 131 #[.pointer (some ⟨b, 0, none⟩)] w fun e w' => ∃ (A : Option Addr) (c : Nat) (l : List Int), e = .returned (.slice A l.length c) ∧ w'.ownsRow w.heap.size 2 1 (.slice A l.length c) l.length (l.map (Value.int .i64)) ∧ ((1 ≤ l.length ∧ l.length ≤ 11) ∧ ∀ z ∈ l, -9223372036854775808 ≤ z ∧ z ≤ 9223372036854775807) ∧ SrcAt b bs (N + 20) w' ∧ Only b (b + 1) w w' := by
  obtain ⟨i0, hi0, hz0, hs0, hb0⟩ := info_parts int64_info
  have hbl := h.lt
  have HP := hide fun M n W (hM : M ≤ 1099511000000) (hW : SrcAt b bs M W) => pick_any b bs M n W hbs hM hW
  have HAM := hide fun M g o c xs W (hM : M ≤ 1099511000000) (hW : SrcAt b bs M W) => among_any b bs M g o c xs W hbs hM hW
  have h1 := hide (h.alloc (.cells #[] 2))
  clear h
  go_enter Try.func131, Try.ntmps131
  go_wp2_with (go_at_call 134; refine (HP.out N 4 _ (by omega) h1.out).mono ?_; rintro e w1 ⟨z, rfl, ⟨hz0', hz1', _⟩, hs1, ho1⟩)
  have hz6 := hz1' (by omega)
  obtain ⟨k0, rfl⟩ := Int.eq_ofNat_of_zero_le hz0'
  have hr1 := row_only (own_new0 w w.heap.size 2 1 (Nat.le_refl _)) ho1 (by omega)
  have o1 : Only b (b + 1) w w1 := only_trans (only_of_below ((Below.refl _ _).alloc (Nat.le_refl _) _)) ho1
  have HS1 := hide hs1
  clear hs1 h1 ho1 hz1'
  go_loopg [3, 4] (2 + k0) (fun g s i wr => ∃ (k : Nat) (acc : List Int) (gb cb : Nat), g = k ∧ i = .int .i64 k ∧ k + acc.length = 2 + k0 ∧ s = .slice (some ⟨gb, 0, none⟩) acc.length cb ∧ wr.ownsRow w.heap.size 2 1 (.slice (some ⟨gb, 0, none⟩) acc.length cb) acc.length (acc.map (Value.int .i64)) ∧ Hid (∀ z ∈ acc, 0 ≤ z ∧ z ≤ 5) ∧ Hid (SrcAt b bs (N + 2 + 2 * (acc.length : Int)) wr) ∧ Hid (Only b (b + 1) w wr))
  case atStart => exact ⟨2 + k0, [], w.heap.size, 0, rfl, by go_num, by simp, rfl, hr1, by simp [Hid], HS1.out.more (by simp), o1⟩
  case round =>
    obtain ⟨k, acc, gb, cb, hg, rfl, hka, rfl, hown, HA, HS, HO⟩ := hrel
    clear hr1 HS1 o1
    have HG := hide hg
    clear hg
    have hka1 : k + acc.length ≤ 2 + k0 := by omega
    have hka2 : 2 + k0 ≤ k + acc.length := by omega
    clear hka
    by_cases hlt : 0 < k
    · have hkn : (0 : Int) < (k : Int) := by omega
      have hzw := HO.out.size
      have HC := hide (HP.out (N + 2 + 2 * (acc.length : Int)) 6 _ (by omega) HS.out)
      go_wp2_with (first | (go_at_call 134; refine (HC.out).mono ?_; rintro e w2 ⟨y, rfl, ⟨hy0, hy1', _⟩, hs2, ho2⟩; have hy1 := hy1' (by omega); have hr2 := row_only hown ho2 (by omega); have oo2 := only_trans HO.out ho2; have hz2 := ho2.size) | (at_builtin; go_must (refine wp_app _ rfl _ _ 22 rfl (w.heap.size) 2 i0 (.int .i64 0) 1 8 Try.underlying22 hi0 hz0 hs0 hb0 rfl (by decide) _ _ _ rfl (hr2.alloc _) _ _ 1 1 [.int .i64 y] rfl rfl (rd_new _ _ _ _ (by first | rfl | simp)) (int_one _) (by omega) (by decide) (by first | omega | (simp <;> omega) | (simp; omega)) ?_); intro v4 w4 hown4 hgrow4 hat4))
      have oA := hr2.alloc (.cells #[.int .i64 y] 2)
      have o4 := only_app (only_alloc oo2 (.cells #[.int .i64 y] 2)) oA hgrow4 (Nat.le_refl _)
      have s4 := (hs2.alloc (.cells #[.int .i64 y] 2)).grown hgrow4 (fun g e => by have := (oA.lt g e).1; omega)
      obtain ⟨A9, c9, rfl, _⟩ := own_shape hown4
      obtain ⟨g9, rfl, _, _⟩ : ∃ g, A9 = some ⟨g, 0, none⟩ ∧ w.heap.size ≤ g ∧ g < w4.heap.size := by
        rcases own_block hown4 with ⟨_, h0, _⟩ | h0
        · omega
        · exact h0
      go_roundg (k - 1)
      case measure => have := HG.out; omega
      case rel =>
        refine ⟨k - 1, acc ++ [y], g9, c9, rfl, ?_, by simp; omega, by simp, by rw [List.length_append, List.map_append]; exact hown4, ?_, s4.more (by simp; omega), o4⟩
        · congr 1; omega
        · intro z hz
          rcases List.mem_append.1 hz with hz | hz
          · exact HA.out z hz
          · rw [List.mem_singleton] at hz; subst hz; omega
    · obtain rfl : k = 0 := by omega
      have hzw := HO.out.size
      have HROW := hide hown
      have HC := hide (HP.out (N + 2 + 2 * (acc.length : Int)) 20 _ (by omega) HS.out)
      have hgb := (hown.lt gb rfl).1
      have hcb : acc.length ≤ cb := by
        obtain ⟨_, _, e, h, _⟩ := own_shape hown
        simp only [Value.slice.injEq] at e
        omega
      clear hown HS
      go_upto_if 20 with (go_at_call 134; (with_reducible refine (HC.out).mono ?_); rintro e w2 ⟨v, rfl, _, hs2, ho2⟩)
      have HR2 := hide (row_only HROW.out ho2 (by omega))
      have HS2 := hide hs2
      have HO2 := hide (only_trans HO.out ho2)
      have hz2 := ho2.size
      have hg2 := (HR2.out.lt gb rfl).2
      clear hs2 ho2 HC HROW HO
      obtain ⟨y0, rest, rfl⟩ : ∃ y0 rest, acc = y0 :: rest := by
        cases acc with
        | nil => simp at hka2
        | cons y r => exact ⟨y, r, rfl⟩
      by_cases hv0 : v = 0
      · subst hv0
        have hb5 := sum_le (xs := rest) (B := 5) (fun z hz => HA.out z (List.mem_cons_of_mem _ hz))
        have hrl : rest.length ≤ 4 := by simp at hka1; omega
        have hsm0 := hb5.1
        have hsm1 : rest.sum ≤ 20 := by omega
        have HSUM := hide (l00Sum_any rest (some ⟨gb, 0 + 1, none⟩) (cb - 1) w2 (by omega) (fun z hz => by have := HA.out z (List.mem_cons_of_mem _ hz); omega) (by have h := RdI.drop (Rd.of_own HR2.out) 1; exact h))
        have e1 : (y0 :: rest).length - 1 = rest.length := by simp
        clear hb5
        generalize rest.sum = sm at *
        have hwn : IntKind.i64.wrap (200 - sm) = 200 - sm := by rw [IntKind.wrap_i64] <;> omega
        have HS4 := hide (HS2.out.alloc (.cells #[.int .i64 (-1), .int .i64 0, .int .i64 (200 - sm), .int .i64 200, .int .i64 201, .int .i64 (-9223372036854775808)] 2))
        have HR4 := hide (HR2.out.alloc (.cells #[.int .i64 (-1), .int .i64 0, .int .i64 (200 - sm), .int .i64 200, .int .i64 201, .int .i64 (-9223372036854775808)] 2))
        have HO4 := hide (only_alloc HO2.out (.cells #[.int .i64 (-1), .int .i64 0, .int .i64 (200 - sm), .int .i64 200, .int .i64 201, .int .i64 (-9223372036854775808)] 2))
        have ham : Calls Try.prog 150 #[.pointer (some ⟨b, 0, none⟩), .slice (some ⟨w2.heap.size, 0, none⟩) 6 6] (w2.alloc (.cells #[.int .i64 (-1), .int .i64 0, .int .i64 (200 - sm), .int .i64 200, .int .i64 201, .int .i64 (-9223372036854775808)] 2)) fun e w' => ∃ z, e = .returned (.int .i64 z) ∧ z ∈ ([(-1), 0, 200 - sm, 200, 201, -9223372036854775808] : List Int) ∧ SrcAt b bs (N + 2 + 2 * ((y0 :: rest).length : Int) + 2 + 2) w' ∧ Only b (b + 1) (w2.alloc (.cells #[.int .i64 (-1), .int .i64 0, .int .i64 (200 - sm), .int .i64 200, .int .i64 201, .int .i64 (-9223372036854775808)] 2)) w' := HAM.out (N + 2 + 2 * ((y0 :: rest).length : Int) + 2) w2.heap.size 0 6 ([(-1), 0, 200 - sm, 200, 201, -9223372036854775808] : List Int) _ (by omega) HS4.out (by omega) (by simp) (by simp) (by simp) (fun j z hj => by
            match j, hj with
            | 0, hj => simp at hj; subst hj; simp [go_sem]
            | 1, hj => simp at hj; subst hj; simp [go_sem]
            | 2, hj => simp at hj; subst hj; simp [go_sem]
            | 3, hj => simp at hj; subst hj; simp [go_sem]
            | 4, hj => simp at hj; subst hj; simp [go_sem]
            | 5, hj => simp at hj; subst hj; simp [go_sem]
            | j + 6, hj => simp at hj)
        have HAMH := hide ham
        clear ham
        rw [List.length_cons] at *
        go_wp2_with (first | (go_at_call 121; (with_reducible refine (HSUM.out).mono ?_); rintro e' w3 ⟨rfl, rfl⟩) | (go_at_call 150; (with_reducible refine (HAMH.out).mono ?_); rintro e w4 ⟨z, rfl, hz, hs4, ho4⟩; have HR5 := hide (row_only HR4.out ho4 (by omega)); have c5 : w4.cell? ⟨gb, 0, none⟩ = some (.int .i64 y0) := (by rw [HR5.out.cellAt 0 (by simp)]; rfl); have f5 := HR5.out.frozenAt 0; have HST := hide (HR5.out.stored 0 (.int .i64 z))))
        go_ret
        have hzb : -9223372036854775808 ≤ z ∧ z ≤ 9223372036854775807 := by simp at hz; omega
        refine ⟨_, _, z :: rest, by rw [List.length_cons]; rfl, HST.out.1, ⟨⟨by simp, by simp; omega⟩, fun u hu => ?_⟩, (hs4.grown HST.out.2 (fun g h => by have h0 : (some gb : Option Nat) = some g := h; have h1 := Option.some.inj h0; omega)).more (by omega), only_grown (only_trans HO4.out ho4) HST.out.2 (fun g h => by have h0 : (some gb : Option Nat) = some g := h; have h1 := Option.some.inj h0; omega)⟩
        rcases List.mem_cons.1 hu with rfl | hu
        · exact hzb
        · have := HA.out u (List.mem_cons_of_mem _ hu); omega
      · have hB0 : (v == 0) = false := by simp [hv0]
        by_cases hv1 : v = 1
        · subst hv1
          have HS4 := hide (HS2.out.alloc (.cells #[.int .i64 1, .int .i64 2, .int .i64 10, .int .i64 11] 2))
          have HO4 := hide (only_alloc HO2.out (.cells #[.int .i64 1, .int .i64 2, .int .i64 10, .int .i64 11] 2))
          have ham : Calls Try.prog 150 #[.pointer (some ⟨b, 0, none⟩), .slice (some ⟨w2.heap.size, 0, none⟩) 4 4] (w2.alloc (.cells #[.int .i64 1, .int .i64 2, .int .i64 10, .int .i64 11] 2)) fun e w' => ∃ z, e = .returned (.int .i64 z) ∧ z ∈ ([1, 2, 10, 11] : List Int) ∧ SrcAt b bs (N + 2 + 2 * ((y0 :: rest).length : Int) + 2 + 2) w' ∧ Only b (b + 1) (w2.alloc (.cells #[.int .i64 1, .int .i64 2, .int .i64 10, .int .i64 11] 2)) w' := HAM.out (N + 2 + 2 * ((y0 :: rest).length : Int) + 2) w2.heap.size 0 4 ([1, 2, 10, 11] : List Int) _ (by omega) HS4.out (by omega) (by simp) (by simp) (by simp) (fun j z hj => by
              match j, hj with
              | 0, hj => simp at hj; subst hj; simp [go_sem]
              | 1, hj => simp at hj; subst hj; simp [go_sem]
              | 2, hj => simp at hj; subst hj; simp [go_sem]
              | 3, hj => simp at hj; subst hj; simp [go_sem]
              | j + 4, hj => simp at hj)
          have HAMH := hide ham
          clear ham
          have hzz : w.heap.size ≤ w2.heap.size + 1 := by omega
          go_wp2_with (first | (go_at_call 150; (with_reducible refine (HAMH.out).mono ?_); rintro e w4 ⟨z, rfl, hz, hs4, ho4⟩; obtain ⟨n, rfl, hn1, hn11⟩ : ∃ n : Nat, z = n ∧ 1 ≤ n ∧ n ≤ 11 := (by simp at hz; exact ⟨z.toNat, by omega, by omega, by omega⟩); have hz4 : w.heap.size ≤ w4.heap.size := (by have := ho4.size; simp at this; omega); have HS5 := hide hs4; have HO5 := hide ho4; clear hz hs4 ho4) | (refine wpList_make_full _ rfl _ _ _ rfl w.heap.size 2 i0 _ 1 Try.underlying22 hi0 hz0 hs0 .i64 .i64 (n : Int) (n : Int) n rfl rfl rfl rfl (by rw [hb0]; omega) (by unfold maxLen; omega) hz4 ?_; intro w5 hown5 hgr5))
          go_ret
          have hrow : w5.ownsRow w.heap.size 2 1 (.slice (some ⟨w4.heap.size, 0, none⟩) n n) n ((List.replicate n (0 : Int)).map (Value.int .i64)) := by
            have h := made_ints n
            rw [← h]; exact hown5
          refine ⟨some ⟨w4.heap.size, 0, none⟩, n, List.replicate n 0, by rw [List.length_replicate]; rfl, by rw [List.length_replicate]; exact hrow, ⟨⟨by rw [List.length_replicate]; exact hn1, by rw [List.length_replicate]; exact hn11⟩, fun u hu => by rw [List.eq_of_mem_replicate hu]; omega⟩, (HS5.out.grown hgr5 (fun g h => by cases h)).more (by omega), only_grown (only_trans HO4.out HO5.out) hgr5 (fun g h => by cases h)⟩
        · have hB1 : (v == 1) = false := by simp [hv1]
          have HV := hide hv0
          have HV1 := hide hv1
          clear hv0 hv1
          go_wp2_with fail
          go_ret
          exact ⟨_, _, y0 :: rest, rfl, HR2.out, ⟨⟨by simp, by omega⟩, fun u hu => by have := HA.out u hu; omega⟩, HS2.out.more (by omega), HO2.out⟩
end Go.Proofs.Ytklfjekpeoigoaa
namespace Go.Proofs.Ytklfjekpeoigoaa
open Go.RowKit
end Go.Proofs.Ytklfjekpeoigoaa
namespace Go.Proofs.Ytklfjekpeoigoaa
open Go.RowKit

theorem S_ValidStock (x : List Int) (v : Value) (w : World) (hs : x.length ≤ 1048576) (_ : ∀ z ∈ x, -9223372036854775808 ≤ z ∧ z ≤ 9223372036854775807) (h : R_Int64S w w.heap.size v x) :
    Calls Try.prog 38 #[v] w fun e w' => e = .returned (.bool (vStock x)) ∧ Below w.heap.size w w' := by
  obtain ⟨A, c, rfl, r⟩ := h
  exact (specValidStock_any x A c w hs r).mono fun e w' ⟨he, hw⟩ => ⟨he, by subst hw; exact Below.refl _ _⟩
theorem P_ValidStock (x : List Int) (v : Value) (w : World) (hs : x.length ≤ 1048576) (_ : ∀ z ∈ x, -9223372036854775808 ≤ z ∧ z ≤ 9223372036854775807) (h : R_Int64S w w.heap.size v x) :
    Calls Try.prog 37 #[v] w fun e w' => e = .returned (.bool (vStock x)) ∧ Below w.heap.size w w' := by
  obtain ⟨A, c, rfl, r⟩ := h
  exact implValidStock_any x A c w hs r
end Go.Proofs.Ytklfjekpeoigoaa
