/-
  Drawn times and wishes, off bytes; small helpers of the laws.
-/
import Derived.Test.YtfhociekhffjhaaSrc4
import Derived.Test.YtfhociekhffjhaaRunO
namespace Go.Proofs.Ytfhociekhffjhaa
open Go.RowKit

theorem small_drawn {n : Nat} : ∀ {l : List TN}, (∀ e ∈ l, WDrawn n e) → (l.map fun e => e.way.length).sum ≤ 4 * l.length := by
  intro l
  induction l with
  | nil => intro _; simp
  | cons e l ih =>
    intro h
    rw [List.map_cons, List.sum_cons, List.length_cons]
    have h1 := (h e (List.mem_cons_self ..)).1.1.2
    have h2 := ih fun x hx => h x (List.mem_cons_of_mem _ hx)
    omega
theorem below_of_src {w w1 w2 : World} (h : Below w.heap.size w w1) (k : Only w.heap.size (w.heap.size + 1) w1 w2) : Below w.heap.size w w2 := h.trans (k.below (Nat.le_refl _) h.size)
set_option maxRecDepth 100000 in
set_option maxHeartbeats 4000000 in
theorem a2Times_any (bs : List Int) (A : Option Addr) (c : Nat) (w : World) (hbs : BsOk bs) (h1 : RdB w w.heap.size A bs) :
    Calls Try.prog 12 #[.slice A bs.length c] w fun e w' => ∃ (A : Option Addr) (c : Nat) (ts : List Int), e = .returned (.slice A ts.length c) ∧ O_Int64S w' w.heap.size w'.heap.size (.slice A ts.length c) ts ∧ ((1 ≤ ts.length ∧ ts.length ≤ 6) ∧ ∀ z ∈ ts, 1 ≤ z ∧ z ≤ 12) ∧ Below w.heap.size w w' := by
  have HF := hide (l00From_any bs A c w hbs.1 h1)
  have HT := hide fun W (hW : SrcAt w.heap.size bs 0 W) => drawTimes_any w.heap.size bs 0 W hbs (by omega) hW
  clear h1
  go_enter Try.func12, Try.ntmps12
  go_wp2_with (go_at_call 93; refine (HF.out).mono ?_; rintro e w1 ⟨rfl, hs1, hz1, hb1⟩)
  have HS := hide hs1
  have HZ := hide hz1
  clear hs1 hz1 HF
  go_wp2_with (go_at_call 92; refine (HT.out _ HS.out).mono ?_; rintro e w2 ⟨A2, c2, ts, rfl, hown, ⟨⟨hl1, hl2⟩, hb⟩, hs2, ho2⟩)
  go_ret
  have hO : O_Int64S w2 w.heap.size w2.heap.size (.slice A2 ts.length c2) ts := OwnV.of_row (own_base hown hb1.size) (by omega)
  exact ⟨A2, c2, ts, rfl, hO, ⟨⟨hl1, hl2⟩, hb⟩, below_of_src hb1 ho2⟩
set_option maxRecDepth 100000 in
set_option maxHeartbeats 4000000 in
theorem a2Wishes_any (bs : List Int) (A : Option Addr) (c : Nat) (A2 : Option Addr) (n c2 : Nat) (w : World) (hbs : BsOk bs) (hn : 1 ≤ n) (hn6 : n ≤ 1000) (h1 : RdB w w.heap.size A bs) :
    Calls Try.prog 21 #[.slice A bs.length c, .slice A2 n c2] w fun e w' => ∃ (A3 : Option Addr) (c3 : Nat) (l : List TN), e = .returned (.slice A3 l.length c3) ∧ O_WishS w' w.heap.size w'.heap.size (.slice A3 l.length c3) l ∧ (l.length ≤ 4 ∧ ∀ e ∈ l, WDrawn n e) ∧ Below w.heap.size w w' := by
  obtain ⟨i0, hi0, hz0, hs0, hb0⟩ := info_parts WishS_info
  have HF := hide (l00From_any bs A c w hbs.1 h1)
  have HP := hide fun M n W (hM : M ≤ 1099511000000) (hW : SrcAt w.heap.size bs M W) => pick_any w.heap.size bs M n W hbs hM hW
  have HNW := hide fun M W (hM : M ≤ 1099509000000) (hW : SrcAt w.heap.size bs M W) => newWish_any w.heap.size bs M n W hbs hM hn hn6 hW
  clear h1
  go_enter Try.func21, Try.ntmps21
  go_wp2_with (go_at_call 93; refine (HF.out).mono ?_; rintro e w1 ⟨rfl, hs1, hz1, hb1⟩)
  have hz1a : w.heap.size + 1 ≤ w1.heap.size := by omega
  have hz1b : w1.heap.size ≤ w.heap.size + 1 := by omega
  have HS := hide (hs1.alloc (.cells #[] 46))
  have HC := hide (HP.out 0 5 _ (by omega) HS.out)
  clear hs1 hz1 HF
  go_wp2_with (go_at_call 105; refine (HC.out).mono ?_; rintro e w2 ⟨z, rfl, ⟨hz0', hz1', _⟩, hs2, ho2⟩)
  have hz5 := hz1' (by omega)
  obtain ⟨k0, rfl⟩ := Int.eq_ofNat_of_zero_le hz0'
  have hr2 := row_only (own_new0 w1 (w.heap.size + 1) 46 3 hz1a) ho2 (Nat.le_refl _)
  have hz1e : w1.heap.size = w.heap.size + 1 := by omega
  rw [hz1e] at hr2
  clear hz1e
  have hr2' : w2.ownsRow (w.heap.size + 1) 46 3 (.slice (some ⟨w.heap.size + 1, 0, none⟩) 0 0) 0 (([] : List (Value × TN)).flatMap (Nc 2)) := hr2
  have o2 : Only w.heap.size (w.heap.size + 1) w1 w2 := only_trans (only_of_below ((Below.refl _ _).alloc (Nat.le_refl _) _)) ho2
  have HS2 := hide hs2
  clear hs2 HS HC ho2 hz1' hr2
  go_loopg [6, 7] k0 (fun g s i wr => ∃ (k : Nat) (ps : List (Value × TN)), g = k ∧ i = .int .i64 k ∧ k + ps.length = k0 ∧ wr.ownsRow (w.heap.size + 1) 46 3 s ps.length (ps.flatMap (Nc 2)) ∧ Hid (FamO wr s.ownBlock (w.heap.size + 1) wr.heap.size ps) ∧ Hid (∀ p ∈ ps, WDrawn n p.2) ∧ Hid (SrcAt w.heap.size bs (2 + 20 * (ps.length : Int)) wr) ∧ Hid (Only w.heap.size (w.heap.size + 1) w1 wr))
  case atStart => exact ⟨k0, [], rfl, by go_num, by simp, hr2', trivial, (fun p hp => by cases hp), HS2.out.more (by simp), o2⟩
  case round =>
    obtain ⟨k, ps, hg, rfl, hka, hown, HFm, HA, HS, HO⟩ := hrel
    clear hr2' HS2 o2
    have HG := hide hg
    clear hg
    have hka1 : k + ps.length ≤ k0 := by omega
    have hka2 : k0 ≤ k + ps.length := by omega
    clear hka
    have hzw := HO.out.size
    by_cases hlt : 0 < k
    · have hkn : (0 : Int) < (k : Int) := by omega
      have HC := hide (HNW.out (2 + 20 * (ps.length : Int)) _ (by omega) HS.out)
      have hlg := hide fun g h => (hown.lt g h).2
      go_wp2_with (first | (go_at_call 106; refine (HC.out).mono ?_; rintro e w3 ⟨A3, c3, x, rfl, hx, hwx, hs3, ho3⟩; have hz3 := ho3.size; have hr3 := row_only hown ho3 (Nat.le_refl _)) | (at_builtin; go_must (refine wp_app _ rfl _ _ 40 rfl (w.heap.size + 1) 46 i0 (.agg #[.slice none 0 0, .int .i64 0, .int .i64 0]) 3 40 Try.underlying40 hi0 hz0 hs0 hb0 rfl (by decide) _ _ _ rfl (hr3.alloc _) _ _ 1 1 [.slice A3 x.way.length c3, .int .i64 x.p, .int .i64 x.q] rfl rfl (rd_new _ _ _ _ (by simp)) (by intro u hu; simp at hu; rcases hu with rfl | rfl | rfl <;> rfl) (by omega) (by decide) (by simp; omega) ?_); intro v4 w4 hown4 hgrow4 hat4))
      have hwl := hwx.1.1.2
      have o3 : O_Int64S w3 wr.heap.size w3.heap.size (.slice A3 x.way.length c3) x.way := OwnV.of_row hx (by omega)
      have F2 : FamO w3 u6.ownBlock (w.heap.size + 1) w3.heap.size (ps ++ [(.slice A3 x.way.length c3, x)]) :=
        (HFm.out.kept ho3 (.inr (Nat.le_refl _))).snoc (hi := w3.heap.size) (p := (.slice A3 x.way.length c3, x)) (Nat.le_refl _) hz3 (Nat.le_refl _) (fun g hg => by have := hlg.out g hg; omega) o3 (by omega)
      have F3 := (F2.below ((Below.refl _ w3).alloc (Nat.le_refl _) (.cells #[.slice A3 x.way.length c3, .int .i64 x.p, .int .i64 x.q] 46)) (Nat.le_refl _)).widen (hi' := (w3.alloc (.cells #[.slice A3 x.way.length c3, .int .i64 x.p, .int .i64 x.q] 46)).heap.size) (by simp) (Nat.le_refl _)
      have oA := hr3.alloc (.cells #[.slice A3 x.way.length c3, .int .i64 x.p, .int .i64 x.q] 46)
      have F4 := famO_grown F3 oA hgrow4 hat4
      have o4 := only_app (only_alloc (only_trans HO.out ho3) (.cells #[.slice A3 x.way.length c3, .int .i64 x.p, .int .i64 x.q] 46)) oA hgrow4 (by omega)
      have s4 := (hs3.alloc (.cells #[.slice A3 x.way.length c3, .int .i64 x.p, .int .i64 x.q] 46)).grown hgrow4 (fun g e => by have := (oA.lt g e).1; omega)
      go_roundg (k - 1)
      case measure => have := HG.out; omega
      case rel =>
        refine ⟨k - 1, ps ++ [(.slice A3 x.way.length c3, x)], rfl, ?_, by simp; omega, by rw [List.length_append, List.flatMap_append]; exact hown4, hide F4, ?_, s4.more (by simp; omega), o4⟩
        · congr 1; omega
        · intro p hp
          rcases List.mem_append.1 hp with hp | hp
          · exact HA.out p hp
          · rw [List.mem_singleton] at hp; subst hp; exact hwx
    · obtain rfl : k = 0 := by omega
      obtain ⟨Ao, co, hsh, _, _⟩ := own_shape hown
      subst hsh
      go_wp2_with fail
      go_ret
      have hml : (ps.map (·.2)).length = ps.length := List.length_map ..
      have hall : ∀ e ∈ ps.map (·.2), WDrawn n e := fun e he => by
        obtain ⟨p, hp, rfl⟩ := List.mem_map.1 he
        exact HA.out p hp
      refine ⟨Ao, co, ps.map (·.2), by rw [hml]; rfl, ?_, ⟨by omega, hall⟩, below_of_src hb1 HO.out⟩
      refine ⟨ps, rfl, ?_, ?_, ?_⟩
      · rw [hml]; exact OwnV.of_row (own_base hown (by omega)) (by omega)
      · rw [hml]; exact (HFm.out : FamO wr _ _ _ _).widen (Nat.le_refl _) (by omega)
      · have := small_drawn hall
        unfold SmallN
        omega
set_option maxRecDepth 100000 in
set_option maxHeartbeats 1000000 in
theorem a2Long_any (n m : Nat) (A A2 : Option Addr) (c c2 : Nat) (w : World) (hn : n ≤ 9223372036854775807) (hm : m ≤ 9223372036854775807) :
    Calls Try.prog 11 #[.slice A n c, .slice A2 m c2] w fun e w' => e = .returned (.bool (decide (3000 < n ∨ 3000 < m))) ∧ w = w' := by
  by_cases h1 : 3000 < n
  · have hR : decide (3000 < n ∨ 3000 < m) = true := decide_eq_true (.inl h1)
    have HR := hide hR
    have h1' : (3000 : Int) < (n : Int) := by omega
    clear hR
    go_enter Try.func11, Try.ntmps11
    go_wp2_with fail
    go_ret
    exact ⟨ret_b HR.out.symm, rfl⟩
  by_cases h2 : 3000 < m
  · have hR : decide (3000 < n ∨ 3000 < m) = true := decide_eq_true (.inr h2)
    have HR := hide hR
    have h1' : decide ((3000 : Int) < (n : Int)) = false := decide_eq_false (by omega)
    have h2' : decide ((3000 : Int) < (m : Int)) = true := decide_eq_true (by omega)
    clear hR
    go_enter Try.func11, Try.ntmps11
    go_wp2_with fail
    go_ret
    exact ⟨ret_b HR.out.symm, rfl⟩
  · have hR : decide (3000 < n ∨ 3000 < m) = false := decide_eq_false (by omega)
    have HR := hide hR
    have h1' : decide ((3000 : Int) < (n : Int)) = false := decide_eq_false (by omega)
    have h2' : decide ((3000 : Int) < (m : Int)) = false := decide_eq_false (by omega)
    clear hR
    go_enter Try.func11, Try.ntmps11
    go_wp2_with fail
    go_ret
    exact ⟨ret_b HR.out.symm, rfl⟩
set_option maxRecDepth 100000 in
set_option maxHeartbeats 4000000 in
theorem a2Has_any (xs : List Int) (v : Int) (A : Option Addr) (c : Nat) (w : World) (hx : xs.length ≤ 1048576) (h1 : RdI w w.heap.size A xs) :
    Calls Try.prog 24 #[.slice A xs.length c, .int .i64 v] w fun e w' => e = .returned (.bool (hasI xs v)) ∧ w = w' := by
  have HX := hide h1; clear h1
  go_enter Try.func24, Try.ntmps24
  go_wp2_with fail
  go_loopg [5] xs.length (fun g i wr => ∃ k : Nat, k ≤ xs.length ∧ Hid (g = xs.length - k) ∧ i = .int .i64 k ∧ Hid (hasI xs v = hasI (xs.drop k) v) ∧ w = wr)
  case atStart => exact ⟨0, by omega, by simp [Hid], rfl, by simp [Hid], rfl⟩
  case round =>
    obtain ⟨k, hk, hg, rfl, HS, rfl⟩ := hrel
    by_cases hlt : k < xs.length
    · obtain ⟨b1, o1, z1, rfl, _, hz1, hca⟩ := HX.out.at_ hlt
      have HS' := HS.out
      rw [drop_cons hz1, hasI, hasI, List.any_cons] at HS'
      have HQ : Hid (hasI xs v = (decide (z1 = v) || hasI (xs.drop (k + 1)) v)) := HS'
      clear HS' HS hz1
      by_cases he : z1 = v
      · have hB : (z1 == v) = true := by simp [he]
        have HN := hide (show hasI xs v = true by rw [HQ.out, decide_eq_true he]; rfl)
        clear he
        go_wp2_with fail
        go_ret
        exact ⟨ret_b HN.out.symm, rfl⟩
      · have hB : (z1 == v) = false := by simp [he]
        have HN := hide (show hasI xs v = hasI (xs.drop (k + 1)) v by rw [HQ.out, decide_eq_false he]; rfl)
        clear he
        go_wp2_with fail
        go_roundg (xs.length - (k + 1))
        case measure => have := hg.out; omega
        case rel => exact ⟨k + 1, by omega, rfl, by go_num, HN, rfl⟩
    · have HN := hide (show hasI xs v = false by rw [HS.out, List.drop_eq_nil_of_le (by omega)]; rfl)
      go_wp2_with fail
      go_ret
      exact ⟨ret_b HN.out.symm, rfl⟩
end Go.Proofs.Ytfhociekhffjhaa
