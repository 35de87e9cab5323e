/-
  The order that the laws draw: an order of n things.
-/
import Derived.Test.YtfhociekhffjhaaSrc9
import Derived.Test.YtfhociekhffjhaaRunO
import Derived.Test.YtfhociekhffjhaaRunS
import Derived.Test.YtfhociekhffjhaaLawH
import Derived.Test.YtfhociekhffjhaaRows
import Derived.ProofKit
namespace Go.Proofs.Ytfhociekhffjhaa
open Go.ChangeShapes Go.WideShapes Go.ChangeAt Go.RowKit

def GoodTo (k : Nat) (xs : List Int) : Prop := xs.length = k ∧ (∀ z ∈ xs, 0 ≤ z ∧ z < k) ∧ xs.Nodup
theorem GoodTo.insert {k : Nat} {xs : List Int} (h : GoodTo k xs) (j : Nat) : GoodTo (k + 1) (xs.take j ++ [(k : Int)] ++ xs.drop j) := by
  obtain ⟨h1, h2, h3⟩ := h
  have hp : (xs.take j ++ [(k : Int)] ++ xs.drop j).Perm ((k : Int) :: xs) := by
    have h : (xs.take j ++ ((k : Int) :: xs.drop j)).Perm ((k : Int) :: (xs.take j ++ xs.drop j)) := List.perm_middle
    rw [List.take_append_drop] at h
    rw [List.append_assoc]
    exact h
  refine ⟨by rw [hp.length_eq, List.length_cons, h1], fun z hz => ?_, hp.nodup_iff.2 (List.nodup_cons.2 ⟨fun hm => ?_, h3⟩)⟩
  · rcases List.mem_cons.1 (hp.mem_iff.1 hz) with rfl | hz
    · omega
    · have := h2 z hz; omega
  · have := h2 _ hm; omega
set_option maxRecDepth 100000 in
set_option maxHeartbeats 1000000 in
theorem own00_any (xs : List Int) (A : Option Addr) (c : Nat) (w : World) (hx : xs.length ≤ 1048576) (h1 : RdI w w.heap.size A xs) :
    Calls Try.prog 125 #[.slice A xs.length c] w fun e w' => ∃ A' c', e = .returned (.slice A' xs.length c') ∧ w'.ownsRow w.heap.size 2 1 (.slice A' xs.length c') xs.length (xs.map (Value.int .i64)) ∧ Below w.heap.size w w' := by
  obtain ⟨i0, hi0, hz0, hs0, hb0⟩ := info_parts int64_info
  have HX := hide h1; clear h1
  go_enter Try.func125, Try.ntmps125
  have ho0 := own_new0 w w.heap.size 2 1 (Nat.le_refl _)
  have hb1 : Below w.heap.size w (w.alloc (.cells #[] 2)) := (Below.refl _ _).alloc (Nat.le_refl _) _
  have HR := hide (Rd.below HX.out hb1)
  go_wp2_with (at_builtin; go_must (refine wp_app _ rfl _ _ 24 rfl w.heap.size 2 i0 (.int .i64 0) 1 8 Try.underlying24 hi0 hz0 hs0 hb0 rfl (by decide) _ _ _ rfl ho0 _ _ xs.length c _ rfl (by simp) HR.out (ints_one _) (by omega) (by decide) (by simp) ?_); intro v' w1 hown' hgrow hat)
  go_ret
  simp only [Nat.zero_add, List.nil_append] at hown'
  obtain ⟨A', c', rfl, _⟩ := own_shape hown'
  exact ⟨A', c', rfl, hown', app_below hb1 ho0 hgrow (Nat.le_refl _) (by simp)⟩
set_option maxRecDepth 100000 in
set_option maxHeartbeats 4000000 in
theorem a2Order_any (bs : List Int) (A : Option Addr) (c : Nat) (n : Nat) (w : World) (hbs : BsOk bs) (hn : n ≤ 1000) (h1 : RdB w w.heap.size A bs) :
    Calls Try.prog 63 #[.slice A bs.length c, .int .i64 n] w fun e w' => ∃ (A3 : Option Addr) (c3 : Nat) (xs : List Int), e = .returned (.slice A3 xs.length c3) ∧ O_Int64S w' w.heap.size w'.heap.size (.slice A3 xs.length c3) xs ∧ GoodTo n xs ∧ Below w.heap.size w w' := by
  obtain ⟨i0, hi0, hz0, hs0, hb0⟩ := info_parts int64_info
  have HF := hide (l00From_any bs A c w hbs.1 h1)
  have HP := hide fun M n W (hM : M ≤ 1099511000000) (hW : SrcAt w.heap.size bs M W) => pick_any w.heap.size bs M n W hbs hM hW
  clear h1
  go_enter Try.func63, Try.ntmps63
  go_wp2_with (go_at_call 93; refine (HF.out).mono ?_; rintro e w1 ⟨rfl, hs1, hz1, hb1⟩)
  have HS1 := hide (hs1.alloc (.cells #[] 2))
  have HB1 := hide (hb1.alloc (by omega) (.cells #[] 2))
  have hr1 : (w1.alloc (.cells #[] 2)).ownsRow (w.heap.size + 1) 2 1 (.slice (some ⟨w1.heap.size, 0, none⟩) 0 0) 0 (([] : List Int).map (Value.int .i64)) := own_new0 w1 (w.heap.size + 1) 2 1 (by omega)
  clear hs1 hb1 HF
  go_loopg [6, 7] n (fun g s i wr => ∃ (k : Nat) (xs : List Int) (gb cb : Nat), k ≤ n ∧ Hid (g = n - k) ∧ i = .int .i64 k ∧ s = .slice (some ⟨gb, 0, none⟩) k cb ∧ Hid (GoodTo k xs) ∧ wr.ownsRow (w.heap.size + 1) 2 1 (.slice (some ⟨gb, 0, none⟩) k cb) k (xs.map (Value.int .i64)) ∧ Hid (SrcAt w.heap.size bs (2 * (k : Int)) wr) ∧ Hid (Below w.heap.size w wr))
  case atStart => exact ⟨0, [], w1.heap.size, 0, by omega, by simp [Hid], by go_num, by simp, ⟨rfl, by simp, List.nodup_nil⟩, hr1, HS1.out, HB1.out⟩
  case round =>
    obtain ⟨k, xs, gb, cb, hk, hg, rfl, rfl, HG, hown, HS, HB⟩ := hrel
    clear hr1 HS1 HB1
    by_cases hlt : k < n
    · have HC := hide (HP.out (2 * (k : Int)) ((k : Int) + 1) _ (by omega) HS.out)
      have hcb : k ≤ cb := by
        obtain ⟨_, _, e, h, _⟩ := own_shape hown
        simp only [Value.slice.injEq] at e
        omega
      have hxl : xs.length ≤ k := by have := HG.out.1; omega
      have hxk : k ≤ xs.length := by have := HG.out.1; omega
      have HOW := hide hown
      have HCO := hide fun (j : Nat) W (hj : j ≤ k) (hW : Only w.heap.size (w.heap.size + 1) wr W) => by
        have h := own00_any (xs.take j) (some ⟨gb, 0, none⟩) cb W (by rw [List.length_take]; omega) (RdI.take (Rd.of_own (row_only HOW.out hW (Nat.le_refl _))) j)
        rw [List.length_take_of_le (by omega)] at h
        exact h
      clear hown
      go_wp2_with (first | (go_at_call 105; refine (HC.out).mono ?_; rintro e w2 ⟨z, rfl, ⟨hz0', hz1', _⟩, hs2, ho2⟩; obtain ⟨j, rfl⟩ := Int.eq_ofNat_of_zero_le hz0'; have hjk : j ≤ k := (by have := hz1' (by omega); omega); have hjk2 : (j : Int) ≤ (k : Int) := (by omega); have hjc : (j : Int) ≤ (cb : Int) := (by omega); have HS2 := hide hs2; have HO2 := hide ho2; clear hs2 ho2 hz1') | (go_at_call 125; refine (HCO.out j _ hjk HO2.out).mono ?_; rintro e w3 ⟨A3, c3, rfl, hown3, hb3⟩; have hz23 := hb3.size) | (at_builtin; have hq5 := hown4; go_must (refine wp_app _ rfl _ _ 24 rfl w2.heap.size 2 i0 (.int .i64 0) 1 8 Try.underlying24 hi0 hz0 hs0 hb0 rfl (by decide) _ _ _ rfl hown4 _ _ (k - j) (cb - j) _ rfl (by simp; omega) HRD.out (ints_one _) (by omega) (by decide) (by omega) ?_); intro v5 w5 hown5 hgr5 hat5) | ((at_builtin; go_must (refine wp_app _ rfl _ _ 24 rfl (w2.heap.size) 2 i0 (.int .i64 0) 1 8 Try.underlying24 hi0 hz0 hs0 hb0 rfl (by decide) _ _ _ rfl (hown3.alloc _) _ _ 1 1 [.int .i64 k] rfl rfl (rd_new _ _ _ _ (by first | rfl | simp)) (int_one _) (by omega) (by decide) (by first | omega | (simp <;> omega) | (simp; omega)) ?_); intro v4 w4 hown4 hgr4 hat4); have b4 := app_below (hb3.alloc hb3.size (.cells #[.int .i64 k] 2)) (hown3.alloc (.cells #[.int .i64 k] 2)) hgr4 (Nat.le_refl _) (by have := hb3.size; simp; omega); have hrd4 := RdI.more (RdI.below (RdI.drop (Rd.of_own (row_only HOW.out HO2.out (Nat.le_refl _))) j) b4) b4.size; rw [Nat.zero_add] at hrd4; have hrd5 : RdI w4 w4.heap.size (if cb = j then some ⟨gb, 0, none⟩ else some ⟨gb, j, none⟩) (xs.drop j) := (by by_cases hh : cb = j; (rw [List.drop_eq_nil_of_le (by omega)]; exact Rd.nil _ _ _); (rw [if_neg hh]; exact hrd4)); have HRD := hide hrd5; clear hrd5; have HB4 := hide b4; have hz24 := b4.size; clear hrd4 b4))
      all_goals (
        have hlen5 : j + 1 + (k - j) = k + 1 := by omega
        obtain ⟨A5, c5, rfl, _⟩ := own_shape hown5
        obtain ⟨g5, rfl, hg5, hg5'⟩ := own_posN hown5 (by omega)
        have hB3 := below_of_src HB.out HO2.out
        have hB4 := hB3.trans (HB4.out.mono hB3.size)
        have hB5 := app_below HB4.out hown4 hgr5 (Nat.le_refl _) (by omega)
        have hBf := hB3.trans (hB5.mono hB3.size)
        have hSf := HS2.out.below hB5 HS2.out.lt
        have hzb := hB3.size
        have hzs := HS2.out.lt
        rw [hlen5] at hown5
        have hownf := own_base hown5 (show w.heap.size + 1 ≤ w2.heap.size by omega)
        have hGf := HG.out.insert j
        go_roundg (n - (k + 1))
        case measure => have := hg.out; omega
        case rel => exact ⟨k + 1, xs.take j ++ [(k : Int)] ++ xs.drop j, g5, c5, by omega, rfl, by go_num, by rw [hlen5], hGf, by simpa using hownf, hSf.more (by omega), hBf⟩)
    · go_wp2_with fail
      go_ret
      have hkn : k = n := by omega
      subst hkn
      have hl := HG.out.1
      exact ⟨some ⟨gb, 0, none⟩, cb, xs, by rw [hl]; rfl, by rw [← hl] at hown; exact OwnV.of_row (own_base hown (Nat.le_succ _)) (by omega), HG.out, HB.out⟩
end Go.Proofs.Ytfhociekhffjhaa
