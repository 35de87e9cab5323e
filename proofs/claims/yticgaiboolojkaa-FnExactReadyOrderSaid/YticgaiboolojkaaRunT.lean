/-
  The orders by dues and by readiness; in the reference.
-/
import Derived.Test.YticgaiboolojkaaRunS
namespace Go.Proofs.Yticgaiboolojkaa
open Go.RowKit

def orderOf (key : TN → Int) (ts : List Int) (l : List TN) : List Int × Int := if vWishes ts l = true then (sortK (l.map key) l.length, 0) else ([], 1)
set_option maxRecDepth 100000 in
set_option maxHeartbeats 4000000 in
theorem S_DueOrder (ts : List Int) (v : Value) (l : List TN) (u : Value) (w : World) (h0 : ts.length ≤ 1048576) (_ : ∀ z ∈ ts, -9223372036854775808 ≤ z ∧ z ≤ 9223372036854775807) (h : R_Int64S w w.heap.size v ts) (hs : SmallN l) (_ : ∀ e ∈ l, e.Fits) (k : R_WishS w w.heap.size u l) :
    Calls Try.prog 43 #[v, u] w fun e w' => ∃ r, e = .returned (.tuple #[r, .int .i64 (orderOf TN.q ts l).2]) ∧ O_Int64S w' w.heap.size w'.heap.size r (orderOf TN.q ts l).1 ∧ Below w.heap.size w w' := by
  obtain ⟨A0, c0, rfl, h1⟩ := h
  obtain ⟨A, c, rfl, h2⟩ := k
  have HC := hide (l08Ok_any ts l A0 c0 A c w h0 hs h1 h2)
  have HX := hide h2
  clear h1 h2
  cases hcd : vWishes ts l
  · have HR := hide (show orderOf TN.q ts l = ([], 1) by simp [orderOf, hcd])
    rw [hcd] at HC
    clear hcd
    go_enter Try.func43, Try.ntmps43
    go_wp2_with (go_at_call 56; refine (HC.out).mono ?_; rintro e w' ⟨rfl, rfl⟩)
    go_ret2
    exact ⟨_, by rw [HR.out]; rfl, by rw [HR.out]; exact O_Int64S.nil _ _ _ _ _, Below.refl _ _⟩
  have HR := hide (show orderOf TN.q ts l = (sortK (l.map TN.q) l.length, 0) by simp [orderOf, hcd])
  have hl6 := (vWishes_iff.1 hcd).2.1
  rw [hcd] at HC
  clear hcd
  obtain ⟨i0, hi0, hz0, hs0, hb0⟩ := info_parts int64_info
  go_enter Try.func43, Try.ntmps43
  go_wp2_with (go_at_call 56; refine (HC.out).mono ?_; rintro e w' ⟨rfl, rfl⟩)
  have ho1 := own_new0 w w.heap.size 2 1 (Nat.le_refl _)
  have hb1 : Below w.heap.size w (w.alloc (.cells #[] 2)) := (Below.refl _ _).alloc (Nat.le_refl _) _
  go_loopg [6, 7] l.length (fun g s i wr => ∃ k : Nat, k ≤ l.length ∧ Hid (g = l.length - k) ∧ i = .int .i64 k ∧ wr.ownsRow w.heap.size 2 1 s k (((l.map TN.q).take k).map (Value.int .i64)) ∧ Below w.heap.size w wr)
  case atStart => exact ⟨0, by omega, by simp [Hid], rfl, ho1, hb1⟩
  case round =>
    obtain ⟨n, hn, hg, rfl, hown, hb⟩ := hrel
    clear ho1 hb1
    by_cases hlt : n < l.length
    · obtain ⟨b1, o1, e, Aw, cw, rfl, hbb1, he, _, hn0, hn1, hn2⟩ := (HX.out.below hb).at_ (by omega) hlt
      have HTK := hide (show (l.map TN.q).take (n + 1) = (l.map TN.q).take n ++ [e.q] by rw [List.take_add_one, List.getElem?_map, he]; rfl)
      have hnl : (n : Int) < l.length := by omega
      have hcl : wr.cell? ⟨b1, o1 + n * 3 + 2, none⟩ = some (.int .i64 e.q) := hn2 (by omega)
      clear he hn0 hn1 hn2
      have hszb := hb.size
      go_wp2_with (at_builtin; go_must (refine wp_app _ rfl _ _ 22 rfl (w.heap.size) 2 i0 (.int .i64 0) 1 8 Try.underlying22 hi0 hz0 hs0 hb0 rfl (by decide) _ _ _ rfl (hown.alloc _) _ _ 1 1 [.int .i64 e.q] rfl rfl (rd_new _ _ _ _ (by simp)) (int_one _) (by omega) (by decide) (by simp <;> omega) ?_); intro v2 w2 hown2 hgrow hat)
      have hb2 := app_below (hb.alloc hb.size (.cells #[.int .i64 e.q] 2)) (hown.alloc (.cells #[.int .i64 e.q] 2)) hgrow (Nat.le_refl _) (by have := hb.size; simp; omega)
      go_roundg (l.length - (n + 1))
      case measure => have := hg.out; omega
      case rel => exact ⟨n + 1, by omega, rfl, by go_num, by rw [HTK.out, List.map_append]; exact hown2, hb2⟩
    · obtain rfl : n = l.length := by omega
      have hml : (l.map TN.q).length = l.length := List.length_map ..
      rw [List.take_of_length_le (by omega)] at hown
      obtain ⟨Ao, co, hsh, hnc, _⟩ := own_shape hown
      subst hsh
      have HS := hide (l08Sorted_any (l.map TN.q) Ao co wr (by omega) (RdI.of_own hown))
      rw [hml] at HS
      clear hown hml
      go_wp2_with (go_at_call 93; refine (HS.out).mono ?_; rintro e w2 ⟨A5, c5, rfl, ho5, s5⟩)
      go_ret2
      refine ⟨_, by rw [HR.out]; rfl, ?_, hb.trans (s5.mono hb.size)⟩
      rw [HR.out]
      have hsl := sortK_len (l.map TN.q) l.length
      have hO : O_Int64S w2 w.heap.size w2.heap.size (.slice A5 l.length c5) (sortK (l.map TN.q) l.length) := OwnV.of_row (by rw [hsl]; exact own_base ho5 hb.size) (by omega)
      exact hO
set_option maxRecDepth 100000 in
set_option maxHeartbeats 4000000 in
theorem S_ReadyOrder (ts : List Int) (v : Value) (l : List TN) (u : Value) (w : World) (h0 : ts.length ≤ 1048576) (_ : ∀ z ∈ ts, -9223372036854775808 ≤ z ∧ z ≤ 9223372036854775807) (h : R_Int64S w w.heap.size v ts) (hs : SmallN l) (_ : ∀ e ∈ l, e.Fits) (k : R_WishS w w.heap.size u l) :
    Calls Try.prog 45 #[v, u] w fun e w' => ∃ r, e = .returned (.tuple #[r, .int .i64 (orderOf TN.p ts l).2]) ∧ O_Int64S w' w.heap.size w'.heap.size r (orderOf TN.p ts l).1 ∧ Below w.heap.size w w' := by
  obtain ⟨A0, c0, rfl, h1⟩ := h
  obtain ⟨A, c, rfl, h2⟩ := k
  have HC := hide (l08Ok_any ts l A0 c0 A c w h0 hs h1 h2)
  have HX := hide h2
  clear h1 h2
  cases hcd : vWishes ts l
  · have HR := hide (show orderOf TN.p ts l = ([], 1) by simp [orderOf, hcd])
    rw [hcd] at HC
    clear hcd
    go_enter Try.func45, Try.ntmps45
    go_wp2_with (go_at_call 56; refine (HC.out).mono ?_; rintro e w' ⟨rfl, rfl⟩)
    go_ret2
    exact ⟨_, by rw [HR.out]; rfl, by rw [HR.out]; exact O_Int64S.nil _ _ _ _ _, Below.refl _ _⟩
  have HR := hide (show orderOf TN.p ts l = (sortK (l.map TN.p) l.length, 0) by simp [orderOf, hcd])
  have hl6 := (vWishes_iff.1 hcd).2.1
  rw [hcd] at HC
  clear hcd
  obtain ⟨i0, hi0, hz0, hs0, hb0⟩ := info_parts int64_info
  go_enter Try.func45, Try.ntmps45
  go_wp2_with (go_at_call 56; refine (HC.out).mono ?_; rintro e w' ⟨rfl, rfl⟩)
  have ho1 := own_new0 w w.heap.size 2 1 (Nat.le_refl _)
  have hb1 : Below w.heap.size w (w.alloc (.cells #[] 2)) := (Below.refl _ _).alloc (Nat.le_refl _) _
  go_loopg [6, 7] l.length (fun g s i wr => ∃ k : Nat, k ≤ l.length ∧ Hid (g = l.length - k) ∧ i = .int .i64 k ∧ wr.ownsRow w.heap.size 2 1 s k (((l.map TN.p).take k).map (Value.int .i64)) ∧ Below w.heap.size w wr)
  case atStart => exact ⟨0, by omega, by simp [Hid], rfl, ho1, hb1⟩
  case round =>
    obtain ⟨n, hn, hg, rfl, hown, hb⟩ := hrel
    clear ho1 hb1
    by_cases hlt : n < l.length
    · obtain ⟨b1, o1, e, Aw, cw, rfl, hbb1, he, _, hn0, hn1, hn2⟩ := (HX.out.below hb).at_ (by omega) hlt
      have HTK := hide (show (l.map TN.p).take (n + 1) = (l.map TN.p).take n ++ [e.p] by rw [List.take_add_one, List.getElem?_map, he]; rfl)
      have hnl : (n : Int) < l.length := by omega
      have hcl : wr.cell? ⟨b1, o1 + n * 3 + 1, none⟩ = some (.int .i64 e.p) := hn1 (by omega)
      clear he hn0 hn1 hn2
      have hszb := hb.size
      go_wp2_with (at_builtin; go_must (refine wp_app _ rfl _ _ 22 rfl (w.heap.size) 2 i0 (.int .i64 0) 1 8 Try.underlying22 hi0 hz0 hs0 hb0 rfl (by decide) _ _ _ rfl (hown.alloc _) _ _ 1 1 [.int .i64 e.p] rfl rfl (rd_new _ _ _ _ (by simp)) (int_one _) (by omega) (by decide) (by simp <;> omega) ?_); intro v2 w2 hown2 hgrow hat)
      have hb2 := app_below (hb.alloc hb.size (.cells #[.int .i64 e.p] 2)) (hown.alloc (.cells #[.int .i64 e.p] 2)) hgrow (Nat.le_refl _) (by have := hb.size; simp; omega)
      go_roundg (l.length - (n + 1))
      case measure => have := hg.out; omega
      case rel => exact ⟨n + 1, by omega, rfl, by go_num, by rw [HTK.out, List.map_append]; exact hown2, hb2⟩
    · obtain rfl : n = l.length := by omega
      have hml : (l.map TN.p).length = l.length := List.length_map ..
      rw [List.take_of_length_le (by omega)] at hown
      obtain ⟨Ao, co, hsh, hnc, _⟩ := own_shape hown
      subst hsh
      have HS := hide (l08Sorted_any (l.map TN.p) Ao co wr (by omega) (RdI.of_own hown))
      rw [hml] at HS
      clear hown hml
      go_wp2_with (go_at_call 93; refine (HS.out).mono ?_; rintro e w2 ⟨A5, c5, rfl, ho5, s5⟩)
      go_ret2
      refine ⟨_, by rw [HR.out]; rfl, ?_, hb.trans (s5.mono hb.size)⟩
      rw [HR.out]
      have hsl := sortK_len (l.map TN.p) l.length
      have hO : O_Int64S w2 w.heap.size w2.heap.size (.slice A5 l.length c5) (sortK (l.map TN.p) l.length) := OwnV.of_row (by rw [hsl]; exact own_base ho5 hb.size) (by omega)
      exact hO
end Go.Proofs.Yticgaiboolojkaa
