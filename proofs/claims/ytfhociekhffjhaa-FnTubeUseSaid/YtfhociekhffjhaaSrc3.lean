/-
  Drawn times and ways.
-/
import Derived.Test.YtfhociekhffjhaaSrc2
import Derived.Test.YtfhociekhffjhaaRunD
namespace Go.Proofs.Ytfhociekhffjhaa
open Go.RowKit

theorem row_only {w w' : World} {lo hi base : Nat} {e : TypeId} {s n : Nat} {v : Value} {xs : List Value} (h : w.ownsRow base e s v n xs) (k : Only lo hi w w') (hd : hi ≤ base) : w'.ownsRow base e s v n xs := by
  refine ⟨h.1, ?_⟩
  rcases h.2 with h0 | ⟨g, cap, cur, he, hb, hg, rest⟩
  · exact .inl h0
  · exact .inr ⟨g, cap, cur, he, hb, (k.2.2.2.2 g (lt_of_block hg) (by omega)).trans hg, rest⟩
theorem only_app {lo hi base : Nat} {w0 w w' : World} {e : TypeId} {s n : Nat} {v : Value} {xs : List Value} (h : Only lo hi w0 w) (ho : w.ownsRow base e s v n xs) (hg : w.grownBy w' v.ownBlock) (hB : w0.heap.size ≤ base) : Only lo hi w0 w' :=
  ⟨hg.os.trans h.1, hg.tape.trans h.2.1, hg.output.trans h.2.2.1, Nat.le_trans h.size hg.size, fun i hi' ho' => (hg.block i (Nat.lt_of_lt_of_le hi' h.size) (fun e => by have := (ho.lt i e.symm).1; omega)).trans (h.2.2.2.2 i hi' ho')⟩
theorem only_alloc {lo hi : Nat} {w0 w : World} (h : Only lo hi w0 w) (o : Obj) : Only lo hi w0 (w.alloc o) := only_trans h (only_of_below ((Below.refl _ _).alloc (Nat.le_refl _) o))
theorem SrcAt.grown {b : Nat} {bs : List Int} {N : Int} {W W' : World} {row : Option Nat} (h : SrcAt b bs N W) (hg : W.grownBy W' row) (hr : ∀ g, row = some g → b < g) : SrcAt b bs N W' :=
  h.below (B := b + 1) ⟨hg.os, hg.tape, hg.output, hg.size, fun k hk => hg.block k (by have := h.lt; omega) (fun e => by have := hr k e.symm; omega)⟩ (Nat.lt_succ_self b)
theorem SrcAt.alloc {b : Nat} {bs : List Int} {N : Int} {W : World} (h : SrcAt b bs N W) (o : Obj) : SrcAt b bs N (W.alloc o) := h.below ((Below.refl _ _).alloc (Nat.le_refl _) o) h.lt
set_option maxRecDepth 100000 in
set_option maxHeartbeats 4000000 in
theorem drawTimes_any (b : Nat) (bs : List Int) (N : Int) (w : World) (hbs : BsOk bs) (hN : N ≤ 1099510000000) (h : SrcAt b bs N w) :
    Calls Try.prog 92 #[.pointer (some ⟨b, 0, none⟩)] w fun e w' => ∃ (A : Option Addr) (c : Nat) (ts : List Int), e = .returned (.slice A ts.length c) ∧ w'.ownsRow w.heap.size 2 1 (.slice A ts.length c) ts.length (ts.map (Value.int .i64)) ∧ ((1 ≤ ts.length ∧ ts.length ≤ 6) ∧ ∀ z ∈ ts, 1 ≤ z ∧ z ≤ 12) ∧ SrcAt b bs (N + 14) w' ∧ Only b (b + 1) w w' := by
  obtain ⟨i0, hi0, hz0, hs0, hb0⟩ := info_parts int64_info
  have hbl := h.lt
  have HP := hide fun M n W (hM : M ≤ 1099511000000) (hW : SrcAt b bs M W) => pick_any b bs M n W hbs hM hW
  have h1 := hide (h.alloc (.cells #[] 2))
  clear h
  go_enter Try.func92, Try.ntmps92
  go_wp2_with (go_at_call 105; refine (HP.out N 6 _ (by omega) h1.out).mono ?_; rintro e w1 ⟨z, rfl, ⟨hz0', hz1', _⟩, hs1, ho1⟩)
  have hz6 := hz1' (by omega)
  obtain ⟨k0, rfl⟩ := Int.eq_ofNat_of_zero_le hz0'
  have hr1 := row_only (own_new0 w w.heap.size 2 1 (Nat.le_refl _)) ho1 (by omega)
  have o1 : Only b (b + 1) w w1 := only_trans (only_of_below ((Below.refl _ _).alloc (Nat.le_refl _) _)) ho1
  have HS1 := hide hs1
  clear hs1 h1 ho1 hz1'
  go_loopg [3, 4] (1 + k0) (fun g s i wr => ∃ (k : Nat) (acc : List Int), g = k ∧ i = .int .i64 k ∧ k + acc.length = 1 + k0 ∧ wr.ownsRow w.heap.size 2 1 s acc.length (acc.map (Value.int .i64)) ∧ Hid (∀ z ∈ acc, 1 ≤ z ∧ z ≤ 12) ∧ Hid (SrcAt b bs (N + 2 + 2 * (acc.length : Int)) wr) ∧ Hid (Only b (b + 1) w wr))
  case atStart => exact ⟨1 + k0, [], rfl, by go_num, by simp, hr1, by simp [Hid], HS1.out.more (by simp), o1⟩
  case round =>
    obtain ⟨k, acc, hg, rfl, hka, hown, HA, HS, HO⟩ := hrel
    clear hr1 HS1 o1
    have HG := hide hg
    clear hg
    have hka1 : k + acc.length ≤ 1 + k0 := by omega
    have hka2 : 1 + k0 ≤ k + acc.length := by omega
    clear hka
    by_cases hlt : 0 < k
    · have hkn : (0 : Int) < (k : Int) := by omega
      have hzw := HO.out.size
      have HC := hide (HP.out (N + 2 + 2 * (acc.length : Int)) 12 _ (by omega) HS.out)
      go_wp2_with (first | (go_at_call 105; refine (HC.out).mono ?_; rintro e w2 ⟨y, rfl, ⟨hy0, hy1', _⟩, hs2, ho2⟩; have hy1 := hy1' (by omega); have hr2 := row_only hown ho2 (by omega); have oo2 := only_trans HO.out ho2; have hz2 := ho2.size) | (at_builtin; go_must (refine wp_app _ rfl _ _ 24 rfl (w.heap.size) 2 i0 (.int .i64 0) 1 8 Try.underlying24 hi0 hz0 hs0 hb0 rfl (by decide) _ _ _ rfl (hr2.alloc _) _ _ 1 1 [.int .i64 (1 + y)] rfl rfl (rd_new _ _ _ _ (by first | rfl | simp)) (int_one _) (by omega) (by decide) (by first | omega | (simp <;> omega) | (simp; omega)) ?_); intro v4 w4 hown4 hgrow4 hat4))
      have oA := hr2.alloc (.cells #[.int .i64 (1 + y)] 2)
      have o4 := only_app (only_alloc oo2 (.cells #[.int .i64 (1 + y)] 2)) oA hgrow4 (Nat.le_refl _)
      have s4 := (hs2.alloc (.cells #[.int .i64 (1 + y)] 2)).grown hgrow4 (fun g e => by have := (oA.lt g e).1; omega)
      go_roundg (k - 1)
      case measure => have := HG.out; omega
      case rel =>
        refine ⟨k - 1, acc ++ [1 + y], rfl, ?_, by simp; omega, by rw [List.length_append, List.map_append]; exact hown4, ?_, s4.more (by simp; omega), o4⟩
        · congr 1; omega
        · intro z hz
          rcases List.mem_append.1 hz with hz | hz
          · exact HA.out z hz
          · rw [List.mem_singleton] at hz; subst hz; omega
    · obtain rfl : k = 0 := by omega
      obtain ⟨Ao, co, hsh, _, _⟩ := own_shape hown
      subst hsh
      go_wp2_with fail
      go_ret
      exact ⟨_, _, acc, rfl, hown, ⟨⟨by omega, by omega⟩, HA.out⟩, HS.out.more (by omega), HO.out⟩
set_option maxRecDepth 100000 in
set_option maxHeartbeats 4000000 in
theorem drawWay_any (b : Nat) (bs : List Int) (N : Int) (n : Nat) (w : World) (hbs : BsOk bs) (hN : N ≤ 1099510000000) (hn : 1 ≤ n) (hn6 : n ≤ 1000) (h : SrcAt b bs N w) :
    Calls Try.prog 174 #[.pointer (some ⟨b, 0, none⟩), .int .i64 n] w fun e w' => ∃ (A : Option Addr) (c : Nat) (ts : List Int), e = .returned (.slice A ts.length c) ∧ w'.ownsRow w.heap.size 2 1 (.slice A ts.length c) ts.length (ts.map (Value.int .i64)) ∧ ((1 ≤ ts.length ∧ ts.length ≤ 4) ∧ ∀ z ∈ ts, 0 ≤ z ∧ z ≤ (n : Int) - 1) ∧ SrcAt b bs (N + 14) w' ∧ Only b (b + 1) w w' := by
  obtain ⟨i0, hi0, hz0, hs0, hb0⟩ := info_parts int64_info
  have hbl := h.lt
  have HP := hide fun M n W (hM : M ≤ 1099511000000) (hW : SrcAt b bs M W) => pick_any b bs M n W hbs hM hW
  have h1 := hide (h.alloc (.cells #[] 2))
  clear h
  go_enter Try.func174, Try.ntmps174
  go_wp2_with (go_at_call 105; refine (HP.out N 4 _ (by omega) h1.out).mono ?_; rintro e w1 ⟨z, rfl, ⟨hz0', hz1', _⟩, hs1, ho1⟩)
  have hz6 := hz1' (by omega)
  obtain ⟨k0, rfl⟩ := Int.eq_ofNat_of_zero_le hz0'
  have hr1 := row_only (own_new0 w w.heap.size 2 1 (Nat.le_refl _)) ho1 (by omega)
  have o1 : Only b (b + 1) w w1 := only_trans (only_of_below ((Below.refl _ _).alloc (Nat.le_refl _) _)) ho1
  have HS1 := hide hs1
  clear hs1 h1 ho1 hz1'
  go_loopg [5, 6] (1 + k0) (fun g s i wr => ∃ (k : Nat) (acc : List Int), g = k ∧ i = .int .i64 k ∧ k + acc.length = 1 + k0 ∧ wr.ownsRow w.heap.size 2 1 s acc.length (acc.map (Value.int .i64)) ∧ Hid (∀ z ∈ acc, 0 ≤ z ∧ z ≤ (n : Int) - 1) ∧ Hid (SrcAt b bs (N + 2 + 2 * (acc.length : Int)) wr) ∧ Hid (Only b (b + 1) w wr))
  case atStart => exact ⟨1 + k0, [], rfl, by go_num, by simp, hr1, by simp [Hid], HS1.out.more (by simp), o1⟩
  case round =>
    obtain ⟨k, acc, hg, rfl, hka, hown, HA, HS, HO⟩ := hrel
    clear hr1 HS1 o1
    have HG := hide hg
    clear hg
    have hka1 : k + acc.length ≤ 1 + k0 := by omega
    have hka2 : 1 + k0 ≤ k + acc.length := by omega
    clear hka
    by_cases hlt : 0 < k
    · have hkn : (0 : Int) < (k : Int) := by omega
      have hzw := HO.out.size
      have HC := hide (HP.out (N + 2 + 2 * (acc.length : Int)) (n : Int) _ (by omega) HS.out)
      go_wp2_with (first | (go_at_call 105; refine (HC.out).mono ?_; rintro e w2 ⟨y, rfl, ⟨hy0, hy1', _⟩, hs2, ho2⟩; have hy1 := hy1' (by omega); have hr2 := row_only hown ho2 (by omega); have oo2 := only_trans HO.out ho2; have hz2 := ho2.size) | (at_builtin; go_must (refine wp_app _ rfl _ _ 24 rfl (w.heap.size) 2 i0 (.int .i64 0) 1 8 Try.underlying24 hi0 hz0 hs0 hb0 rfl (by decide) _ _ _ rfl (hr2.alloc _) _ _ 1 1 [.int .i64 (y)] rfl rfl (rd_new _ _ _ _ (by first | rfl | simp)) (int_one _) (by omega) (by decide) (by first | omega | (simp <;> omega) | (simp; omega)) ?_); intro v4 w4 hown4 hgrow4 hat4))
      have oA := hr2.alloc (.cells #[.int .i64 (y)] 2)
      have o4 := only_app (only_alloc oo2 (.cells #[.int .i64 (y)] 2)) oA hgrow4 (Nat.le_refl _)
      have s4 := (hs2.alloc (.cells #[.int .i64 (y)] 2)).grown hgrow4 (fun g e => by have := (oA.lt g e).1; omega)
      go_roundg (k - 1)
      case measure => have := HG.out; omega
      case rel =>
        refine ⟨k - 1, acc ++ [y], rfl, ?_, by simp; omega, by rw [List.length_append, List.map_append]; exact hown4, ?_, s4.more (by simp; omega), o4⟩
        · congr 1; omega
        · intro z hz
          rcases List.mem_append.1 hz with hz | hz
          · exact HA.out z hz
          · rw [List.mem_singleton] at hz; subst hz; omega
    · obtain rfl : k = 0 := by omega
      obtain ⟨Ao, co, hsh, _, _⟩ := own_shape hown
      subst hsh
      go_wp2_with fail
      go_ret
      exact ⟨_, _, acc, rfl, hown, ⟨⟨by omega, by omega⟩, HA.out⟩, HS.out.more (by omega), HO.out⟩
end Go.Proofs.Ytfhociekhffjhaa
