/-
  Drawing a number below another one, and one of some numbers.
-/
import Derived.Test.YtofjnmeblmbnmaaSrc
namespace Go.Proofs.Ytofjnmeblmbnmaa
open Go.RowKit

set_option maxRecDepth 100000 in
set_option maxHeartbeats 4000000 in
theorem pick_any (b : Nat) (bs : List Int) (N n : Int) (w : World) (hbs : BsOk bs) (hN : N ≤ 1099511000000) (h : SrcAt b bs N w) :
    Calls Try.prog 38 #[.pointer (some ⟨b, 0, none⟩), .int .i64 n] w fun e w' => ∃ z, e = .returned (.int .i64 z) ∧ (0 ≤ z ∧ (1 ≤ n → z < n) ∧ (n ≤ 1 → z = 0)) ∧ SrcAt b bs (N + 2) w' ∧ Only b (b + 1) w w' := by
  by_cases h1 : n ≤ 1
  · have HS := hide h
    clear h
    go_enter Try.func38, Try.ntmps38
    go_wp2_with fail
    go_ret
    exact ⟨0, rfl, ⟨by omega, by omega, fun _ => rfl⟩, HS.out.more (by omega), only_of_below (Below.refl _ _)⟩
  have HC := hide (next_any b bs N w hbs (by omega) h)
  clear h
  by_cases h2 : n ≤ 200
  · go_enter Try.func38, Try.ntmps38
    go_wp2_with (go_at_call 45; refine (HC.out).mono ?_; rintro e w1 ⟨z, rfl, ⟨hz0, hz1⟩, hs1, ho1⟩)
    have hm0 := Int.emod_nonneg z (show n ≠ 0 by omega)
    have hm1 := Int.emod_lt_of_pos z (show 0 < n by omega)
    go_ret
    exact ⟨z % n, rfl, ⟨hm0, fun _ => hm1, fun h => by omega⟩, hs1.more (by omega), ho1⟩
  · have HC2 := hide fun W (hW : SrcAt b bs (N + 1) W) => next_any b bs (N + 1) W hbs (by omega) hW
    go_enter Try.func38, Try.ntmps38
    go_wp2_with (go_at_call 45; refine (HC.out).mono ?_; rintro e w1 ⟨z, rfl, ⟨hz0, hz1⟩, hs1, ho1⟩)
    have HS1 := hide hs1
    clear hs1 HC
    go_wp2_with (go_at_call 45; refine (HC2.out _ HS1.out).mono ?_; rintro e w2 ⟨z2, rfl, ⟨hy0, hy1⟩, hs2, ho2⟩)
    have hm0 := Int.emod_nonneg (z * 256 + z2) (show n ≠ 0 by omega)
    have hm1 := Int.emod_lt_of_pos (z * 256 + z2) (show 0 < n by omega)
    go_ret
    exact ⟨(z * 256 + z2) % n, rfl, ⟨hm0, fun _ => hm1, fun h => by omega⟩, hs2.more (by omega), only_trans ho1 ho2⟩
end Go.Proofs.Ytofjnmeblmbnmaa
