/-
  Contracts of small functions: the range tests, the copies and comparisons of slices of numbers.
-/
import Derived.Test.YtofjnmeblmbnmaaDoorProg
import Derived.Test.YtofjnmeblmbnmaaDoorWords
import Derived.WalkKit
import Derived.BigQuiet
import Derived.Deep.QuietTactic
import Derived.Deep.LoopGhost
import Derived.StillTailTactics
namespace Go.Proofs.YtofjnmeblmbnmaaDoor
open Go.RowKit

theorem int64_info : (Tryd.prog.info? 2).map (fun i => (i.zero, i.size, i.bytes)) = some (some (.int .i64 0), 1, 8) := by kernel_rfl


/-! ### Range tests -/
set_option maxRecDepth 100000 in
set_option maxHeartbeats 1000000 in
theorem within_t (n lo hi : Int) (w : World) (h : lo ≤ n ∧ n ≤ hi) :
    Calls Tryd.prog 60 #[.int .i64 n, .int .i64 lo, .int .i64 hi] w fun e w' => e = .returned (.bool true) ∧ w = w' := by
  obtain ⟨h1, h2⟩ := h
  go_enter Tryd.func60, Tryd.ntmps60
  go_wp2
  go_ret
  exact ⟨rfl, rfl⟩
set_option maxRecDepth 100000 in
set_option maxHeartbeats 1000000 in
theorem within_f (n lo hi : Int) (w : World) (h : n < lo ∨ hi < n) :
    Calls Tryd.prog 60 #[.int .i64 n, .int .i64 lo, .int .i64 hi] w fun e w' => e = .returned (.bool false) ∧ w = w' := by
  by_cases h1 : lo ≤ n
  · have h2 : ¬ n ≤ hi := by omega
    clear h
    go_enter Tryd.func60, Tryd.ntmps60
    go_wp2
    go_ret
    exact ⟨rfl, rfl⟩
  · clear h
    go_enter Tryd.func60, Tryd.ntmps60
    go_wp2
    go_ret
    exact ⟨rfl, rfl⟩
theorem within_any (n lo hi : Int) (w : World) :
    Calls Tryd.prog 60 #[.int .i64 n, .int .i64 lo, .int .i64 hi] w fun e w' => e = .returned (.bool (inB lo hi n)) ∧ w = w' := by
  by_cases h : lo ≤ n ∧ n ≤ hi
  · rw [inB_t h]; exact within_t n lo hi w h
  · rw [inB_f (by omega)]; exact within_f n lo hi w (by omega)
set_option maxRecDepth 100000 in
set_option maxHeartbeats 1000000 in
theorem l00In_t (n lo hi : Int) (w : World) (h : lo ≤ n ∧ n ≤ hi) :
    Calls Tryd.prog 64 #[.int .i64 n, .int .i64 lo, .int .i64 hi] w fun e w' => e = .returned (.bool true) ∧ w = w' := by
  obtain ⟨h1, h2⟩ := h
  go_enter Tryd.func64, Tryd.ntmps64
  go_wp2
  go_ret
  exact ⟨rfl, rfl⟩
set_option maxRecDepth 100000 in
set_option maxHeartbeats 1000000 in
theorem l00In_f (n lo hi : Int) (w : World) (h : n < lo ∨ hi < n) :
    Calls Tryd.prog 64 #[.int .i64 n, .int .i64 lo, .int .i64 hi] w fun e w' => e = .returned (.bool false) ∧ w = w' := by
  by_cases h1 : lo ≤ n
  · have h2 : ¬ n ≤ hi := by omega
    clear h
    go_enter Tryd.func64, Tryd.ntmps64
    go_wp2
    go_ret
    exact ⟨rfl, rfl⟩
  · clear h
    go_enter Tryd.func64, Tryd.ntmps64
    go_wp2
    go_ret
    exact ⟨rfl, rfl⟩
theorem l00In_any (n lo hi : Int) (w : World) :
    Calls Tryd.prog 64 #[.int .i64 n, .int .i64 lo, .int .i64 hi] w fun e w' => e = .returned (.bool (inB lo hi n)) ∧ w = w' := by
  by_cases h : lo ≤ n ∧ n ≤ hi
  · rw [inB_t h]; exact l00In_t n lo hi w h
  · rw [inB_f (by omega)]; exact l00In_f n lo hi w (by omega)

/-! ### The laws' helpers over []int64 -/

/-! ### slices.IndexFunc over []int64 -/
set_option maxRecDepth 100000 in
set_option maxHeartbeats 1000000 in
theorem indexFuncI_any (p : Int → Bool) (F : FuncId) (cap : Array Value) (xs : List Int) (A : Option Addr) (c : Nat) (w : World) (hx : xs.length ≤ 9223372036854775807)
    (hcf : ∀ args w, (callFunc F args).run Tryd.prog w = .ok (.enter F args) w) (h1 : RdI w w.heap.size A xs)
    (hp : ∀ z W, Below w.heap.size w W → Calls Tryd.prog F (#[.int .i64 z] ++ cap) W fun e w' => e = .returned (.bool (p z)) ∧ Below W.heap.size W w') :
    Calls Tryd.prog 121 #[.slice A xs.length c, .func (.func F) #[] cap] w fun e w' => e = .returned (.int .i64 (firstI p xs 0)) ∧ Below w.heap.size w w' := by
  have HP := hide hp; clear hp
  go_enter Tryd.func121, Tryd.ntmps121
  go_wp2_with fail
  go_loopg [8] xs.length (fun g i wr => ∃ k : Nat, k ≤ xs.length ∧ g = xs.length - k ∧ i = .int .i64 k ∧ Below w.heap.size w wr ∧ Hid (firstI p xs 0 = firstI p (xs.drop k) k))
  case atStart => exact ⟨0, by omega, by omega, rfl, Below.refl _ _, hide (by simp)⟩
  case round =>
    obtain ⟨k, hk, hg, rfl, hb, HE⟩ := hrel
    have HG := hide hg; clear hg
    by_cases hlt : k < xs.length
    · obtain ⟨b, o, z, rfl, _, hz, hc⟩ := (h1.below hb).at_ hlt
      have Z := hide hz; clear hz h1
      have HQ := HP.out z wr hb
      have h := HE.out
      rw [drop_cons Z.out] at h
      cases hpz : p z
      · rw [hpz] at HQ
        have h' := hide (show firstI p xs 0 = firstI p (xs.drop (k + 1)) (k + 1) by simpa [firstI, hpz] using h)
        have HQ' := hide HQ
        clear h HQ hpz HE
        go_wp2_with fail
        refine HQ'.out.mono ?_
        rintro e w1 ⟨rfl, hb1⟩
        go_wp2_with fail
        go_roundg (xs.length - (k + 1))
        case measure => have := HG.out; omega
        case rel => exact ⟨k + 1, by omega, rfl, by go_num, hb.trans (hb1.mono hb.size), h'⟩
      · rw [hpz] at HQ
        have h' := hide (show firstI p xs 0 = k by simpa [firstI, hpz] using h)
        have HQ' := hide HQ
        clear h HQ hpz HE
        go_wp2_with fail
        refine HQ'.out.mono ?_
        rintro e w1 ⟨rfl, hb1⟩
        go_wp2_with fail
        go_ret
        exact ⟨ret_i h'.out.symm, hb.trans (hb1.mono hb.size)⟩
    · go_wp2_with fail
      go_ret
      refine ⟨ret_i ?_, hb⟩
      have h := HE.out
      rw [List.drop_eq_nil_of_le (by omega)] at h
      rw [h]; rfl
set_option maxRecDepth 100000 in
set_option maxHeartbeats 1000000 in
theorem containsFuncI_any (p : Int → Bool) (F : FuncId) (cap : Array Value) (xs : List Int) (A : Option Addr) (c : Nat) (w : World) (hx : xs.length ≤ 9223372036854775807)
    (hcf : ∀ args w, (callFunc F args).run Tryd.prog w = .ok (.enter F args) w) (h1 : RdI w w.heap.size A xs)
    (hp : ∀ z W, Below w.heap.size w W → Calls Tryd.prog F (#[.int .i64 z] ++ cap) W fun e w' => e = .returned (.bool (p z)) ∧ Below W.heap.size W w') :
    Calls Tryd.prog 114 #[.slice A xs.length c, .func (.func F) #[] cap] w fun e w' => e = .returned (.bool (xs.any p)) ∧ Below w.heap.size w w' := by
  have HC := hide (indexFuncI_any p F cap xs A c w hx hcf h1 hp)
  clear hp
  have HE := hide (firstI_ge p xs 0)
  go_enter Tryd.func114, Tryd.ntmps114
  go_wp2_with fail
  refine HC.out.mono ?_
  rintro e w1 ⟨rfl, hb⟩
  go_wp2_with fail
  go_ret
  exact ⟨ret_b HE.out, hb⟩
/-! ### outside -/
set_option maxRecDepth 100000 in
set_option maxHeartbeats 1000000 in
theorem outside1_any (z lo hi : Int) (b1 b2 : Nat) (w : World) (h1 : w.cell? ⟨b1, 0, none⟩ = some (.int .i64 lo)) (h2 : w.cell? ⟨b2, 0, none⟩ = some (.int .i64 hi)) :
    Calls Tryd.prog 115 #[.int .i64 z, .pointer (some ⟨b1, 0, none⟩), .pointer (some ⟨b2, 0, none⟩)] w fun e w' => e = .returned (.bool (!inB lo hi z)) ∧ Below w.heap.size w w' := by
  have HC := hide (within_any z lo hi w)
  go_enter Tryd.func115, Tryd.ntmps115
  go_wp2_with (go_at_call 60; refine HC.out.mono ?_; rintro e w' ⟨rfl, rfl⟩)
  go_ret
  exact ⟨rfl, Below.refl _ _⟩
set_option maxRecDepth 100000 in
set_option maxHeartbeats 1000000 in
theorem outside_any (xs : List Int) (lo hi : Int) (A : Option Addr) (c : Nat) (w : World) (hx : xs.length ≤ 9223372036854775807) (h1 : RdI w w.heap.size A xs) :
    Calls Tryd.prog 94 #[.slice A xs.length c, .int .i64 lo, .int .i64 hi] w fun e w' => e = .returned (.bool (xs.any fun z => !inB lo hi z)) ∧ Below w.heap.size w w' := by
  have HX := hide h1; clear h1
  go_enter Tryd.func94, Tryd.ntmps94
  go_wp2_with fail
  have hb0 : Below w.heap.size w ((w.alloc (.cells #[.int .i64 lo] 2)).alloc (.cells #[.int .i64 hi] 2)) := (by repeat (first | exact Below.refl _ _ | assumption | (refine Below.alloc ?_ (by simp <;> omega) _) | refine Below.drew ?_ | refine bdn ?_ _))
  have hcf := callFunc_gen (P := Tryd.prog) (F := 115) Tryd.func115 (by kernel_rfl) (by kernel_rfl)
  refine (containsFuncI_any (fun z => !inB lo hi z) 115 _ xs A c _ hx hcf ((HX.out.below hb0).more (by simp; omega)) ?_).mono ?_
  · intro z W hW
    have e1 : W.cell? ⟨w.heap.size, 0, none⟩ = some (.int .i64 lo) := by rw [hW.cell (by simp; omega)]; simp [go_sem]
    have e2 : W.cell? ⟨w.heap.size + 1, 0, none⟩ = some (.int .i64 hi) := by rw [hW.cell (by simp)]; simp [go_sem]
    exact outside1_any z lo hi _ _ W e1 e2
  · rintro e w1 ⟨rfl, hb⟩
    go_wp2_with fail
    go_ret
    exact ⟨rfl, hb0.trans (hb.mono (by simp; omega))⟩
end Go.Proofs.YtofjnmeblmbnmaaDoor
