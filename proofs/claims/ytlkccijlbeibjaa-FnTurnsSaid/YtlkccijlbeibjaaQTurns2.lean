/-
  Contracts of small functions: the range tests, the copies and comparisons of slices of numbers.
  Contracts of slices.Equal and slices.Clone at the program's element types. Printed by gen_lib.py.
  The words of the exact laws: 'R': a value reads as x; 'O': it is memory of the law's own, in blocks lo .. hi. The helpers' contracts in these words. Printed by gen_law.py.
  Contracts: a stock is valid, in the program and in the reference.
-/
import Derived.Test.YtlkccijlbeibjaaProg
import Derived.Test.YtlkccijlbeibjaaQTurns0
import Derived.WalkKit
import Derived.BigQuiet
import Derived.Deep.QuietTactic
import Derived.Deep.LoopGhost
import Derived.StillTailTactics
import Derived.Test.YtlkccijlbeibjaaQTurns1
import Derived.Lib.SliceRun
import Derived.Deep.DeepMust
namespace Go.Proofs.Ytlkccijlbeibjaa
open Go.RowKit

theorem int64_info : (Try.prog.info? 2).map (fun i => (i.zero, i.size, i.bytes)) = some (some (.int .i64 0), 1, 8) := by kernel_rfl


/-! ### Range tests -/
set_option maxRecDepth 100000 in
set_option maxHeartbeats 1000000 in
theorem within_t (n lo hi : Int) (w : World) (h : lo ≤ n ∧ n ≤ hi) :
    Calls Try.prog 115 #[.int .i64 n, .int .i64 lo, .int .i64 hi] w fun e w' => e = .returned (.bool true) ∧ w = w' := by
  obtain ⟨h1, h2⟩ := h
  go_enter Try.func115, Try.ntmps115
  go_wp2
  go_ret
  exact ⟨rfl, rfl⟩
set_option maxRecDepth 100000 in
set_option maxHeartbeats 1000000 in
theorem within_f (n lo hi : Int) (w : World) (h : n < lo ∨ hi < n) :
    Calls Try.prog 115 #[.int .i64 n, .int .i64 lo, .int .i64 hi] w fun e w' => e = .returned (.bool false) ∧ w = w' := by
  by_cases h1 : lo ≤ n
  · have h2 : ¬ n ≤ hi := by omega
    clear h
    go_enter Try.func115, Try.ntmps115
    go_wp2
    go_ret
    exact ⟨rfl, rfl⟩
  · clear h
    go_enter Try.func115, Try.ntmps115
    go_wp2
    go_ret
    exact ⟨rfl, rfl⟩
theorem within_any (n lo hi : Int) (w : World) :
    Calls Try.prog 115 #[.int .i64 n, .int .i64 lo, .int .i64 hi] w fun e w' => e = .returned (.bool (inB lo hi n)) ∧ w = w' := by
  by_cases h : lo ≤ n ∧ n ≤ hi
  · rw [inB_t h]; exact within_t n lo hi w h
  · rw [inB_f (by omega)]; exact within_f n lo hi w (by omega)
set_option maxRecDepth 100000 in
set_option maxHeartbeats 1000000 in
theorem l00In_t (n lo hi : Int) (w : World) (h : lo ≤ n ∧ n ≤ hi) :
    Calls Try.prog 116 #[.int .i64 n, .int .i64 lo, .int .i64 hi] w fun e w' => e = .returned (.bool true) ∧ w = w' := by
  obtain ⟨h1, h2⟩ := h
  go_enter Try.func116, Try.ntmps116
  go_wp2
  go_ret
  exact ⟨rfl, rfl⟩
set_option maxRecDepth 100000 in
set_option maxHeartbeats 1000000 in
theorem l00In_f (n lo hi : Int) (w : World) (h : n < lo ∨ hi < n) :
    Calls Try.prog 116 #[.int .i64 n, .int .i64 lo, .int .i64 hi] w fun e w' => e = .returned (.bool false) ∧ w = w' := by
  by_cases h1 : lo ≤ n
  · have h2 : ¬ n ≤ hi := by omega
    clear h
    go_enter Try.func116, Try.ntmps116
    go_wp2
    go_ret
    exact ⟨rfl, rfl⟩
  · clear h
    go_enter Try.func116, Try.ntmps116
    go_wp2
    go_ret
    exact ⟨rfl, rfl⟩
theorem l00In_any (n lo hi : Int) (w : World) :
    Calls Try.prog 116 #[.int .i64 n, .int .i64 lo, .int .i64 hi] w fun e w' => e = .returned (.bool (inB lo hi n)) ∧ w = w' := by
  by_cases h : lo ≤ n ∧ n ≤ hi
  · rw [inB_t h]; exact l00In_t n lo hi w h
  · rw [inB_f (by omega)]; exact l00In_f n lo hi w (by omega)
set_option maxRecDepth 100000 in
set_option maxHeartbeats 1000000 in
theorem eqInt64S_any (xs ys : List Int) (A1 A2 : Option Addr) (c1 c2 : Nat) (w : World) (hx : xs.length ≤ 9223372036854775807) (hy : ys.length ≤ 9223372036854775807)
    (h1 : RdI w w.heap.size A1 xs) (h2 : RdI w w.heap.size A2 ys) :
    Calls Try.prog 74 #[.slice A1 xs.length c1, .slice A2 ys.length c2] w fun e w' => e = .returned (.bool (decide (xs = ys))) ∧ Below w.heap.size w w' := by
  by_cases hl : xs.length = ys.length
  · have hB : ((xs.length : Int) != ys.length) = false := by simp [hl]
    have HL := hide hl; clear hl
    go_enter Try.func74, Try.ntmps74
    go_wp2_with fail
    go_loopg [5] xs.length (fun g i wr => ∃ k : Nat, k ≤ xs.length ∧ g = xs.length - k ∧ i = .int .i64 k ∧ Below w.heap.size w wr ∧ Hid (xs = ys ↔ xs.drop k = ys.drop k))
    case atStart => exact ⟨0, by omega, by omega, rfl, Below.refl _ _, by simp [Hid]⟩
    case round =>
      obtain ⟨k, hk, hg, rfl, hb, HE⟩ := hrel
      by_cases hlt : k < xs.length
      · have hlt2 : k < ys.length := by have := HL.out; omega
        obtain ⟨b1, o1, z1, rfl, _, hz1, hc1⟩ := (h1.below hb).at_ hlt
        obtain ⟨b2, o2, z2, rfl, _, hz2, hc2⟩ := (h2.below hb).at_ hlt2
        have Z1 := hide hz1; have Z2 := hide hz2; clear hz1 hz2 h1 h2
        have HG := hide hg; clear hg
        by_cases he : z1 = z2
        · subst he
          go_wp2_with fail
          go_quiet (fail)
          go_wp2_with fail
          go_roundg (xs.length - (k + 1))
          case measure => have := HG.out; omega
          case rel =>
            refine ⟨k + 1, by omega, rfl, by go_num, bdn hb _, ?_⟩
            have h := HE.out
            rw [drop_cons Z1.out, drop_cons Z2.out] at h
            exact hide (by simpa using h)
        · have hd : (z1 != z2) = true := by simp [he]
          go_wp2_with fail
          go_quiet (fail)
          go_wp2_with fail
          go_ret
          refine ⟨ret_b ?_, bdn hb _⟩
          have h := HE.out
          rw [drop_cons Z1.out, drop_cons Z2.out] at h
          simp [he] at h
          simp [h]
      · go_wp2_with fail
        go_ret
        refine ⟨ret_b ?_, hb⟩
        have h := HE.out
        rw [List.drop_eq_nil_of_le (by omega), List.drop_eq_nil_of_le (by have := HL.out; omega)] at h
        simpa using h
  · have hB : ((xs.length : Int) != ys.length) = true := by simp; omega
    have HL := hide hl; clear hl
    go_enter Try.func74, Try.ntmps74
    go_wp2_with fail
    go_ret
    exact ⟨ret_b (by simp; intro e; exact HL.out (by rw [e])), Below.refl _ _⟩


/-! ### The laws' helpers over []int64 -/
set_option maxRecDepth 100000 in
set_option maxHeartbeats 1000000 in
theorem toInt64S_any (xs : List Int) (A : Option Addr) (c : Nat) (w : World) (hx : xs.length ≤ 1048576) (h1 : RdI w w.heap.size A xs) :
    Calls Try.prog 65 #[.slice A xs.length c] w fun e w' => ∃ A' c', e = .returned (.slice A' xs.length c') ∧ w'.ownsRow w.heap.size 2 1 (.slice A' xs.length c') xs.length (xs.map (Value.int .i64)) ∧ Below w.heap.size w w' := by
  obtain ⟨i0, hi0, hz0, hs0, hb0⟩ := info_parts int64_info
  have HX := hide h1; clear h1
  go_enter Try.func65, Try.ntmps65
  go_wp2_with (refine wpList_make_full _ rfl _ _ _ rfl w.heap.size 2 i0 _ 1 Try.underlying22 hi0 hz0 hs0 .i64 .i64 (xs.length : Int) (xs.length : Int) xs.length rfl rfl rfl rfl (by rw [hb0]; omega) (by unfold maxLen; omega) (Nat.le_refl _) ?_; intro w1 hown1 hgr1)
  have hown2 : w1.ownsRow w.heap.size 2 1 (.slice (some ⟨w.heap.size, 0, none⟩) xs.length xs.length) xs.length ((cp (0 : Int) xs 0).map (Value.int .i64)) := by
    rw [cp_zero, ← made_ints]; exact hown1
  have hbel1 : Below w.heap.size w w1 := (Below.refl _ _).grown hgr1 (Nat.le_refl _) (by intro k hk; cases hk)
  clear hown1 hgr1
  go_loopg [4] xs.length (fun g i wr => ∃ k : Nat, k ≤ xs.length ∧ Hid (g = xs.length - k) ∧ i = .int .i64 k ∧ Below w.heap.size w wr ∧
    wr.ownsRow w.heap.size 2 1 (.slice (some ⟨w.heap.size, 0, none⟩) xs.length xs.length) xs.length ((cp (0 : Int) xs k).map (Value.int .i64)))
  case atStart => exact ⟨0, by omega, by simp [Hid], rfl, hbel1, hown2⟩
  case round =>
    obtain ⟨k, hk, hg, rfl, hb, hown⟩ := hrel
    clear hown2 hbel1
    by_cases hlt : k < xs.length
    · obtain ⟨b1, o1, z1, rfl, hb1, hz1, hc1⟩ := (HX.out.below hb).at_ hlt
      have Z1 := hide hz1; clear hz1
      have hgt := hide (cp_get (0 : Int) xs k hlt)
      have hq : wr.cell? ⟨w.heap.size, k, none⟩ = some (.int .i64 0) := by
        rw [hown.cellAt k (by omega), List.getElem?_map, hgt.out]; rfl
      have hf := hown.frozenAt k
      have hs := hown.stored k (.int .i64 z1)
      have hfin : ((cp (0 : Int) xs k).map (Value.int .i64)).set k (.int .i64 z1) = (cp (0 : Int) xs (k + 1)).map (Value.int .i64) := by
        rw [← cp_set (0 : Int) xs k z1 Z1.out, List.map_set]
      rw [hfin] at hs
      have HS := hide hs.1
      clear hs hfin
      go_wp2_with fail
      go_roundg (xs.length - (k + 1))
      case measure => have := hg.out; omega
      case rel => exact ⟨k + 1, by omega, rfl, by go_num, hb.setCell (by simp) _, HS.out⟩
    · go_wp2_with fail
      go_ret
      obtain rfl : k = xs.length := by omega
      rw [cp_full] at hown
      exact ⟨_, _, rfl, hown, hb⟩
set_option maxRecDepth 100000 in
set_option maxHeartbeats 1000000 in
theorem szInt64S_any (A : Option Addr) (n c : Nat) (left : Int) (w : World) (hn : n ≤ 9223372036854775807) (hl : 0 ≤ left) (hl2 : left ≤ 1048576) :
    Calls Try.prog 60 #[.slice A n c, .int .i64 left] w fun e w' => e = .returned (.int .i64 (szF n left)) ∧ w = w' := by
  by_cases h : (n : Int) ≤ left
  · have H := hide (szF_yes h)
    go_enter Try.func60, Try.ntmps60
    go_wp2_with fail
    go_ret
    exact ⟨ret_i H.out.symm, rfl⟩
  · have H := hide (szF_no (n := n) (left := left) (by omega))
    go_enter Try.func60, Try.ntmps60
    go_wp2_with fail
    go_ret
    exact ⟨ret_i H.out.symm, rfl⟩
set_option maxRecDepth 100000 in
set_option maxHeartbeats 1000000 in
theorem markInt64S_any (base : Nat) (xs : List Int) (A : Option Addr) (c : Nat) (k0 : Int) (w : World) (hx : xs.length ≤ 1048576) (hk0 : 0 ≤ k0) (hk1 : k0 ≤ 1099511627776)
    (hown0 : w.ownsRow base 2 1 (.slice A xs.length c) xs.length (xs.map (Value.int .i64))) :
    Calls Try.prog 76 #[.slice A xs.length c, .int .i64 k0] w fun e w' => e = .returned (.int .i64 (k0 + xs.length)) ∧
      w'.ownsRow base 2 1 (.slice A xs.length c) xs.length ((marks (mkI k0) xs.length).map (Value.int .i64)) ∧ w.grownBy w' (Value.slice A xs.length c).ownBlock := by
  have hob := own_block hown0
  go_enter Try.func76, Try.ntmps76
  go_wp2_with fail
  go_loopg [1, 5] xs.length (fun g kk i wr => ∃ k : Nat, k ≤ xs.length ∧ Hid (g = xs.length - k) ∧ i = .int .i64 k ∧ kk = .int .i64 (k0 + k) ∧ w.grownBy wr (Value.slice A xs.length c).ownBlock ∧
    wr.ownsRow base 2 1 (.slice A xs.length c) xs.length ((mix (mkI k0) xs k).map (Value.int .i64)))
  case atStart => exact ⟨0, by omega, by simp [Hid], rfl, by simp, World.grownBy.refl _ _, by rw [mix_zero]; exact hown0⟩
  case round =>
    obtain ⟨k, hk, hg, rfl, rfl, hb, hown⟩ := hrel
    clear hown0
    by_cases hlt : k < xs.length
    · obtain ⟨g0, rfl, _, _⟩ : ∃ g, A = some ⟨g, 0, none⟩ ∧ base ≤ g ∧ g < w.heap.size := by
        rcases hob with ⟨_, h, _⟩ | h
        · omega
        · exact h
      clear hob
      have hgt := hide (mix_get (mkI k0) xs k hlt)
      have hq : ∃ u, wr.cell? ⟨g0, k, none⟩ = some (.int .i64 u) := ⟨_, by rw [hown.cellAt k (by omega), List.getElem?_map, hgt.out]; rfl⟩
      obtain ⟨u0, hq⟩ := hq
      have hf := hown.frozenAt k
      have hs := hown.stored k (.int .i64 (k0 + k))
      have hfin : ((mix (mkI k0) xs k).map (Value.int .i64)).set k (.int .i64 (k0 + k)) = (mix (mkI k0) xs (k + 1)).map (Value.int .i64) := by
        rw [← mix_set (mkI k0) xs k hlt, List.map_set]; rfl
      rw [hfin] at hs
      have HS := hide hs
      clear hs hfin
      go_wp2_with fail
      go_roundg (xs.length - (k + 1))
      case measure => have := hg.out; omega
      case rel => exact ⟨k + 1, by omega, rfl, by go_num, (by congr 1; omega), gtrans hb HS.out.2, HS.out.1⟩
    · go_wp2_with fail
      go_ret
      obtain rfl : k = xs.length := by omega
      rw [mix_full] at hown
      exact ⟨rfl, hown, hb⟩
set_option maxRecDepth 100000 in
set_option maxHeartbeats 1000000 in
theorem markInt64S_nil (A : Option Addr) (c : Nat) (k0 : Int) (w : World) (hk0 : 0 ≤ k0) (hk1 : k0 ≤ 1099511627776) :
    Calls Try.prog 76 #[.slice A 0 c, .int .i64 k0] w fun e w' => e = .returned (.int .i64 k0) ∧ w = w' := by
  go_enter Try.func76, Try.ntmps76
  go_wp2_with fail
  refine wp_loop_rounds 1 ?_
  rw [rounds_succ]
  go_wp2_with fail
  go_ret
  exact ⟨rfl, rfl⟩
set_option maxRecDepth 100000 in
set_option maxHeartbeats 1000000 in
theorem heldInt64S_any (n : Nat) (A : Option Addr) (c : Nat) (k0 : Int) (w : World) (hx : n ≤ 1048576) (hk0 : 0 ≤ k0) (hk1 : k0 ≤ 1099511627776)
    (h1 : RdI w w.heap.size A (marks (mkI k0) n)) :
    Calls Try.prog 78 #[.slice A n c, .int .i64 k0] w fun e w' => e = .returned (.int .i64 (k0 + n)) ∧ Below w.heap.size w w' := by
  have HX := hide h1; clear h1
  go_enter Try.func78, Try.ntmps78
  go_wp2_with fail
  go_loopg [1, 5] n (fun g kk i wr => ∃ k : Nat, k ≤ n ∧ Hid (g = n - k) ∧ i = .int .i64 k ∧ kk = .int .i64 (k0 + k) ∧ Below w.heap.size w wr)
  case atStart => exact ⟨0, by omega, by simp [Hid], rfl, by simp, Below.refl _ _⟩
  case round =>
    obtain ⟨k, hk, hg, rfl, rfl, hb⟩ := hrel
    by_cases hlt : k < n
    · obtain ⟨b1, o1, z1, rfl, _, hz1, hc1⟩ := (HX.out.below hb).at_ (k := k) (by rw [marks_len]; exact hlt)
      rw [marks_get _ _ _ hlt] at hz1
      obtain rfl : mkI k0 k = z1 := by injection hz1
      clear hz1
      simp only [mkI] at hc1
      have hB : ((k0 + (k : Int)) != (k0 + (k : Int))) = false := by simp
      go_wp2_with fail
      go_roundg (n - (k + 1))
      case measure => have := hg.out; omega
      case rel => exact ⟨k + 1, by omega, rfl, by go_num, (by congr 1; omega), hb⟩
    · go_wp2_with fail
      go_ret
      obtain rfl : k = n := by omega
      exact ⟨rfl, hb⟩

/-! ### slices.IndexFunc over []int64 -/
set_option maxRecDepth 100000 in
set_option maxHeartbeats 1000000 in
theorem indexFuncI_any (p : Int → Bool) (F : FuncId) (cap : Array Value) (xs : List Int) (A : Option Addr) (c : Nat) (w : World) (hx : xs.length ≤ 9223372036854775807)
    (hcf : ∀ args w, (callFunc F args).run Try.prog w = .ok (.enter F args) w) (h1 : RdI w w.heap.size A xs)
    (hp : ∀ z W, Below w.heap.size w W → Calls Try.prog F (#[.int .i64 z] ++ cap) W fun e w' => e = .returned (.bool (p z)) ∧ Below W.heap.size W w') :
    Calls Try.prog 173 #[.slice A xs.length c, .func (.func F) #[] cap] w fun e w' => e = .returned (.int .i64 (firstI p xs 0)) ∧ Below w.heap.size w w' := by
  have HP := hide hp; clear hp
  go_enter Try.func173, Try.ntmps173
  go_wp2_with fail
  go_loopg [8] xs.length (fun g i wr => ∃ k : Nat, k ≤ xs.length ∧ g = xs.length - k ∧ i = .int .i64 k ∧ Below w.heap.size w wr ∧ Hid (firstI p xs 0 = firstI p (xs.drop k) k))
  case atStart => exact ⟨0, by omega, by omega, rfl, Below.refl _ _, hide (by simp)⟩
  case round =>
    obtain ⟨k, hk, hg, rfl, hb, HE⟩ := hrel
    have HG := hide hg; clear hg
    by_cases hlt : k < xs.length
    · obtain ⟨b, o, z, rfl, _, hz, hc⟩ := (h1.below hb).at_ hlt
      have Z := hide hz; clear hz h1
      have HQ := HP.out z wr hb
      have h := HE.out
      rw [drop_cons Z.out] at h
      cases hpz : p z
      · rw [hpz] at HQ
        have h' := hide (show firstI p xs 0 = firstI p (xs.drop (k + 1)) (k + 1) by simpa [firstI, hpz] using h)
        have HQ' := hide HQ
        clear h HQ hpz HE
        go_wp2_with fail
        refine HQ'.out.mono ?_
        rintro e w1 ⟨rfl, hb1⟩
        go_wp2_with fail
        go_roundg (xs.length - (k + 1))
        case measure => have := HG.out; omega
        case rel => exact ⟨k + 1, by omega, rfl, by go_num, hb.trans (hb1.mono hb.size), h'⟩
      · rw [hpz] at HQ
        have h' := hide (show firstI p xs 0 = k by simpa [firstI, hpz] using h)
        have HQ' := hide HQ
        clear h HQ hpz HE
        go_wp2_with fail
        refine HQ'.out.mono ?_
        rintro e w1 ⟨rfl, hb1⟩
        go_wp2_with fail
        go_ret
        exact ⟨ret_i h'.out.symm, hb.trans (hb1.mono hb.size)⟩
    · go_wp2_with fail
      go_ret
      refine ⟨ret_i ?_, hb⟩
      have h := HE.out
      rw [List.drop_eq_nil_of_le (by omega)] at h
      rw [h]; rfl
set_option maxRecDepth 100000 in
set_option maxHeartbeats 1000000 in
theorem containsFuncI_any (p : Int → Bool) (F : FuncId) (cap : Array Value) (xs : List Int) (A : Option Addr) (c : Nat) (w : World) (hx : xs.length ≤ 9223372036854775807)
    (hcf : ∀ args w, (callFunc F args).run Try.prog w = .ok (.enter F args) w) (h1 : RdI w w.heap.size A xs)
    (hp : ∀ z W, Below w.heap.size w W → Calls Try.prog F (#[.int .i64 z] ++ cap) W fun e w' => e = .returned (.bool (p z)) ∧ Below W.heap.size W w') :
    Calls Try.prog 164 #[.slice A xs.length c, .func (.func F) #[] cap] w fun e w' => e = .returned (.bool (xs.any p)) ∧ Below w.heap.size w w' := by
  have HC := hide (indexFuncI_any p F cap xs A c w hx hcf h1 hp)
  clear hp
  have HE := hide (firstI_ge p xs 0)
  go_enter Try.func164, Try.ntmps164
  go_wp2_with fail
  refine HC.out.mono ?_
  rintro e w1 ⟨rfl, hb⟩
  go_wp2_with fail
  go_ret
  exact ⟨ret_b HE.out, hb⟩
/-! ### outside -/
set_option maxRecDepth 100000 in
set_option maxHeartbeats 1000000 in
theorem outside1_any (z lo hi : Int) (b1 b2 : Nat) (w : World) (h1 : w.cell? ⟨b1, 0, none⟩ = some (.int .i64 lo)) (h2 : w.cell? ⟨b2, 0, none⟩ = some (.int .i64 hi)) :
    Calls Try.prog 165 #[.int .i64 z, .pointer (some ⟨b1, 0, none⟩), .pointer (some ⟨b2, 0, none⟩)] w fun e w' => e = .returned (.bool (!inB lo hi z)) ∧ Below w.heap.size w w' := by
  have HC := hide (within_any z lo hi w)
  go_enter Try.func165, Try.ntmps165
  go_wp2_with (go_at_call 115; refine HC.out.mono ?_; rintro e w' ⟨rfl, rfl⟩)
  go_ret
  exact ⟨rfl, Below.refl _ _⟩
set_option maxRecDepth 100000 in
set_option maxHeartbeats 1000000 in
theorem outside_any (xs : List Int) (lo hi : Int) (A : Option Addr) (c : Nat) (w : World) (hx : xs.length ≤ 9223372036854775807) (h1 : RdI w w.heap.size A xs) :
    Calls Try.prog 137 #[.slice A xs.length c, .int .i64 lo, .int .i64 hi] w fun e w' => e = .returned (.bool (xs.any fun z => !inB lo hi z)) ∧ Below w.heap.size w w' := by
  have HX := hide h1; clear h1
  go_enter Try.func137, Try.ntmps137
  go_wp2_with fail
  have hb0 : Below w.heap.size w ((w.alloc (.cells #[.int .i64 lo] 2)).alloc (.cells #[.int .i64 hi] 2)) := (by repeat (first | exact Below.refl _ _ | assumption | (refine Below.alloc ?_ (by simp <;> omega) _) | refine Below.drew ?_ | refine bdn ?_ _))
  have hcf := callFunc_gen (P := Try.prog) (F := 165) Try.func165 (by kernel_rfl) (by kernel_rfl)
  refine (containsFuncI_any (fun z => !inB lo hi z) 165 _ xs A c _ hx hcf ((HX.out.below hb0).more (by simp; omega)) ?_).mono ?_
  · intro z W hW
    have e1 : W.cell? ⟨w.heap.size, 0, none⟩ = some (.int .i64 lo) := by rw [hW.cell (by simp; omega)]; simp [go_sem]
    have e2 : W.cell? ⟨w.heap.size + 1, 0, none⟩ = some (.int .i64 hi) := by rw [hW.cell (by simp)]; simp [go_sem]
    exact outside1_any z lo hi _ _ W e1 e2
  · rintro e w1 ⟨rfl, hb⟩
    go_wp2_with fail
    go_ret
    exact ⟨rfl, hb0.trans (hb.mono (by simp; omega))⟩
end Go.Proofs.Ytlkccijlbeibjaa
namespace Go.Proofs.Ytlkccijlbeibjaa
open Go.RowKit

set_option maxRecDepth 100000 in
set_option maxHeartbeats 1000000 in
theorem cloneI_any (xs : List Int) (A : Option Addr) (c : Nat) (w : World) (hx : xs.length ≤ 1048576) (h1 : RdI w w.heap.size A xs) :
    Calls Try.prog 71 #[.slice A xs.length c] w fun e w' => ∃ A' c', e = .returned (.slice A' xs.length c') ∧ w'.ownsRow w.heap.size 2 1 (.slice A' xs.length c') xs.length (xs.map (Value.int .i64)) ∧ Below w.heap.size w w' := by
  have hinfo : (Try.prog.info? 2).map (fun i => (i.zero, i.size, i.bytes)) = some (some (.int .i64 0), 1, 8) := by kernel_rfl
  obtain ⟨i0, hi0, hz0, hs0, hb0⟩ := info_parts hinfo
  clear hinfo
  have hnil := fun (W : World) (A : Option Addr) (n c : Nat) => Lib.run_eql_slice_nil (P := Try.prog) W 22 2 A n c 0 0 Try.underlying22
  cases A with
  | none =>
    have hn : xs = [] := by
      rcases xs with _ | ⟨x, xs⟩
      · rfl
      · exact absurd (h1 (by simp)) (by rintro ⟨b, o, h, _⟩; cases h)
    subst hn
    clear h1
    go_enter Try.func71, Try.ntmps71
    go_wp2_with fail
    go_ret
    exact ⟨none, 0, rfl, World.ownsRow_nil _ _ _ _, Below.refl _ _⟩
  | some ad =>
    have HX := hide h1; clear h1
    go_enter Try.func71, Try.ntmps71
    have ho0 := own_new0 w w.heap.size 2 1 (Nat.le_refl _)
    have hb1 : Below w.heap.size w (w.alloc (.cells #[] 2)) := (Below.refl _ _).alloc (Nat.le_refl _) _
    have HR := hide (Rd.below HX.out hb1)
    go_wp2_with (at_builtin; go_must (refine wp_app _ rfl _ _ 22 rfl w.heap.size 2 i0 (.int .i64 0) 1 8 Try.underlying22 hi0 hz0 hs0 hb0 rfl (by decide) _ _ _ rfl ho0 _ _ xs.length c _ rfl (by simp) HR.out (ints_one _) (by omega) (by decide) (by simp) ?_); intro v' w1 hown' hgrow hat)
    go_ret
    simp only [Nat.zero_add, List.nil_append] at hown'
    obtain ⟨A', c', rfl, _⟩ := own_shape hown'
    exact ⟨A', c', rfl, hown', app_below hb1 ho0 hgrow (Nat.le_refl _) (by simp)⟩
set_option maxRecDepth 100000 in
set_option maxHeartbeats 1000000 in
theorem cloneChange_any (xs : List T3) (A : Option Addr) (c : Nat) (w : World) (hx : xs.length ≤ 1048576) (h1 : Rd3 w w.heap.size A xs) :
    Calls Try.prog 73 #[.slice A xs.length c] w fun e w' => ∃ A' c', e = .returned (.slice A' xs.length c') ∧ w'.ownsRow w.heap.size 35 3 (.slice A' xs.length c') xs.length (xs.flatMap T3.cells) ∧ Below w.heap.size w w' := by
  have hinfo : (Try.prog.info? 35).map (fun i => (i.zero, i.size, i.bytes)) = some (some (.agg #[.int .i64 0, .int .i64 0, .int .i64 0]), 3, 24) := by kernel_rfl
  obtain ⟨i0, hi0, hz0, hs0, hb0⟩ := info_parts hinfo
  clear hinfo
  have hnil := fun (W : World) (A : Option Addr) (n c : Nat) => Lib.run_eql_slice_nil (P := Try.prog) W 29 35 A n c 0 0 Try.underlying29
  cases A with
  | none =>
    have hn : xs = [] := by
      rcases xs with _ | ⟨x, xs⟩
      · rfl
      · exact absurd (h1 (by simp [T3.cells])) (by rintro ⟨b, o, h, _⟩; cases h)
    subst hn
    clear h1
    go_enter Try.func73, Try.ntmps73
    go_wp2_with fail
    go_ret
    exact ⟨none, 0, rfl, World.ownsRow_nil _ _ _ _, Below.refl _ _⟩
  | some ad =>
    have HX := hide h1; clear h1
    go_enter Try.func73, Try.ntmps73
    have ho0 := own_new0 w w.heap.size 35 3 (Nat.le_refl _)
    have hb1 : Below w.heap.size w (w.alloc (.cells #[] 35)) := (Below.refl _ _).alloc (Nat.le_refl _) _
    have HR := hide (Rd.below HX.out hb1)
    go_wp2_with (at_builtin; go_must (refine wp_app _ rfl _ _ 29 rfl w.heap.size 35 i0 (.agg #[.int .i64 0, .int .i64 0, .int .i64 0]) 3 24 Try.underlying29 hi0 hz0 hs0 hb0 rfl (by decide) _ _ _ rfl ho0 _ _ xs.length c _ rfl (by simp [flatMap_len T3.cells 3 (fun _ => rfl)]) HR.out (T3.ones _) (by omega) (by decide) (by simp) ?_); intro v' w1 hown' hgrow hat)
    go_ret
    simp only [Nat.zero_add, List.nil_append] at hown'
    obtain ⟨A', c', rfl, _⟩ := own_shape hown'
    exact ⟨A', c', rfl, hown', app_below hb1 ho0 hgrow (Nat.le_refl _) (by simp)⟩
set_option maxRecDepth 100000 in
set_option maxHeartbeats 1000000 in
theorem cloneRide_any (xs : List T4) (A : Option Addr) (c : Nat) (w : World) (hx : xs.length ≤ 1048576) (h1 : Rd4 w w.heap.size A xs) :
    Calls Try.prog 132 #[.slice A xs.length c] w fun e w' => ∃ A' c', e = .returned (.slice A' xs.length c') ∧ w'.ownsRow w.heap.size 83 4 (.slice A' xs.length c') xs.length (xs.flatMap T4.cells) ∧ Below w.heap.size w w' := by
  have hinfo : (Try.prog.info? 83).map (fun i => (i.zero, i.size, i.bytes)) = some (some (.agg #[.int .i64 0, .int .i64 0, .int .i64 0, .int .i64 0]), 4, 32) := by kernel_rfl
  obtain ⟨i0, hi0, hz0, hs0, hb0⟩ := info_parts hinfo
  clear hinfo
  have hnil := fun (W : World) (A : Option Addr) (n c : Nat) => Lib.run_eql_slice_nil (P := Try.prog) W 73 83 A n c 0 0 Try.underlying73
  cases A with
  | none =>
    have hn : xs = [] := by
      rcases xs with _ | ⟨x, xs⟩
      · rfl
      · exact absurd (h1 (by simp [T4.cells])) (by rintro ⟨b, o, h, _⟩; cases h)
    subst hn
    clear h1
    go_enter Try.func132, Try.ntmps132
    go_wp2_with fail
    go_ret
    exact ⟨none, 0, rfl, World.ownsRow_nil _ _ _ _, Below.refl _ _⟩
  | some ad =>
    have HX := hide h1; clear h1
    go_enter Try.func132, Try.ntmps132
    have ho0 := own_new0 w w.heap.size 83 4 (Nat.le_refl _)
    have hb1 : Below w.heap.size w (w.alloc (.cells #[] 83)) := (Below.refl _ _).alloc (Nat.le_refl _) _
    have HR := hide (Rd.below HX.out hb1)
    go_wp2_with (at_builtin; go_must (refine wp_app _ rfl _ _ 73 rfl w.heap.size 83 i0 (.agg #[.int .i64 0, .int .i64 0, .int .i64 0, .int .i64 0]) 4 32 Try.underlying73 hi0 hz0 hs0 hb0 rfl (by decide) _ _ _ rfl ho0 _ _ xs.length c _ rfl (by simp [flatMap_len T4.cells 4 (fun _ => rfl)]) HR.out (T4.ones _) (by omega) (by decide) (by simp) ?_); intro v' w1 hown' hgrow hat)
    go_ret
    simp only [Nat.zero_add, List.nil_append] at hown'
    obtain ⟨A', c', rfl, _⟩ := own_shape hown'
    exact ⟨A', c', rfl, hown', app_below hb1 ho0 hgrow (Nat.le_refl _) (by simp)⟩
end Go.Proofs.Ytlkccijlbeibjaa
namespace Go.Proofs.Ytlkccijlbeibjaa
open Go.RowKit

/-- Only blocks lo .. hi, and new ones, have turned. -/
def Only (lo hi : Nat) (w w' : World) : Prop :=
  w'.os = w.os ∧ w'.tape = w.tape ∧ w'.output = w.output ∧ w.heap.size ≤ w'.heap.size ∧ ∀ k, k < w.heap.size → (k < lo ∨ hi ≤ k) → w'.heap[k]? = w.heap[k]?
theorem Only.size {lo hi : Nat} {w w' : World} (h : Only lo hi w w') : w.heap.size ≤ w'.heap.size := h.2.2.2.1
theorem Only.below {lo hi : Nat} {w w' : World} (h : Only lo hi w w') {B : Nat} (hB : B ≤ lo) (hB' : B ≤ w.heap.size) : Below B w w' :=
  ⟨h.1, h.2.1, h.2.2.1, h.2.2.2.1, fun k hk => h.2.2.2.2 k (by omega) (.inl (by omega))⟩
theorem only_row {w w' : World} {r : Option Nat} {lo hi : Nat} (h : w.grownBy w' r) (hr : ∀ g, r = some g → lo ≤ g ∧ g < hi) : Only lo hi w w' :=
  ⟨h.os, h.tape, h.output, h.size, fun k hk ho => h.block k hk (fun e => by have := hr k e.symm; omega)⟩
theorem only_of_below {w w' : World} {lo hi : Nat} (h : Below w.heap.size w w') : Only lo hi w w' := ⟨h.os, h.tape, h.output, h.size, fun k hk _ => h.block k hk⟩
theorem only_trans {w w1 w2 : World} {lo hi : Nat} (h : Only lo hi w w1) (k : Only lo hi w1 w2) : Only lo hi w w2 :=
  ⟨k.1.trans h.1, k.2.1.trans h.2.1, k.2.2.1.trans h.2.2.1, Nat.le_trans h.size k.size, fun i hi' ho => (k.2.2.2.2 i (Nat.lt_of_lt_of_le hi' h.size) ho).trans (h.2.2.2.2 i hi' ho)⟩
/-- A row of the call's own, of elements with s cells. -/
def OwnV (e : TypeId) (s : Nat) (w : World) (lo hi : Nat) (v : Value) (n : Nat) (xs : List Value) : Prop :=
  (∃ A c, v = .slice A n c) ∧ n ≤ 1048576 ∧ ((n = 0 ∧ xs = []) ∨ (w.ownsRow lo e s v n xs ∧ ∀ g, v.ownBlock = some g → g < hi))
theorem OwnV.of_row {e : TypeId} {s : Nat} {w : World} {lo : Nat} {v : Value} {n : Nat} {xs : List Value} (h : w.ownsRow lo e s v n xs) (hn : n ≤ 1048576) : OwnV e s w lo w.heap.size v n xs := by
  obtain ⟨A, c, rfl, _⟩ := own_shape h
  exact ⟨⟨A, c, rfl⟩, hn, .inr ⟨h, fun g hg => (h.lt g hg).2⟩⟩
theorem OwnV.nil (e : TypeId) (s : Nat) (w : World) (lo hi : Nat) (A : Option Addr) (c : Nat) : OwnV e s w lo hi (.slice A 0 c) 0 [] := ⟨⟨A, c, rfl⟩, by omega, .inl ⟨rfl, rfl⟩⟩
theorem OwnV.kept {e : TypeId} {s : Nat} {w w' : World} {lo hi lo' hi' : Nat} {v : Value} {n : Nat} {xs : List Value} (h : OwnV e s w lo hi v n xs) (k : Only lo' hi' w w') (hd : hi ≤ lo' ∨ hi' ≤ lo) : OwnV e s w' lo hi v n xs := by
  refine ⟨h.1, h.2.1, ?_⟩
  rcases h.2.2 with h0 | ⟨ho, hlt⟩
  · exact .inl h0
  · refine .inr ⟨⟨ho.1, ?_⟩, hlt⟩
    rcases ho.2 with h0 | ⟨g, cap, cur, rfl, hb, hg, rest⟩
    · exact .inl h0
    · refine .inr ⟨g, cap, cur, rfl, hb, ?_, rest⟩
      have := hlt g rfl
      rw [k.2.2.2.2 g (lt_of_block hg) (by omega)]; exact hg
theorem OwnV.below {e : TypeId} {s : Nat} {w w' : World} {lo hi B : Nat} {v : Value} {n : Nat} {xs : List Value} (h : OwnV e s w lo hi v n xs) (k : Below B w w') (hd : hi ≤ B) : OwnV e s w' lo hi v n xs := by
  refine ⟨h.1, h.2.1, ?_⟩
  rcases h.2.2 with h0 | ⟨ho, hlt⟩
  · exact .inl h0
  · refine .inr ⟨⟨ho.1, ?_⟩, hlt⟩
    rcases ho.2 with h0 | ⟨g, cap, cur, rfl, hb, hg, rest⟩
    · exact .inl h0
    · refine .inr ⟨g, cap, cur, rfl, hb, ?_, rest⟩
      have := hlt g rfl
      rw [k.block g (by omega)]; exact hg
theorem OwnV.widen {e : TypeId} {s : Nat} {w : World} {lo hi lo' hi' : Nat} {v : Value} {n : Nat} {xs : List Value} (h : OwnV e s w lo hi v n xs) (h1 : lo' ≤ lo) (h2 : hi ≤ hi') : OwnV e s w lo' hi' v n xs := by
  refine ⟨h.1, h.2.1, ?_⟩
  rcases h.2.2 with h0 | ⟨ho, hlt⟩
  · exact .inl h0
  · exact .inr ⟨own_base ho h1, fun g hg => Nat.lt_of_lt_of_le (hlt g hg) h2⟩
theorem OwnV.rd {e : TypeId} {s : Nat} {w : World} {lo hi : Nat} {v : Value} {n : Nat} {xs : List Value} (h : OwnV e s w lo hi v n xs) : ∃ A c, v = .slice A n c ∧ Rd w w.heap.size A xs := by
  obtain ⟨⟨A, c, rfl⟩, _, h0 | ⟨ho, _⟩⟩ := h
  · obtain ⟨rfl, rfl⟩ := h0; exact ⟨A, c, rfl, Rd.nil _ _ _⟩
  · exact ⟨A, c, rfl, Rd.of_own ho⟩

/-! ### Int64S -/
def R_Int64S (w : World) (B : Nat) (v : Value) (x : List Int) : Prop := ∃ A c, v = .slice A x.length c ∧ RdI w B A x
def O_Int64S (w : World) (lo hi : Nat) (v : Value) (x : List Int) : Prop := OwnV 2 1 w lo hi v x.length (x.map (Value.int .i64))
theorem R_Int64S.below {w w' : World} {B : Nat} {v : Value} {x : List Int} (h : R_Int64S w B v x) (k : Below B w w') : R_Int64S w' B v x := by
  obtain ⟨A, c, rfl, h⟩ := h; exact ⟨A, c, rfl, h.below k⟩
theorem R_Int64S.more {w : World} {B B' : Nat} {v : Value} {x : List Int} (h : R_Int64S w B v x) (k : B ≤ B') : R_Int64S w B' v x := by
  obtain ⟨A, c, rfl, h⟩ := h; exact ⟨A, c, rfl, h.more k⟩
theorem O_Int64S.r {w : World} {lo hi : Nat} {v : Value} {x : List Int} (h : O_Int64S w lo hi v x) : R_Int64S w w.heap.size v x := h.rd
theorem O_Int64S.small {w : World} {lo hi : Nat} {v : Value} {x : List Int} (h : O_Int64S w lo hi v x) : x.length ≤ 1048576 := h.2.1
theorem O_Int64S.kept {w w' : World} {lo hi lo' hi' : Nat} {v : Value} {x : List Int} (h : O_Int64S w lo hi v x) (k : Only lo' hi' w w') (hd : hi ≤ lo' ∨ hi' ≤ lo) : O_Int64S w' lo hi v x := OwnV.kept h k hd
theorem O_Int64S.below {w w' : World} {lo hi B : Nat} {v : Value} {x : List Int} (h : O_Int64S w lo hi v x) (k : Below B w w') (hd : hi ≤ B) : O_Int64S w' lo hi v x := OwnV.below h k hd
theorem O_Int64S.widen {w : World} {lo hi lo' hi' : Nat} {v : Value} {x : List Int} (h : O_Int64S w lo hi v x) (h1 : lo' ≤ lo) (h2 : hi ≤ hi') : O_Int64S w lo' hi' v x := OwnV.widen h h1 h2
theorem O_Int64S.nil (w : World) (lo hi : Nat) (A : Option Addr) (c : Nat) : O_Int64S w lo hi (.slice A 0 c) [] := OwnV.nil _ _ _ _ _ _ _
def mark_Int64S (x : List Int) (k : Int) : List Int := marks (mkI k) x.length
def cnt_Int64S (x : List Int) : Int := x.length
theorem O_Int64S.cnt {w : World} {lo hi : Nat} {v : Value} {x : List Int} (h : O_Int64S w lo hi v x) : 0 ≤ cnt_Int64S x ∧ cnt_Int64S x ≤ 4194304 := by
  have := h.small
  unfold cnt_Int64S; omega
theorem L_to_Int64S (x : List Int) (v : Value) (w : World) (hs : x.length ≤ 1048576) (h : R_Int64S w w.heap.size v x) :
    Calls Try.prog 65 #[v] w fun e w' => ∃ v', e = .returned v' ∧ O_Int64S w' w.heap.size w'.heap.size v' x ∧ Below w.heap.size w w' := by
  obtain ⟨A, c, rfl, h⟩ := h
  exact (toInt64S_any x A c w hs h).mono fun e w' ⟨A', c', he, ho, hb⟩ => ⟨_, he, OwnV.of_row ho hs, hb⟩
theorem L_eq_Int64S (x : List Int) (v1 v2 : Value) (lo1 hi1 lo2 hi2 : Nat) (w : World) (h1 : O_Int64S w lo1 hi1 v1 x) (h2 : O_Int64S w lo2 hi2 v2 x) :
    Calls Try.prog 74 #[v1, v2] w fun e w' => e = .returned (.bool true) ∧ Below w.heap.size w w' := by
  have hs := h1.small
  obtain ⟨A1, c1, rfl, r1⟩ := h1.r
  obtain ⟨A2, c2, rfl, r2⟩ := h2.r
  exact (eqInt64S_any x x A1 A2 c1 c2 w (by omega) (by omega) r1 r2).mono fun e w' ⟨he, hb⟩ => ⟨by rw [he]; simp, hb⟩
theorem L_sz_Int64S (x : List Int) (v : Value) (left : Int) (B : Nat) (w : World) (hx : x.length ≤ 9223372036854775807) (hl : 0 ≤ left) (hl2 : left ≤ 1048576) (h : R_Int64S w B v x) :
    Calls Try.prog 60 #[v, .int .i64 left] w fun e w' => e = .returned (.int .i64 (szF x.length left)) ∧ w = w' := by
  obtain ⟨A, c, rfl, h⟩ := h
  exact szInt64S_any A x.length c left w hx hl hl2
theorem L_mark_Int64S (x : List Int) (v : Value) (k : Int) (lo hi : Nat) (w : World) (hk0 : 0 ≤ k) (hk1 : k ≤ 1099511627776) (h : O_Int64S w lo hi v x) :
    Calls Try.prog 76 #[v, .int .i64 k] w fun e w' => e = .returned (.int .i64 (k + cnt_Int64S x)) ∧ O_Int64S w' lo hi v (mark_Int64S x k) ∧ Only lo hi w w' := by
  have hs := h.small
  obtain ⟨⟨A, c, rfl⟩, _, ⟨hn, hx⟩ | ⟨ho, hlt⟩⟩ := h
  · have hx0 : x = [] := List.eq_nil_of_length_eq_zero hn
    subst hx0
    have hnil : w.ownsRow 0 2 1 (.slice none 0 0) 0 [] := World.ownsRow_nil _ _ _ _
    refine (markInt64S_nil A c k w hk0 hk1).mono fun e w' ⟨he, hw⟩ => ?_
    subst hw
    exact ⟨by rw [he]; simp [cnt_Int64S], OwnV.nil _ _ _ _ _ _ _, only_of_below (Below.refl _ _)⟩
  · refine (markInt64S_any lo x A c k w hs hk0 hk1 ho).mono fun e w' ⟨he, ho', hg⟩ => ⟨by rw [he]; simp [cnt_Int64S], ?_, only_row hg fun g hg' => ⟨(ho.lt g hg').1, hlt g hg'⟩⟩
    unfold O_Int64S mark_Int64S
    rw [marks_len]
    exact ⟨⟨A, c, rfl⟩, hs, .inr ⟨ho', hlt⟩⟩
theorem L_held_Int64S (x : List Int) (v : Value) (k : Int) (lo hi : Nat) (w : World) (hk0 : 0 ≤ k) (hk1 : k ≤ 1099511627776) (h : O_Int64S w lo hi v (mark_Int64S x k)) :
    Calls Try.prog 78 #[v, .int .i64 k] w fun e w' => e = .returned (.int .i64 (k + cnt_Int64S x)) ∧ Below w.heap.size w w' := by
  have hs := h.small
  obtain ⟨A, c, rfl, r⟩ := h.r
  unfold mark_Int64S at *
  rw [marks_len] at *
  exact (heldInt64S_any x.length A c k w hs hk0 hk1 r).mono fun e w' ⟨he, hb⟩ => ⟨by rw [he]; simp [cnt_Int64S], hb⟩



/-! ### TubeS -/
def R_TubeS (w : World) (B : Nat) (v : Value) (x : List T3) : Prop := ∃ A c, v = .slice A x.length c ∧ Rd3 w B A x
def O_TubeS (w : World) (lo hi : Nat) (v : Value) (x : List T3) : Prop := OwnV 111 3 w lo hi v x.length (x.flatMap T3.cells)
theorem R_TubeS.below {w w' : World} {B : Nat} {v : Value} {x : List T3} (h : R_TubeS w B v x) (k : Below B w w') : R_TubeS w' B v x := by
  obtain ⟨A, c, rfl, h⟩ := h; exact ⟨A, c, rfl, h.below k⟩
theorem R_TubeS.more {w : World} {B B' : Nat} {v : Value} {x : List T3} (h : R_TubeS w B v x) (k : B ≤ B') : R_TubeS w B' v x := by
  obtain ⟨A, c, rfl, h⟩ := h; exact ⟨A, c, rfl, h.more k⟩
theorem O_TubeS.r {w : World} {lo hi : Nat} {v : Value} {x : List T3} (h : O_TubeS w lo hi v x) : R_TubeS w w.heap.size v x := h.rd
theorem O_TubeS.small {w : World} {lo hi : Nat} {v : Value} {x : List T3} (h : O_TubeS w lo hi v x) : x.length ≤ 1048576 := h.2.1
theorem O_TubeS.kept {w w' : World} {lo hi lo' hi' : Nat} {v : Value} {x : List T3} (h : O_TubeS w lo hi v x) (k : Only lo' hi' w w') (hd : hi ≤ lo' ∨ hi' ≤ lo) : O_TubeS w' lo hi v x := OwnV.kept h k hd
theorem O_TubeS.below {w w' : World} {lo hi B : Nat} {v : Value} {x : List T3} (h : O_TubeS w lo hi v x) (k : Below B w w') (hd : hi ≤ B) : O_TubeS w' lo hi v x := OwnV.below h k hd
theorem O_TubeS.widen {w : World} {lo hi lo' hi' : Nat} {v : Value} {x : List T3} (h : O_TubeS w lo hi v x) (h1 : lo' ≤ lo) (h2 : hi ≤ hi') : O_TubeS w lo' hi' v x := OwnV.widen h h1 h2
theorem O_TubeS.nil (w : World) (lo hi : Nat) (A : Option Addr) (c : Nat) : O_TubeS w lo hi (.slice A 0 c) [] := OwnV.nil _ _ _ _ _ _ _
def mark_TubeS (x : List T3) (k : Int) : List T3 := marks (mk3 k) x.length
def cnt_TubeS (x : List T3) : Int := 3 * x.length
theorem O_TubeS.cnt {w : World} {lo hi : Nat} {v : Value} {x : List T3} (h : O_TubeS w lo hi v x) : 0 ≤ cnt_TubeS x ∧ cnt_TubeS x ≤ 4194304 := by
  have := h.small
  unfold cnt_TubeS; omega

/-! ### ChangeS -/
def R_ChangeS (w : World) (B : Nat) (v : Value) (x : List T3) : Prop := ∃ A c, v = .slice A x.length c ∧ Rd3 w B A x
def O_ChangeS (w : World) (lo hi : Nat) (v : Value) (x : List T3) : Prop := OwnV 35 3 w lo hi v x.length (x.flatMap T3.cells)
theorem R_ChangeS.below {w w' : World} {B : Nat} {v : Value} {x : List T3} (h : R_ChangeS w B v x) (k : Below B w w') : R_ChangeS w' B v x := by
  obtain ⟨A, c, rfl, h⟩ := h; exact ⟨A, c, rfl, h.below k⟩
theorem R_ChangeS.more {w : World} {B B' : Nat} {v : Value} {x : List T3} (h : R_ChangeS w B v x) (k : B ≤ B') : R_ChangeS w B' v x := by
  obtain ⟨A, c, rfl, h⟩ := h; exact ⟨A, c, rfl, h.more k⟩
theorem O_ChangeS.r {w : World} {lo hi : Nat} {v : Value} {x : List T3} (h : O_ChangeS w lo hi v x) : R_ChangeS w w.heap.size v x := h.rd
theorem O_ChangeS.small {w : World} {lo hi : Nat} {v : Value} {x : List T3} (h : O_ChangeS w lo hi v x) : x.length ≤ 1048576 := h.2.1
theorem O_ChangeS.kept {w w' : World} {lo hi lo' hi' : Nat} {v : Value} {x : List T3} (h : O_ChangeS w lo hi v x) (k : Only lo' hi' w w') (hd : hi ≤ lo' ∨ hi' ≤ lo) : O_ChangeS w' lo hi v x := OwnV.kept h k hd
theorem O_ChangeS.below {w w' : World} {lo hi B : Nat} {v : Value} {x : List T3} (h : O_ChangeS w lo hi v x) (k : Below B w w') (hd : hi ≤ B) : O_ChangeS w' lo hi v x := OwnV.below h k hd
theorem O_ChangeS.widen {w : World} {lo hi lo' hi' : Nat} {v : Value} {x : List T3} (h : O_ChangeS w lo hi v x) (h1 : lo' ≤ lo) (h2 : hi ≤ hi') : O_ChangeS w lo' hi' v x := OwnV.widen h h1 h2
theorem O_ChangeS.nil (w : World) (lo hi : Nat) (A : Option Addr) (c : Nat) : O_ChangeS w lo hi (.slice A 0 c) [] := OwnV.nil _ _ _ _ _ _ _
def mark_ChangeS (x : List T3) (k : Int) : List T3 := marks (mk3 k) x.length
def cnt_ChangeS (x : List T3) : Int := 3 * x.length
theorem O_ChangeS.cnt {w : World} {lo hi : Nat} {v : Value} {x : List T3} (h : O_ChangeS w lo hi v x) : 0 ≤ cnt_ChangeS x ∧ cnt_ChangeS x ≤ 4194304 := by
  have := h.small
  unfold cnt_ChangeS; omega
theorem L_to_ChangeS (x : List T3) (v : Value) (w : World) (hs : x.length ≤ 1048576) (h : R_ChangeS w w.heap.size v x) :
    Calls Try.prog 66 #[v] w fun e w' => ∃ v', e = .returned v' ∧ O_ChangeS w' w.heap.size w'.heap.size v' x ∧ Below w.heap.size w w' := by
  obtain ⟨A, c, rfl, h⟩ := h
  exact (toChangeS_any x A c w hs h).mono fun e w' ⟨A', c', he, ho, hb⟩ => ⟨_, he, OwnV.of_row ho hs, hb⟩
theorem L_eq_ChangeS (x : List T3) (v1 v2 : Value) (lo1 hi1 lo2 hi2 : Nat) (w : World) (h1 : O_ChangeS w lo1 hi1 v1 x) (h2 : O_ChangeS w lo2 hi2 v2 x) :
    Calls Try.prog 75 #[v1, v2] w fun e w' => e = .returned (.bool true) ∧ Below w.heap.size w w' := by
  have hs := h1.small
  obtain ⟨A1, c1, rfl, r1⟩ := h1.r
  obtain ⟨A2, c2, rfl, r2⟩ := h2.r
  exact (eqChangeS_any x x A1 A2 c1 c2 w (by omega) (by omega) r1 r2).mono fun e w' ⟨he, hb⟩ => ⟨by rw [he]; simp, hb⟩
theorem L_sz_ChangeS (x : List T3) (v : Value) (left : Int) (B : Nat) (w : World) (hx : x.length ≤ 9223372036854775807) (hl : 0 ≤ left) (hl2 : left ≤ 1048576) (h : R_ChangeS w B v x) :
    Calls Try.prog 61 #[v, .int .i64 left] w fun e w' => e = .returned (.int .i64 (szF x.length left)) ∧ w = w' := by
  obtain ⟨A, c, rfl, h⟩ := h
  exact szChangeS_any A x.length c left w hx hl hl2
theorem L_mark_ChangeS (x : List T3) (v : Value) (k : Int) (lo hi : Nat) (w : World) (hk0 : 0 ≤ k) (hk1 : k ≤ 1099511627776) (h : O_ChangeS w lo hi v x) :
    Calls Try.prog 77 #[v, .int .i64 k] w fun e w' => e = .returned (.int .i64 (k + cnt_ChangeS x)) ∧ O_ChangeS w' lo hi v (mark_ChangeS x k) ∧ Only lo hi w w' := by
  have hs := h.small
  obtain ⟨⟨A, c, rfl⟩, _, ⟨hn, hx⟩ | ⟨ho, hlt⟩⟩ := h
  · have hx0 : x = [] := List.eq_nil_of_length_eq_zero hn
    subst hx0
    have hnil : w.ownsRow 0 35 3 (.slice none 0 0) 0 [] := World.ownsRow_nil _ _ _ _
    refine (markChangeS_nil A c k w hk0 hk1).mono fun e w' ⟨he, hw⟩ => ?_
    subst hw
    exact ⟨by rw [he]; simp [cnt_ChangeS], OwnV.nil _ _ _ _ _ _ _, only_of_below (Below.refl _ _)⟩
  · refine (markChangeS_any lo x A c k w hs hk0 hk1 ho).mono fun e w' ⟨he, ho', hg⟩ => ⟨by rw [he]; simp [cnt_ChangeS], ?_, only_row hg fun g hg' => ⟨(ho.lt g hg').1, hlt g hg'⟩⟩
    unfold O_ChangeS mark_ChangeS
    rw [marks_len]
    exact ⟨⟨A, c, rfl⟩, hs, .inr ⟨ho', hlt⟩⟩
theorem L_held_ChangeS (x : List T3) (v : Value) (k : Int) (lo hi : Nat) (w : World) (hk0 : 0 ≤ k) (hk1 : k ≤ 1099511627776) (h : O_ChangeS w lo hi v (mark_ChangeS x k)) :
    Calls Try.prog 79 #[v, .int .i64 k] w fun e w' => e = .returned (.int .i64 (k + cnt_ChangeS x)) ∧ Below w.heap.size w w' := by
  have hs := h.small
  obtain ⟨A, c, rfl, r⟩ := h.r
  unfold mark_ChangeS at *
  rw [marks_len] at *
  exact (heldChangeS_any x.length A c k w hs hk0 hk1 r).mono fun e w' ⟨he, hb⟩ => ⟨by rw [he]; simp [cnt_ChangeS], hb⟩


/-! ### RideS -/
def R_RideS (w : World) (B : Nat) (v : Value) (x : List T4) : Prop := ∃ A c, v = .slice A x.length c ∧ Rd4 w B A x
def O_RideS (w : World) (lo hi : Nat) (v : Value) (x : List T4) : Prop := OwnV 83 4 w lo hi v x.length (x.flatMap T4.cells)
theorem R_RideS.below {w w' : World} {B : Nat} {v : Value} {x : List T4} (h : R_RideS w B v x) (k : Below B w w') : R_RideS w' B v x := by
  obtain ⟨A, c, rfl, h⟩ := h; exact ⟨A, c, rfl, h.below k⟩
theorem R_RideS.more {w : World} {B B' : Nat} {v : Value} {x : List T4} (h : R_RideS w B v x) (k : B ≤ B') : R_RideS w B' v x := by
  obtain ⟨A, c, rfl, h⟩ := h; exact ⟨A, c, rfl, h.more k⟩
theorem O_RideS.r {w : World} {lo hi : Nat} {v : Value} {x : List T4} (h : O_RideS w lo hi v x) : R_RideS w w.heap.size v x := h.rd
theorem O_RideS.small {w : World} {lo hi : Nat} {v : Value} {x : List T4} (h : O_RideS w lo hi v x) : x.length ≤ 1048576 := h.2.1
theorem O_RideS.kept {w w' : World} {lo hi lo' hi' : Nat} {v : Value} {x : List T4} (h : O_RideS w lo hi v x) (k : Only lo' hi' w w') (hd : hi ≤ lo' ∨ hi' ≤ lo) : O_RideS w' lo hi v x := OwnV.kept h k hd
theorem O_RideS.below {w w' : World} {lo hi B : Nat} {v : Value} {x : List T4} (h : O_RideS w lo hi v x) (k : Below B w w') (hd : hi ≤ B) : O_RideS w' lo hi v x := OwnV.below h k hd
theorem O_RideS.widen {w : World} {lo hi lo' hi' : Nat} {v : Value} {x : List T4} (h : O_RideS w lo hi v x) (h1 : lo' ≤ lo) (h2 : hi ≤ hi') : O_RideS w lo' hi' v x := OwnV.widen h h1 h2
theorem O_RideS.nil (w : World) (lo hi : Nat) (A : Option Addr) (c : Nat) : O_RideS w lo hi (.slice A 0 c) [] := OwnV.nil _ _ _ _ _ _ _
def mark_RideS (x : List T4) (k : Int) : List T4 := marks (mk4 k) x.length
def cnt_RideS (x : List T4) : Int := 4 * x.length
theorem O_RideS.cnt {w : World} {lo hi : Nat} {v : Value} {x : List T4} (h : O_RideS w lo hi v x) : 0 ≤ cnt_RideS x ∧ cnt_RideS x ≤ 4194304 := by
  have := h.small
  unfold cnt_RideS; omega
end Go.Proofs.Ytlkccijlbeibjaa
namespace Go.Proofs.Ytlkccijlbeibjaa
open Go.RowKit

/-- A valid stock. -/
def vStock (zs : List Int) : Bool := zs.all (inB 0 200) && (inB 2 10 zs.length && decide (zs.sum ≤ 200))

end Go.Proofs.Ytlkccijlbeibjaa
