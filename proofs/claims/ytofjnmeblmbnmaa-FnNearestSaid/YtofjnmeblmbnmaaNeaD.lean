/-
  Distances of two words; the least distance of words, in both packages.
-/
import Derived.Test.YtofjnmeblmbnmaaNeaC
namespace Go.Proofs.Ytofjnmeblmbnmaa
open Go.RowKit
def distR (a b : ByteArray) : Int × Int := if wordB 4 a = false ∨ wordB 4 b = false then (0, 1) else if a.size = b.size then (farB a b, 0) else (0, 8)
/-- The distance without a place (all places count for -1). -/
def farW (r : Int) (a b : ByteArray) : Int := farB a b - (if 0 ≤ r ∧ chr a r.toNat ≠ chr b r.toNat then 1 else 0)
theorem farW_all (a b : ByteArray) : farW (-1) a b = farB a b := by unfold farW; rw [if_neg (fun e => absurd e.1 (by decide))]; omega
def lpI (f : ByteArray → ByteArray → Int) (x : ByteArray) : List ByteArray → Int → Int
  | [], m => m
  | y :: ys, m => lpI f x ys (if m < 0 ∨ f x y < m then f x y else m)
def lpO (f : ByteArray → ByteArray → Int) (ws : List ByteArray) : Nat → Nat → Int → Int
  | _, 0, m => m
  | i, c + 1, m => lpO f ws (i + 1) c (lpI f (txt ws i) (ws.take i) m)
def leastA (f : ByteArray → ByteArray → Int) (ws : List ByteArray) : Int := lpO f ws 0 ws.length (-1)
theorem lpI_drop {f : ByteArray → ByteArray → Int} {x : ByteArray} {ys : List ByteArray} {q : Nat} {y : ByteArray} {m : Int} (h : ys[q]? = some y) : lpI f x (ys.drop q) m = lpI f x (ys.drop (q + 1)) (if m < 0 ∨ f x y < m then f x y else m) := by rw [drop_cons h, lpI]
theorem lpI_end {f : ByteArray → ByteArray → Int} {x : ByteArray} {ys : List ByteArray} {q : Nat} {m : Int} (h : ys.length ≤ q) : lpI f x (ys.drop q) m = m := by rw [List.drop_eq_nil_of_le h, lpI]
theorem leastA_all (ws : List ByteArray) : leastA (farW (-1)) ws = leastA farB ws := by rw [show farW (-1) = farB from funext fun a => funext fun b => farW_all a b]
set_option maxRecDepth 100000 in
set_option maxHeartbeats 1000000 in
theorem specDistanceOf_any (a b : ByteArray) (w : World) (ha : a.size ≤ 1048576) (hb : b.size ≤ 1048576) :
    Calls Try.prog 14 #[.string a, .string b] w fun e w' => e = .returned (.tuple #[.int .i64 (distR a b).1, .int .i64 (distR a b).2]) ∧ ∃ m, w' = w.drewN m := by
  have HWA := hide (l05Word_any 4 a w (by omega) ha)
  have HWB := hide (l05Word_any 4 b w (by omega) hb)
  cases h1 : wordB 4 a
  · have HR := hide (show distR a b = (0, 1) by unfold distR; rw [if_pos (.inl h1)])
    rw [h1] at HWA
    clear h1
    go_enter Try.func14, Try.ntmps14
    go_wp2_with (go_at_call 33; with_reducible refine (HWA.out).mono ?_; rintro e w' ⟨rfl, rfl⟩)
    go_ret2
    exact ⟨by rw [HR.out]; rfl, 0, rfl⟩
  rw [h1] at HWA
  cases h2 : wordB 4 b
  · have HR := hide (show distR a b = (0, 1) by unfold distR; rw [if_pos (.inr h2)])
    rw [h2] at HWB
    clear h1 h2
    go_enter Try.func14, Try.ntmps14
    go_wp2_with (first | (go_at_call 33; with_reducible refine (HWA.out).mono ?_; rintro e w' ⟨rfl, rfl⟩) | (go_at_call 33; with_reducible refine (HWB.out).mono ?_; rintro e w' ⟨rfl, rfl⟩))
    go_ret2
    exact ⟨by rw [HR.out]; rfl, 0, rfl⟩
  rw [h2] at HWB
  by_cases h3 : a.size = b.size
  · have HR := hide (show distR a b = (farB a b, 0) by unfold distR; rw [if_neg (by rw [h1, h2]; simp), if_pos h3])
    have HF := hide (l05Far_any a b w h3 ha)
    have hB : ((a.size : Int) != (b.size : Int)) = false := by simp; omega
    have H3 := hide h3
    clear h1 h2 h3
    go_enter Try.func14, Try.ntmps14
    go_wp2_with (first | (go_at_call 33; with_reducible refine (HWA.out).mono ?_; rintro e w' ⟨rfl, rfl⟩) | (go_at_call 33; with_reducible refine (HWB.out).mono ?_; rintro e w' ⟨rfl, rfl⟩) | (go_at_call 34; with_reducible refine (HF.out).mono ?_; rintro e w' ⟨rfl, m, rfl⟩))
    go_ret2
    exact ⟨by rw [HR.out]; rfl, m, rfl⟩
  · have HR := hide (show distR a b = (0, 8) by unfold distR; rw [if_neg (by rw [h1, h2]; simp), if_neg h3])
    have hB : ((a.size : Int) != (b.size : Int)) = true := by simp; omega
    have H3 := hide h3
    clear h1 h2 h3
    go_enter Try.func14, Try.ntmps14
    go_wp2_with (first | (go_at_call 33; with_reducible refine (HWA.out).mono ?_; rintro e w' ⟨rfl, rfl⟩) | (go_at_call 33; with_reducible refine (HWB.out).mono ?_; rintro e w' ⟨rfl, rfl⟩))
    go_ret2
    exact ⟨by rw [HR.out]; rfl, 0, rfl⟩
set_option maxRecDepth 100000 in
set_option maxHeartbeats 1000000 in
theorem distanceOf_any (a b : ByteArray) (w : World) (ha : a.size ≤ 1048576) (hb : b.size ≤ 1048576) :
    Calls Try.prog 13 #[.string a, .string b] w fun e w' => e = .returned (.tuple #[.int .i64 (distR a b).1, .int .i64 (distR a b).2]) ∧ ∃ m, w' = w.drewN m := by
  have HWA := hide (isWord_any 4 a w (by omega) ha)
  have HWB := hide (isWord_any 4 b w (by omega) hb)
  cases h1 : wordB 4 a
  · have HR := hide (show distR a b = (0, 1) by unfold distR; rw [if_pos (.inl h1)])
    rw [h1] at HWA
    clear h1
    go_enter Try.func13, Try.ntmps13
    go_wp2_with (go_at_call 30; with_reducible refine (HWA.out).mono ?_; rintro e w' ⟨rfl, rfl⟩)
    go_ret2
    exact ⟨by rw [HR.out]; rfl, 0, rfl⟩
  rw [h1] at HWA
  cases h2 : wordB 4 b
  · have HR := hide (show distR a b = (0, 1) by unfold distR; rw [if_pos (.inr h2)])
    rw [h2] at HWB
    clear h1 h2
    go_enter Try.func13, Try.ntmps13
    go_wp2_with (first | (go_at_call 30; with_reducible refine (HWA.out).mono ?_; rintro e w' ⟨rfl, rfl⟩) | (go_at_call 30; with_reducible refine (HWB.out).mono ?_; rintro e w' ⟨rfl, rfl⟩))
    go_ret2
    exact ⟨by rw [HR.out]; rfl, 0, rfl⟩
  rw [h2] at HWB
  by_cases h3 : a.size = b.size
  · have HR := hide (show distR a b = (farB a b, 0) by unfold distR; rw [if_neg (by rw [h1, h2]; simp), if_pos h3])
    have HF := hide (distance_any a b w h3 ha)
    have hB : ((a.size : Int) != (b.size : Int)) = false := by simp; omega
    have H3 := hide h3
    clear h1 h2 h3
    go_enter Try.func13, Try.ntmps13
    go_wp2_with (first | (go_at_call 30; with_reducible refine (HWA.out).mono ?_; rintro e w' ⟨rfl, rfl⟩) | (go_at_call 30; with_reducible refine (HWB.out).mono ?_; rintro e w' ⟨rfl, rfl⟩) | (go_at_call 31; with_reducible refine (HF.out).mono ?_; rintro e w' ⟨rfl, m, rfl⟩))
    go_ret2
    exact ⟨by rw [HR.out]; rfl, m, rfl⟩
  · have HR := hide (show distR a b = (0, 8) by unfold distR; rw [if_neg (by rw [h1, h2]; simp), if_neg h3])
    have hB : ((a.size : Int) != (b.size : Int)) = true := by simp; omega
    have H3 := hide h3
    clear h1 h2 h3
    go_enter Try.func13, Try.ntmps13
    go_wp2_with (first | (go_at_call 30; with_reducible refine (HWA.out).mono ?_; rintro e w' ⟨rfl, rfl⟩) | (go_at_call 30; with_reducible refine (HWB.out).mono ?_; rintro e w' ⟨rfl, rfl⟩))
    go_ret2
    exact ⟨by rw [HR.out]; rfl, 0, rfl⟩
set_option maxRecDepth 100000 in
set_option maxHeartbeats 4000000 in
theorem l05Least_any (ws : List ByteArray) (z : Nat) (A : Option Addr) (c : Nat) (w : World) (hwl : ws.length ≤ 1048576) (hz : z ≤ 1048576) (hsz : ∀ s ∈ ws, s.size = z) (hr : RdS w w.heap.size A ws) :
    Calls Try.prog 37 #[.slice A ws.length c] w fun e w' => e = .returned (.int .i64 (leastA farB ws)) ∧ ∃ m, w' = w.drewN m := by
  have HR := hide hr
  have HSZ := hide hsz
  clear hr hsz
  go_enter Try.func37, Try.ntmps37
  go_wp2_with fail
  go_loopg [4, 3] ws.length (fun g i s wr => ∃ (j : Nat) (x : Int), j ≤ ws.length ∧ Hid (g = ws.length - j) ∧ i = .int .i64 j ∧ s = .int .i64 x ∧ Hid (leastA farB ws = lpO farB ws j (ws.length - j) x) ∧ ∃ m, Hid (wr = w.drewN m))
  case atStart => exact ⟨0, -1, by omega, by simp [Hid], rfl, rfl, hide rfl, 0, hide rfl⟩
  case round =>
    obtain ⟨j, x, hj, hgj, rfl, rfl, HT, m, HM⟩ := hrel
    by_cases hjt : j < ws.length
    case neg =>
      have hd := HT.out
      rw [show ws.length - j = 0 by omega, lpO] at hd
      have HD := hide hd
      clear hd
      go_wp2_with fail
      go_ret
      exact ⟨ret_i HD.out.symm, m, HM.out⟩
    obtain ⟨b, o, s, rfl, _, hs, hcs⟩ := HR.out.at_ hjt
    have hd := HT.out
    rw [show ws.length - j = (ws.length - (j + 1)) + 1 by omega, lpO, txt_get hs] at hd
    have HD := hide hd
    have HCS := hide hcs
    have HS := hide (HSZ.out s (List.mem_of_getElem? hs))
    have hji : (j : Int) < (ws.length : Int) := by omega
    clear hd hs hcs HT
    go_wp2_with fail
    go_loopg [5, 3] j (fun g i s' wr => ∃ (k : Nat) (y : Int), k ≤ j ∧ Hid (g = j - k) ∧ i = .int .i64 k ∧ s' = .int .i64 y ∧ Hid (lpI farB s (ws.take j) x = lpI farB s ((ws.take j).drop k) y) ∧ ∃ q, Hid (wr = w.drewN q))
    case atStart => exact ⟨0, x, by omega, by simp [Hid], rfl, rfl, hide rfl, m, HM⟩
    case round =>
      obtain ⟨k, y, hk, hgk, rfl, rfl, HI, q, HM2⟩ := hrel
      by_cases hkt : k < j
      case neg =>
        have hi := HI.out
        rw [lpI_end (by rw [List.length_take]; omega)] at hi
        have HT2 := hide (show leastA farB ws = lpO farB ws (j + 1) (ws.length - (j + 1)) y by rw [HD.out, hi])
        clear hi
        go_wp2_with fail
        go_roundg (ws.length - (j + 1))
        case measure => have := hgj.out; omega
        case rel => exact ⟨j + 1, y, by omega, rfl, by go_num, rfl, HT2, q, HM2⟩
      obtain ⟨b', o', t, hA, _, ht, hct⟩ := HR.out.at_ (j := k) (by omega)
      obtain ⟨rfl, rfl⟩ : b = b' ∧ o = o' := by cases hA; exact ⟨rfl, rfl⟩
      have kt : wr.cell? ⟨b, o + k, none⟩ = some (.string t) := by rw [HM2.out]; exact hct
      have ks : wr.cell? ⟨b, o + j, none⟩ = some (.string s) := by rw [HM2.out]; exact HCS.out
      have hki : (k : Int) < (ws.length : Int) := by omega
      have htz := HSZ.out t (List.mem_of_getElem? ht)
      have hi := HI.out
      rw [lpI_drop (show (ws.take j)[k]? = some t by rw [List.getElem?_take, if_pos hkt]; exact ht)] at hi
      have HF := hide fun W => l05Far_any s t W (by rw [HS.out, htz]) (by rw [HS.out]; omega)
      clear hA ht hct htz HI
      generalize farB s t = d at *
      go_wp2_with fail
      go_quiet ((go_at_call 34; with_reducible exact qdn (HF.out _)))
      clear kt ks
      by_cases h1 : y < 0
      · rw [if_pos (.inl h1)] at hi
        have HI2 := hide hi
        clear hi
        go_wp2_with fail
        go_roundg (j - (k + 1))
        case measure => have := hgk.out; omega
        case rel => exact ⟨k + 1, d, by omega, rfl, by go_num, rfl, HI2, q + nq, hide (by rw [HM2.out, World.drewN_drewN])⟩
      by_cases h2 : d < y
      · rw [if_pos (.inr h2)] at hi
        have HI2 := hide hi
        clear hi
        go_wp2_with fail
        go_roundg (j - (k + 1))
        case measure => have := hgk.out; omega
        case rel => exact ⟨k + 1, d, by omega, rfl, by go_num, rfl, HI2, q + nq, hide (by rw [HM2.out, World.drewN_drewN])⟩
      · rw [if_neg (fun e => by rcases e with e | e; exact h1 e; exact h2 e)] at hi
        have HI2 := hide hi
        clear hi
        go_wp2_with fail
        go_roundg (j - (k + 1))
        case measure => have := hgk.out; omega
        case rel => exact ⟨k + 1, y, by omega, rfl, by go_num, rfl, HI2, q + nq, hide (by rw [HM2.out, World.drewN_drewN])⟩
end Go.Proofs.Ytofjnmeblmbnmaa
