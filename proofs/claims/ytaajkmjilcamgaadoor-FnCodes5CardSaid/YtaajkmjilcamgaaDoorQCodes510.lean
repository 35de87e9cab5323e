/-
  The reference's search for the greatest number of words.
  Draws of carriers: a fleet and which of them runs; lists of numbers compared.
  What is drawn for the law of the nearest address.
  Drawn wishes.
  A drawn move.
  Drawn moves.
  What is drawn for the law of codes; lists of texts are alike.
  Lists of texts are alike.
-/
import Derived.Test.YtaajkmjilcamgaaDoorQCodes59
import Derived.Test.YtaajkmjilcamgaaDoorQCodes56
import Derived.Test.YtaajkmjilcamgaaDoorQCodes50
import Derived.Test.YtaajkmjilcamgaaDoorQCodes55
namespace Go.Proofs.YtaajkmjilcamgaaDoor
open Go.RowKit
/-- A list of words stays where it lies as long as only block g is written. -/
def KeptS (g : Nat) (w : World) (A : Option Addr) (xs : List ByteArray) : Prop := ∀ W, Only g (g + 1) w W → RdS W W.heap.size A xs
theorem KeptS.now {g : Nat} {w : World} {A : Option Addr} {xs : List ByteArray} (h : KeptS g w A xs) : RdS w w.heap.size A xs := h w (only_of_below (Below.refl _ _))
theorem KeptS.to {g : Nat} {w w' : World} {A : Option Addr} {xs : List ByteArray} (h : KeptS g w A xs) (k : Only g (g + 1) w w') : KeptS g w' A xs := fun W hW => h W (only_trans k hW)
theorem KeptS.of_own {g base : Nat} {w : World} {A : Option Addr} {c : Nat} {xs : List ByteArray} (h : w.ownsRow base 9 1 (.slice A xs.length c) xs.length (xs.map Value.string)) (hg : g < base) : KeptS g w A xs := fun _ hW => RdS.of_own (row_only h hW (by omega))
theorem rdS_tail {w : World} {B b o : Nat} {x : ByteArray} {l : List ByteArray} (h : RdS w B (some ⟨b, o, none⟩) (x :: l)) : RdS w B (some ⟨b, o + 1, none⟩) l := fun hn => by
  obtain ⟨b', o', hA, hb, hc⟩ := h (by simp)
  cases hA
  exact ⟨b, o + 1, rfl, hb, fun j u hj => by
    rw [Nat.add_assoc]
    exact hc (1 + j) u (by rw [Nat.add_comm]; simpa using hj)⟩
theorem filter_snoc {p : ByteArray → Bool} {l : List ByteArray} {k : Nat} {v : ByteArray} (h : l[k]? = some v) : (l.take (k + 1)).filter p = if p v = true then (l.take k).filter p ++ [v] else (l.take k).filter p := by
  rw [List.take_add_one, h, List.filter_append]
  cases hp : p v <;> simp [List.filter, hp]
set_option maxRecDepth 100000 in
set_option maxHeartbeats 8000000 in
theorem walk05_any (d : Int) (R g : Nat) (hR : R ≤ 8) : ∀ (n : Nat) (left : List ByteArray) (many best : Nat) (A : Option Addr) (c : Nat) (w : World),
    left.length ≤ n → left.length ≤ 40 → many + n ≤ 100 → best ≤ 100 → left.length ≤ c → c ≤ 9223372036854775807 → (∀ s ∈ left, s.size = R) → KeptS g w A left → BoxN w g #[.int .i64 d, .int .i64 best] 49 →
    Calls Tryd.prog 29 #[.pointer (some ⟨g, 0, none⟩), .int .i64 many, .slice A left.length c] w fun e w' => e = .returned (.tuple #[]) ∧ BoxN w' g #[.int .i64 d, .int .i64 ((max best (many + alphaL d n left) : Nat) : Int)] 49 ∧ Only g (g + 1) w w' := by
  obtain ⟨i0, hi0, hz0, hs0, hb0⟩ := info_parts string_inf
  intro n
  induction n with
  | zero =>
    intro left many best A c w hn h40 hm hbest hc hc2 hsz hr hX
    obtain rfl : left = [] := List.eq_nil_of_length_eq_zero (by omega)
    have x0 : w.cell? ⟨g, 0, none⟩ = some (.int .i64 d) := hX.cell 0
    have x1 : w.cell? ⟨g, 1, none⟩ = some (.int .i64 best) := hX.cell 1
    have f1 := hX.fro 1
    have HX := hide hX
    clear hr hX hsz
    by_cases hp : many ≤ best
    · have HE := hide (show max best (many + alphaL d 0 []) = best by simp [alphaL]; omega)
      go_enter Tryd.func29, Tryd.ntmps29
      go_wp2_with fail
      (try simp only [Exit.inBlock, Exit.then]); refine bodyPost_ret (results_none rfl _ _ _) rfl ?_
      exact ⟨rfl, by rw [HE.out]; exact HX.out, only_of_below (Below.refl _ _)⟩
    · have HE := hide (show max best (many + alphaL d 0 []) = many by simp [alphaL]; omega)
      have HS := hide (HX.out.set 1 (.int .i64 many))
      go_enter Tryd.func29, Tryd.ntmps29
      go_wp2_with fail
      (try simp only [Exit.inBlock, Exit.then]); refine bodyPost_ret (results_none rfl _ _ _) rfl ?_
      exact ⟨rfl, by rw [HE.out]; exact HS.out, only_setC _ _ _ ⟨Nat.le_refl _, Nat.lt_succ_self _⟩⟩
  | succ n ih =>
    intro left many best A c w hn h40 hm hbest hc hc2 hsz hr hX
    have x0 : w.cell? ⟨g, 0, none⟩ = some (.int .i64 d) := hX.cell 0
    have x1 : w.cell? ⟨g, 1, none⟩ = some (.int .i64 best) := hX.cell 1
    have f1 := hX.fro 1
    have HX := hide hX
    have hgl := hX.lt
    have hale := alphaL_le d (n + 1) left hn
    by_cases hp : many + left.length ≤ best
    · have HE := hide (show max best (many + alphaL d (n + 1) left) = best by omega)
      clear hr hX hsz hale ih
      go_enter Tryd.func29, Tryd.ntmps29
      go_wp2_with fail
      (try simp only [Exit.inBlock, Exit.then]); refine bodyPost_ret (results_none rfl _ _ _) rfl ?_
      exact ⟨rfl, by rw [HE.out]; exact HX.out, only_of_below (Below.refl _ _)⟩
    cases left with
    | nil =>
      have HE := hide (show max best (many + alphaL d (n + 1) []) = many by simp [alphaL]; simp at hp; omega)
      have HS := hide (HX.out.set 1 (.int .i64 many))
      have hp2 : ¬ many ≤ best := by simpa using hp
      clear hr hX hsz hale ih hp
      go_enter Tryd.func29, Tryd.ntmps29
      go_wp2_with fail
      (try simp only [Exit.inBlock, Exit.then]); refine bodyPost_ret (results_none rfl _ _ _) rfl ?_
      exact ⟨rfl, by rw [HE.out]; exact HS.out, only_setC _ _ _ ⟨Nat.le_refl _, Nat.lt_succ_self _⟩⟩
    | cons x l =>
      obtain ⟨b, o, x2, rfl, hbw, hx2, hcx⟩ := RdS.at_ hr.now (j := 0) (by simp)
      obtain rfl : x = x2 := by simpa using hx2
      have hll : (x :: l).length = l.length + 1 := rfl
      have hxs : x.size = R := hsz x (List.mem_cons_self ..)
      have HLS := hide (show ∀ s ∈ l, s.size = R from fun s hs => hsz s (List.mem_cons_of_mem _ hs))
      have HR := hide hr
      have HB := hide hbw
      have HAL := hide (show alphaL d (n + 1) (x :: l) = max (alphaL d n l) (alphaL d n (l.filter fun y => decide (d ≤ farB x y)) + 1) from rfl)
      have HKX := hide fun W (hW : Below w.heap.size w W) => (show W.cell? ⟨b, o, none⟩ = some (.string x) from (hW.cell (p := ⟨b, o, none⟩) hbw).trans hcx)
      have HXW := hide fun W (hW : Below w.heap.size w W) => (show W.cell? ⟨g, 0, none⟩ = some (.int .i64 d) from (hX.below hW hgl).cell 0)
      rw [hll] at hn h40 hc hp ⊢
      have ho1 := hide (own_new0 w w.heap.size 9 1 (Nat.le_refl _))
      have hB1 : Hid (Below w.heap.size w (w.alloc (.cells #[] 9))) := hide ((Below.refl _ _).alloc (Nat.le_refl _) _)
      have hne : ((l.length : Int) + 1 == 0) = false := by simp; omega
      clear hr hX hsz hcx hx2 hale hll
      go_enter Tryd.func29, Tryd.ntmps29
      go_wp2_with fail
      go_loopg [7, 6] l.length (fun g' i sv wr => ∃ k m : Nat, k ≤ l.length ∧ Hid (g' = l.length - k) ∧ i = .int .i64 ((k : Int) + 1) ∧ Hid (m = ((l.take k).filter fun y => decide (d ≤ farB x y)).length) ∧ Hid (wr.ownsRow w.heap.size 9 1 sv m (((l.take k).filter fun y => decide (d ≤ farB x y)).map Value.string)) ∧ Hid (Below w.heap.size w wr))
      case atStart => exact ⟨0, 0, by omega, by simp [Hid], rfl, hide rfl, hide (by simpa using ho1.out), hB1⟩
      case round =>
        obtain ⟨k, m, hk, hg, rfl, HM, HO, HBW⟩ := hrel
        clear ho1 hB1
        have zr := HBW.out.size
        by_cases hkt : k < l.length
        case neg =>
          obtain rfl : l.length = k := by omega
          have ho := HO.out
          have hm := HM.out
          rw [List.take_length] at ho hm
          have hrl : (l.filter fun y => decide (d ≤ farB x y)).length ≤ l.length := List.length_filter_le _ _
          have HRS := hide (show ∀ s ∈ l.filter fun y => decide (d ≤ farB x y), s.size = R from fun s hs => HLS.out s (List.mem_filter.1 hs).1)
          generalize (l.filter fun y => decide (d ≤ farB x y)) = rest at *
          subst hm
          obtain ⟨A5, c5, rfl, hc5, hc6⟩ := own_shape ho
          unfold maxLen at hc6
          have hc1 := ih rest (many + 1) best A5 c5 wr (by omega) (by omega) (by omega) hbest hc5 (by omega) HRS.out (KeptS.of_own ho hgl) (HX.out.below HBW.out hgl)
          rw [show ((many + 1 : Nat) : Int) = (many : Int) + 1 by push_cast; rfl] at hc1
          have HC1 := hide hc1
          have HRW := hide (HR.out.to (only_of_below HBW.out))
          have hal1 := alphaL_le d n rest (by omega)
          have hal2 := alphaL_le d n l (by omega)
          clear ho HO HM hc1 hkt hk hc5 hc6 HRS
          go_upto_region 10 with (go_at_call 29; (with_reducible refine (HC1.out).mono ?_); rintro e w2 ⟨rfl, hx2, ho2⟩)
          have HR2 := hide (HRW.out.to ho2)
          have HO2 := hide (only_trans (only_of_below HBW.out) ho2)
          have HT := hide (show ∀ W Ax, Only g (g + 1) w2 W → (Ax = if c = 1 then some (⟨b, o, none⟩ : Addr) else some ⟨b, o + 1, none⟩) → RdS W W.heap.size Ax l from fun W Ax hW e => by
            by_cases h1 : c = 1
            · have : l = [] := List.eq_nil_of_length_eq_zero (by omega)
              subst this
              exact Rd.nil _ _ _
            · rw [if_neg h1] at e
              subst e
              exact rdS_tail (HR2.out W hW))
          have HC2 := hide fun Ax (e : Ax = if c = 1 then some (⟨b, o, none⟩ : Addr) else some ⟨b, o + 1, none⟩) => ih l many (max best (many + 1 + alphaL d n rest)) Ax (c - 1) w2 (by omega) (by omega) (by omega) (by omega) (by omega) (by omega) HLS.out (fun W hW => HT.out W Ax hW e) hx2
          have hcc : 1 ≤ c := by omega
          have hcci : (1 : Int) ≤ (c : Int) := by omega
          have hl1 : (1 : Int) ≤ (l.length : Int) + 1 := by omega
          have HE := hide (show max best (many + alphaL d (n + 1) (x :: l)) = max (max best (many + 1 + alphaL d n rest)) (many + alphaL d n l) by rw [HAL.out]; omega)
          clear hx2 ho2 HC1 HRW HR2 HT HAL
          go_wp2_with (first | (go_at_call 29; (with_reducible refine (HC2.out _ rfl).mono ?_); rintro e w3 ⟨rfl, hx3, ho3⟩))
          all_goals (
            (try simp only [Exit.inBlock, Exit.then])
            refine bodyPost_end (results_none rfl _ _ _) rfl ?_
            exact ⟨rfl, by rw [HE.out]; exact hx3, only_trans HO2.out ho3⟩)
        obtain ⟨y, hy⟩ : ∃ y, l[k]? = some y := ⟨_, List.getElem?_eq_getElem hkt⟩
        obtain ⟨b2, o2, y2, hA2, _, hy2, hcy⟩ := RdS.at_ HR.out.now (j := k + 1) (by simp; omega)
        obtain ⟨rfl, rfl⟩ : b = b2 ∧ o = o2 := by cases hA2; exact ⟨rfl, rfl⟩
        obtain rfl : y = y2 := by
          rw [List.getElem?_cons_succ, hy] at hy2
          exact Option.some.inj hy2
        have hys := HLS.out y (List.mem_of_getElem? hy)
        have hfs := filter_snoc (p := fun y => decide (d ≤ farB x y)) hy
        have HKY := hide fun W (hW : Below w.heap.size w W) => (hW.cell (p := ⟨b, o + (k + 1), none⟩) hbw).trans hcy
        have HD := hide fun q => l05Far_any x y (wr.drewN q) (by omega) (by omega)
        have hki : (k : Int) + 1 < (l.length : Int) + 1 := by omega
        have hkn : k + 1 < l.length + 1 := by omega
        have k0 : wr.cell? ⟨b, o, none⟩ = some (.string x) := HKX.out wr HBW.out
        have k1 : wr.cell? ⟨b, o + (k + 1), none⟩ = some (.string y) := HKY.out wr HBW.out
        have k2 : wr.cell? ⟨g, 0, none⟩ = some (.int .i64 d) := HXW.out wr HBW.out
        clear hy hy2 hcy hys hA2
        generalize hfd : farB x y = fd at HD
        by_cases hge : d ≤ fd
        · have hB1 : decide (fd ≥ d) = true := decide_eq_true hge
          have hB2 : decide (d ≤ fd) = true := decide_eq_true hge
          have HFS := hide (hfs.trans (if_pos (show decide (d ≤ farB x y) = true by rw [hfd]; exact decide_eq_true hge)))
          have HH := hide hge
          clear hge hfd hfs
          go_wp2_with fail
          go_quiet ((go_at_call 28; with_reducible exact qdn (HD.out _)))
          have BQ := hide (show Below w.heap.size w (wr.drewN nq) from bdn HBW.out nq)
          have OQ := hide (row_belowS HO.out (bdn (Below.refl wr.heap.size wr) nq))
          have k1' := HKY.out _ BQ.out
          clear k0 k1 k2 HBW HO HD
          generalize wr.drewN nq = wq at *
          go_wp2_with (at_builtin; refine Hid.out ?_)
          refine hide ?_
          have hoF := OQ.out.alloc (.cells #[.string y] 9)
          have zq := BQ.out.size
          refine wp_app _ rfl _ _ 26 rfl w.heap.size 9 i0 (.string ByteArray.empty) 1 16 Tryd.underlying26 hi0 hz0 hs0 hb0 rfl (by decide) u6 m _ rfl hoF _ _ 1 1 [.string y] rfl rfl (rd_new _ _ _ _ ?c1) (str_one _) ?c2 (by decide) ?c3 ?_
          case c1 => simp
          case c2 =>
            have := HM.out
            have := List.length_filter_le (fun y => decide (d ≤ farB x y)) (l.take k)
            rw [List.length_take] at this
            omega
          case c3 => simp; omega
          intro v9 w9 hown9 hgrow9 hat9
          have HB9 := hide (app_below (BQ.out.alloc zq _) hoF hgrow9 (Nat.le_refl _) (by simp; omega))
          have HO9 := hide (show w9.ownsRow w.heap.size 9 1 v9 (m + 1) (((l.take (k + 1)).filter fun y => decide (d ≤ farB x y)).map Value.string) by rw [HFS.out, List.map_append]; exact hown9)
          have HM9 := hide (show m + 1 = ((l.take (k + 1)).filter fun y => decide (d ≤ farB x y)).length by rw [HFS.out, List.length_append, List.length_singleton, ← HM.out])
          clear hown9 hgrow9 hat9 hoF BQ OQ k1'
          go_wp2_with fail
          go_roundg (l.length - (k + 1))
          case measure => have := hg.out; omega
          case rel => exact ⟨k + 1, m + 1, by omega, rfl, by go_num, HM9, HO9, HB9⟩
        · have hB1 : decide (fd ≥ d) = false := decide_eq_false hge
          have hB2 : decide (d ≤ fd) = false := decide_eq_false hge
          have HFS := hide (hfs.trans (if_neg (show ¬ decide (d ≤ farB x y) = true by rw [hfd, decide_eq_true_eq]; exact hge)))
          have HH := hide hge
          clear hge hfd hfs
          go_wp2_with fail
          go_quiet ((go_at_call 28; with_reducible exact qdn (HD.out _)))
          have BQ := hide (show Below w.heap.size w (wr.drewN nq) from bdn HBW.out nq)
          have OQ := hide (row_belowS HO.out (bdn (Below.refl wr.heap.size wr) nq))
          clear k0 k1 k2 HBW HO HD
          generalize wr.drewN nq = wq at *
          go_wp2_with fail
          go_roundg (l.length - (k + 1))
          case measure => have := hg.out; omega
          case rel => exact ⟨k + 1, m, by omega, rfl, by go_num, hide (by rw [HFS.out]; exact HM.out), hide (by rw [HFS.out]; exact OQ.out), BQ⟩
theorem KeptS.of_rd {g : Nat} {w : World} {A : Option Addr} {xs : List ByteArray} (h : RdS w g A xs) (hg : g ≤ w.heap.size) : KeptS g w A xs := fun W hW => (RdS.below h (hW.below (Nat.le_refl _) hg)).more (by have := hW.size; omega)
/-- The greatest number of words. -/
def mostN (s r : Nat) (d : Int) : Nat :=
  match allW s r with
  | [] => 0
  | x :: l => alphaL d l.length (l.filter fun y => decide (d ≤ farB x y)) + 1
def mostR (s r d : Int) : Int := if codeW s r d 32 = 0 then (mostN s.toNat r.toNat d : Int) else 0
theorem codeW_32 {s r d : Int} (h : codeW s r d 300 ≠ 0) : codeW s r d 32 = codeW s r d 300 := by
  unfold codeW at h ⊢
  split
  · rename_i h1
    rw [if_pos h1] at h
    by_cases h2 : powI s r ≤ 300
    · rw [if_pos h2] at h; exact absurd rfl h
    · rw [if_neg h2, if_neg (by omega)]
  · rfl
set_option maxRecDepth 100000 in
set_option maxHeartbeats 8000000 in
theorem S_MostAddresses (s r d : Int) (w : World) :
    Calls Tryd.prog 10 #[.int .i64 s, .int .i64 r, .int .i64 d] w fun e w' => e = .returned (.tuple #[.int .i64 (mostR s r d), .int .i64 (codeW s r d 32)]) ∧ Below w.heap.size w w' := by
  obtain ⟨i0, hi0, hz0, hs0, hb0⟩ := info_parts string_inf
  have HC := hide (l05Code_any s r d w)
  by_cases h : codeW s r d 300 = 0
  case neg =>
    have hc := codeW_32 h
    have hL : mostR s r d = 0 := by unfold mostR; rw [if_neg (by rw [hc]; exact h)]
    rw [hL, hc]
    generalize codeW s r d 300 = cd at *
    have hB : (cd != 0) = true := by simpa using h
    have HH := hide h
    clear h hL hc
    go_enter Tryd.func10, Tryd.ntmps10
    go_wp2_with (go_at_call 23; refine (HC.out).mono ?_; rintro e w' ⟨rfl, rfl⟩)
    go_ret2
    exact ⟨rfl, Below.refl _ _⟩
  obtain ⟨⟨h1, h2⟩, ⟨h3, h4⟩, ⟨h6, h7⟩, h5⟩ := codeW_ok h
  rw [h] at HC
  obtain ⟨S, rfl⟩ : ∃ S : Nat, s = S := ⟨s.toNat, by omega⟩
  obtain ⟨R, rfl⟩ : ∃ R : Nat, r = R := ⟨r.toNat, by omega⟩
  rw [Int.toNat_natCast, Int.toNat_natCast] at h5
  have HA := hide (l05All_any S R w (by omega) (by omega) (by omega) (by omega))
  have HPW := hide (show powI (S : Int) (R : Int) = ((S ^ R : Nat) : Int) by unfold powI; rw [Int.toNat_natCast, Int.toNat_natCast])
  have HLEN := hide (allW_len S R)
  by_cases h32 : S ^ R ≤ 32
  case neg =>
    have hc : codeW (S : Int) (R : Int) d 32 = 5 := by unfold codeW; rw [if_pos ⟨⟨h1, h2⟩, ⟨h3, h4⟩, ⟨h6, h7⟩⟩, HPW.out, if_neg (by omega)]
    have hL : mostR (S : Int) (R : Int) d = 0 := by unfold mostR; rw [if_neg (by rw [hc]; decide)]
    rw [hL, hc]
    have hlen := HLEN.out
    generalize allW S R = L at *
    have hB : decide ((32 : Int) < (L.length : Int)) = true := decide_eq_true (by omega)
    have h32' : 32 < L.length := by omega
    clear h hL hc HLEN hlen h5
    go_enter Tryd.func10, Tryd.ntmps10
    go_wp2_with (first | (go_at_call 23; refine (HC.out).mono ?_; rintro e w' ⟨rfl, rfl⟩) | (go_at_call 24; (with_reducible refine (HA.out).mono ?_); rintro e w1 ⟨A, c, rfl, ho, b1⟩))
    go_ret2
    exact ⟨rfl, b1⟩
  have hc : codeW (S : Int) (R : Int) d 32 = 0 := by unfold codeW; rw [if_pos ⟨⟨h1, h2⟩, ⟨h3, h4⟩, ⟨h6, h7⟩⟩, HPW.out, if_pos (by omega)]
  have hL : mostR (S : Int) (R : Int) d = (mostN S R d : Int) := by unfold mostR; rw [if_pos hc, Int.toNat_natCast, Int.toNat_natCast]
  rw [hL, hc]
  have hR8 : R ≤ 8 := by omega
  obtain ⟨l, he⟩ := allW_head (s := S) (by omega) R
  obtain ⟨x, hxe⟩ : ∃ x, x = zeroW R := ⟨_, rfl⟩
  rw [← hxe] at he
  have hM : mostN S R d = alphaL d l.length (l.filter fun y => decide (d ≤ farB x y)) + 1 := by unfold mostN; rw [he]
  rw [hM]
  obtain ⟨MX, hMX⟩ : ∃ q, q = alphaL d l.length (l.filter fun y => decide (d ≤ farB x y)) := ⟨_, rfl⟩
  rw [← hMX]
  have HMX := hide hMX
  clear hMX
  have HSZ := hide (show ∀ s ∈ x :: l, s.size = R from fun s hs => allW_size (by rw [he]; exact hs))
  have hlen := HLEN.out
  rw [he] at HA hlen
  rw [List.length_cons] at hlen
  have hll : (x :: l).length = l.length + 1 := rfl
  rw [hll] at HA
  have hxs : x.size = R := HSZ.out x (List.mem_cons_self ..)
  have HLS := hide (show ∀ s ∈ l, s.size = R from fun s hs => HSZ.out s (List.mem_cons_of_mem _ hs))
  have h32' : ¬ 32 < l.length + 1 := by omega
  have hB : decide ((32 : Int) < (l.length : Int) + 1) = false := decide_eq_false (by omega)
  have hlen2 : l.length + 1 ≤ 32 := by omega
  clear h hL hc HLEN h5 he hM hll HSZ hxe hlen h32
  go_enter Tryd.func10, Tryd.ntmps10
  go_upto_region 7 with (first | (go_at_call 23; refine (HC.out).mono ?_; rintro e w' ⟨rfl, rfl⟩) | (go_at_call 24; (with_reducible refine (HA.out).mono ?_); rintro e w1 ⟨A, c, rfl, ho, b1⟩))
  have HR := hide (show RdS w1 w1.heap.size A (x :: l) from RdS.of_own ho)
  obtain ⟨b, o, x2, rfl, hbw, hx2, hcx⟩ := RdS.at_ HR.out (j := 0) (by simp)
  obtain rfl : x = x2 := by simpa using hx2
  have HKX := hide fun W (hW : Below w1.heap.size w1 W) => (show W.cell? ⟨b, o, none⟩ = some (.string x) from (hW.cell (p := ⟨b, o, none⟩) hbw).trans hcx)
  have ho1 := hide (own_new0 w1 w1.heap.size 9 1 (Nat.le_refl _))
  have hB1 : Hid (Below w1.heap.size w1 (w1.alloc (.cells #[] 9))) := hide ((Below.refl _ _).alloc (Nat.le_refl _) _)
  have HB1 := hide b1
  clear ho b1 hx2 hcx HC HA
  go_wp2_with fail
  go_loopg [11, 10] l.length (fun g' i sv wr => ∃ k m : Nat, k ≤ l.length ∧ Hid (g' = l.length - k) ∧ i = .int .i64 ((k : Int) + 1) ∧ Hid (m = ((l.take k).filter fun y => decide (d ≤ farB x y)).length) ∧ Hid (wr.ownsRow w1.heap.size 9 1 sv m (((l.take k).filter fun y => decide (d ≤ farB x y)).map Value.string)) ∧ Hid (Below w1.heap.size w1 wr))
  case atStart => exact ⟨0, 0, by omega, by simp [Hid], rfl, hide rfl, hide (by simpa using ho1.out), hB1⟩
  case round =>
    obtain ⟨k, m, hk, hg, rfl, HM, HO, HBW⟩ := hrel
    clear ho1 hB1
    have zr := HBW.out.size
    by_cases hkt : k < l.length
    case neg =>
      obtain rfl : l.length = k := by omega
      have ho := HO.out
      have hm := HM.out
      rw [List.take_length] at ho hm
      have hrl : (l.filter fun y => decide (d ≤ farB x y)).length ≤ l.length := List.length_filter_le _ _
      have HRS := hide (show ∀ s ∈ l.filter fun y => decide (d ≤ farB x y), s.size = R from fun s hs => HLS.out s (List.mem_filter.1 hs).1)
      generalize (l.filter fun y => decide (d ≤ farB x y)) = rest at *
      subst hm
      obtain ⟨A5, c5, rfl, hc5, hc6⟩ := own_shape ho
      unfold maxLen at hc6
      have ba : Below wr.heap.size wr (wr.alloc (.cells #[.int .i64 d, .int .i64 0] 49)) := (Below.refl _ _).alloc (Nat.le_refl _) _
      have hc1 : Calls Tryd.prog 29 #[.pointer (some ⟨wr.heap.size, 0, none⟩), .int .i64 1, .slice A5 rest.length c5] (wr.alloc (.cells #[.int .i64 d, .int .i64 0] 49)) fun e w' => e = .returned (.tuple #[]) ∧ BoxN w' wr.heap.size #[.int .i64 d, .int .i64 ((max 0 (1 + alphaL d l.length rest) : Nat) : Int)] 49 ∧ Only wr.heap.size (wr.heap.size + 1) (wr.alloc (.cells #[.int .i64 d, .int .i64 0] 49)) w' := walk05_any d R wr.heap.size hR8 l.length rest 1 0 A5 c5 (wr.alloc (.cells #[.int .i64 d, .int .i64 0] 49)) (by omega) (by omega) (by omega) (by omega) hc5 (by omega) HRS.out (KeptS.of_rd ((RdS.of_own ho).below ba) ba.size) (BoxN.new wr #[.int .i64 d, .int .i64 0] 49)
      have HC1 := hide hc1
      have BA := hide (HBW.out.trans (ba.mono zr))
      have HE := hide (show max 0 (1 + alphaL d l.length rest) = MX + 1 by have := HMX.out; omega)
      clear ho HO HM hc1 hkt hk hc5 hc6 HRS ba
      go_wp2_with (go_at_call 29; (with_reducible refine (HC1.out).mono ?_); rintro e w2 ⟨rfl, hx2, ho2⟩; rw [HE.out] at hx2; have q1 := hx2.cell 1)
      go_ret2
      refine ⟨by simp, ?_⟩
      have h9 := BA.out.trans ((ho2.below (Nat.le_refl _) (by simp)).mono zr)
      exact HB1.out.trans (h9.mono HB1.out.size)
    obtain ⟨y, hy⟩ : ∃ y, l[k]? = some y := ⟨_, List.getElem?_eq_getElem hkt⟩
    obtain ⟨b2, o2, y2, hA2, _, hy2, hcy⟩ := RdS.at_ HR.out (j := k + 1) (by simp; omega)
    obtain ⟨rfl, rfl⟩ : b = b2 ∧ o = o2 := by cases hA2; exact ⟨rfl, rfl⟩
    obtain rfl : y = y2 := by
      rw [List.getElem?_cons_succ, hy] at hy2
      exact Option.some.inj hy2
    have hys := HLS.out y (List.mem_of_getElem? hy)
    have hfs := filter_snoc (p := fun y => decide (d ≤ farB x y)) hy
    have HKY := hide fun W (hW : Below w1.heap.size w1 W) => (hW.cell (p := ⟨b, o + (k + 1), none⟩) hbw).trans hcy
    have HD := hide fun q => l05Far_any x y (wr.drewN q) (by omega) (by omega)
    have hki : (k : Int) + 1 < (l.length : Int) + 1 := by omega
    have hkn : k + 1 < l.length + 1 := by omega
    have k0 : wr.cell? ⟨b, o, none⟩ = some (.string x) := HKX.out wr HBW.out
    have k1 : wr.cell? ⟨b, o + (k + 1), none⟩ = some (.string y) := HKY.out wr HBW.out
    clear hy hy2 hcy hys hA2
    generalize hfd : farB x y = fd at HD
    by_cases hge : d ≤ fd
    · have hB1 : decide (fd ≥ d) = true := decide_eq_true hge
      have hB2 : decide (d ≤ fd) = true := decide_eq_true hge
      have HFS := hide (hfs.trans (if_pos (show decide (d ≤ farB x y) = true by rw [hfd]; exact decide_eq_true hge)))
      have HH := hide hge
      clear hge hfd hfs
      go_wp2_with fail
      go_quiet ((go_at_call 28; with_reducible exact qdn (HD.out _)))
      have BQ := hide (show Below w1.heap.size w1 (wr.drewN nq) from bdn HBW.out nq)
      have OQ := hide (row_belowS HO.out (bdn (Below.refl wr.heap.size wr) nq))
      have k1' := HKY.out _ BQ.out
      clear k0 k1 HBW HO HD
      generalize wr.drewN nq = wq at *
      go_wp2_with (at_builtin; refine Hid.out ?_)
      refine hide ?_
      have hoF := OQ.out.alloc (.cells #[.string y] 9)
      have zq := BQ.out.size
      refine wp_app _ rfl _ _ 26 rfl w1.heap.size 9 i0 (.string ByteArray.empty) 1 16 Tryd.underlying26 hi0 hz0 hs0 hb0 rfl (by decide) u10 m _ rfl hoF _ _ 1 1 [.string y] rfl rfl (rd_new _ _ _ _ ?c1) (str_one _) ?c2 (by decide) ?c3 ?_
      case c1 => simp
      case c2 =>
        have := HM.out
        have := List.length_filter_le (fun y => decide (d ≤ farB x y)) (l.take k)
        rw [List.length_take] at this
        omega
      case c3 => simp; omega
      intro v9 w9 hown9 hgrow9 hat9
      have HB9 := hide (app_below (BQ.out.alloc zq _) hoF hgrow9 (Nat.le_refl _) (by simp; omega))
      have HO9 := hide (show w9.ownsRow w1.heap.size 9 1 v9 (m + 1) (((l.take (k + 1)).filter fun y => decide (d ≤ farB x y)).map Value.string) by rw [HFS.out, List.map_append]; exact hown9)
      have HM9 := hide (show m + 1 = ((l.take (k + 1)).filter fun y => decide (d ≤ farB x y)).length by rw [HFS.out, List.length_append, List.length_singleton, ← HM.out])
      clear hown9 hgrow9 hat9 hoF BQ OQ k1'
      go_wp2_with fail
      go_roundg (l.length - (k + 1))
      case measure => have := hg.out; omega
      case rel => exact ⟨k + 1, m + 1, by omega, rfl, by go_num, HM9, HO9, HB9⟩
    · have hB1 : decide (fd ≥ d) = false := decide_eq_false hge
      have hB2 : decide (d ≤ fd) = false := decide_eq_false hge
      have HFS := hide (hfs.trans (if_neg (show ¬ decide (d ≤ farB x y) = true by rw [hfd, decide_eq_true_eq]; exact hge)))
      have HH := hide hge
      clear hge hfd hfs
      go_wp2_with fail
      go_quiet ((go_at_call 28; with_reducible exact qdn (HD.out _)))
      have BQ := hide (show Below w1.heap.size w1 (wr.drewN nq) from bdn HBW.out nq)
      have OQ := hide (row_belowS HO.out (bdn (Below.refl wr.heap.size wr) nq))
      clear k0 k1 HBW HO HD
      generalize wr.drewN nq = wq at *
      go_wp2_with fail
      go_roundg (l.length - (k + 1))
      case measure => have := hg.out; omega
      case rel => exact ⟨k + 1, m, by omega, rfl, by go_num, hide (by rw [HFS.out]; exact HM.out), hide (by rw [HFS.out]; exact OQ.out), BQ⟩
end Go.Proofs.YtaajkmjilcamgaaDoor
namespace Go.Proofs.YtaajkmjilcamgaaDoor
open Go.RowKit

theorem f6big_any (A : Option Addr) (n c : Nat) (w : World) (hn : n ≤ 4096) :
    Calls Tryd.prog 4 #[.slice A n c] w fun e w' => e = .returned (.bool false) ∧ w = w' := by
  have hD : decide ((4096 : Int) < (n : Int)) = false := decide_eq_false (by omega)
  go_enter Tryd.func4, Tryd.ntmps4
  go_wp2_with fail
  go_ret
  exact ⟨rfl, rfl⟩
theorem below_src' {w w1 w2 : World} (h : Below w.heap.size w w1) (k : Only w.heap.size (w.heap.size + 1) w1 w2) : Below w.heap.size w w2 := h.trans (k.below (Nat.le_refl _) h.size)
end Go.Proofs.YtaajkmjilcamgaaDoor
namespace Go.Proofs.YtaajkmjilcamgaaDoor
open Go.RowKit
/-- Signs and words that are small, the words in a slice with room for c. -/
structure WOk (sg : Int) (ws : List ByteArray) (c : Nat) : Prop where
  sgn : -9223372036854775808 ≤ sg ∧ sg ≤ 9223372036854775807
  len : ws.length ≤ 50
  small : ∀ s ∈ ws, s.size ≤ 9
  cap : ws.length ≤ c ∧ c ≤ 9223372036854775807
theorem WdSt.cap {b : Nat} {bs : List Int} {N : Int} {w wr : World} {gb cb : Nat} {ws : List ByteArray} (h : WdSt b bs N w wr gb cb ws) : ws.length ≤ cb ∧ cb ≤ 9223372036854775807 := by
  obtain ⟨A, c, he, h1, h2⟩ := own_shape h.row
  simp only [Value.slice.injEq] at he
  obtain ⟨_, _, rfl⟩ := he
  exact ⟨h1, by unfold maxLen at h2; omega⟩
theorem WdSt.rd {b : Nat} {bs : List Int} {N : Int} {w wr : World} {gb cb : Nat} {ws : List ByteArray} (h : WdSt b bs N w wr gb cb ws) : RdS wr wr.heap.size (some ⟨gb, 0, none⟩) ws := RdS.of_own h.row
end Go.Proofs.YtaajkmjilcamgaaDoor
namespace Go.Proofs.YtaajkmjilcamgaaDoor
open Go.RowKit

theorem BoxN.only {w w' : World} {b lo hi : Nat} {cs : Array Value} {e : TypeId} (h : BoxN w b cs e) (k : Only lo hi w w') (hd : b < lo ∨ hi ≤ b) : BoxN w' b cs e := (k.2.2.2.2 b h.lt hd).trans h
theorem only_setNew {lo hi : Nat} {w0 w : World} (h : Only lo hi w0 w) (a : Addr) (v : Value) (hB : w0.heap.size ≤ a.block) : Only lo hi w0 (w.setCell a v) :=
  ⟨h.1, h.2.1, h.2.2.1, by have := h.size; simpa [World.setCell] using this, fun k hk ho => (Below.heap_setCell _ _ _ _ (by omega)).trans (h.2.2.2.2 k hk ho)⟩
theorem grown_setCell (w : World) (a : Addr) (v : Value) : w.grownBy (w.setCell a v) (some a.block) :=
  ⟨rfl, rfl, rfl, by simp [World.setCell], fun k _ hn => Below.heap_setCell _ _ _ _ (fun e => hn (by rw [e]))⟩
theorem SrcAt.set {b : Nat} {bs : List Int} {N : Int} {W : World} (h : SrcAt b bs N W) (a : Addr) (v : Value) (hb : b < a.block) : SrcAt b bs N (W.setCell a v) :=
  h.below (B := b + 1) ⟨rfl, rfl, rfl, by simp [World.setCell], fun k hk => Below.heap_setCell _ _ _ _ (by omega)⟩ (Nat.lt_succ_self b)
/-- A drawn wish, for n tubes. -/
def WDrawn (n : Nat) (e : TN) : Prop := ((1 ≤ e.way.length ∧ e.way.length ≤ 4) ∧ ∀ z ∈ e.way, 0 ≤ z ∧ z ≤ (n : Int) - 1) ∧ (0 ≤ e.p ∧ e.p ≤ 19) ∧ (0 ≤ e.q ∧ e.q ≤ 78)
end Go.Proofs.YtaajkmjilcamgaaDoor
namespace Go.Proofs.YtaajkmjilcamgaaDoor
open Go.RowKit
end Go.Proofs.YtaajkmjilcamgaaDoor
namespace Go.Proofs.YtaajkmjilcamgaaDoor
open Go.RowKit
theorem BoxN.c3 {w : World} {b : Nat} {x y z : Value} {e : TypeId} (h : BoxN w b #[x, y, z] e) : w.cell? ⟨b, 0, none⟩ = some x ∧ w.cell? ⟨b, 1, none⟩ = some y ∧ w.cell? ⟨b, 2, none⟩ = some z := ⟨h.cell 0, h.cell 1, h.cell 2⟩
def MvOk (n : Int) (m : T3) : Prop := (0 ≤ m.a ∧ m.a < n) ∧ (-1 ≤ m.b ∧ m.b ≤ n) ∧ -1 ≤ m.c ∧ m.c ≤ 201
theorem l00MaxM_any (a b : Int) (w : World) : Calls Tryd.prog 43 #[.int .i64 a, .int .i64 b] w fun e w' => e = .returned (.int .i64 (max a b)) ∧ w = w' := by
  by_cases h : b < a
  · have e := Int.max_eq_left (Int.le_of_lt h)
    rw [e]; clear e
    go_enter Tryd.func43, Tryd.ntmps43
    go_wp2
    go_ret
    exact ⟨rfl, rfl⟩
  · have e := Int.max_eq_right (Int.not_lt.1 h)
    rw [e]; clear e
    go_enter Tryd.func43, Tryd.ntmps43
    go_wp2
    go_ret
    exact ⟨rfl, rfl⟩
end Go.Proofs.YtaajkmjilcamgaaDoor
namespace Go.Proofs.YtaajkmjilcamgaaDoor
open Go.RowKit
set_option maxRecDepth 100000 in
set_option maxHeartbeats 4000000 in
theorem l05Size_any (bs : List Int) (A : Option Addr) (c : Nat) (w : World) (hbs : BsOk bs) (h1 : RdB w w.heap.size A bs) :
    Calls Tryd.prog 19 #[.slice A bs.length c] w fun e w' => ∃ s r d : Int, e = .returned (.tuple #[.int .i64 s, .int .i64 r, .int .i64 d]) ∧ (-1 ≤ s ∧ s ≤ 5) ∧ (-1 ≤ r ∧ r ≤ 9) ∧ (-1 ≤ d ∧ d ≤ 10) ∧ Below w.heap.size w w' := by
  have HF := hide (l00From_any bs A c w hbs.1 h1)
  have HP := hide fun M n W (hM : M ≤ 1099511000000) (hW : SrcAt w.heap.size bs M W) => pick_any w.heap.size bs M n W hbs hM hW
  have HMX := hide fun (b : Int) W => l00MaxM_any 1 b W
  clear h1
  go_enter Tryd.func19, Tryd.ntmps19
  go_upto_region 2 with (go_at_call 31; (with_reducible refine (HF.out).mono ?_); rintro e w1 ⟨rfl, hs1, hz1, hb1⟩)
  have HS := hide hs1
  have hz1a := Nat.le_of_eq hz1.symm
  have HB1 := hide hb1
  clear hs1 hz1 hb1
  go_upto_region 3 with (go_at_call 35; (with_reducible refine (HP.out 0 3 _ (by omega) HS.out).mono ?_); rintro e w2 ⟨z2, rfl, ⟨hz2, hz2', _⟩, hs2, ho2⟩)
  have hz2' := hz2' (by omega)
  have HS2 := hide hs2
  have HQ2 := hide ho2
  clear hs2 ho2 HS
  go_upto_region 4 with (go_at_call 35; (with_reducible refine (HP.out (0 + 2) 5 _ (by omega) HS2.out).mono ?_); rintro e w3 ⟨z3, rfl, ⟨hz3, hz3', _⟩, hs3, ho3⟩)
  have hz3' := hz3' (by omega)
  have HS3 := hide hs3
  have HQ3 := hide (only_trans HQ2.out ho3)
  clear hs3 ho3 HS2 HQ2
  go_upto_region 5 with (go_at_call 35; (with_reducible refine (HP.out (0 + 2 + 2) 12 _ (by omega) HS3.out).mono ?_); rintro e w4 ⟨z4, rfl, ⟨hz4, hz4', _⟩, hs4, ho4⟩)
  have hz4' := hz4' (by omega)
  have HS4 := hide hs4
  have HQ4 := hide (only_trans HQ3.out ho4)
  clear hs4 ho4 HS3 HQ3
  by_cases e0 : z4 = 0
  · have hB0 : (z4 == 0) = true := by simp [e0]
    have H2 := amongLit_any w.heap.size bs (0 + 2 + 2 + 2) [-1, 1, 2, 4, 5] w4 hbs (by omega) HS4.out (by simp) (by simp)
    simp only [List.map_cons, List.map_nil, List.length_cons, List.length_nil, Nat.zero_add, Nat.reduceAdd] at H2
    have HTX := hide H2
    have E0 := hide e0
    clear H2 e0
    go_wp2_with (first | (go_at_call 34; (with_reducible refine (HTX.out).mono ?_); rintro e w5 ⟨y, rfl, hy, hs5, ho5⟩; have HY := hide hy; have HS5 := hide hs5; have HQ5 := hide (only_trans HQ4.out ho5); clear hs5 ho5 hy) | (go_at_call 43; (with_reducible refine (HMX.out _ _).mono ?_); rintro e w6 ⟨rfl, rfl⟩) | (go_at_call 35; (with_reducible refine (HP.out (0 + 2 + 2 + 2 + 2) _ _ (by omega) HS5.out).mono ?_); rintro e w7 ⟨z7, rfl, ⟨hz7, hz7', _⟩, hs7, ho7⟩; have hz7' := hz7' (by omega)))
    have hy := HY.out
    simp at hy
    refine bodyPost_ret (v := .tuple #[.int .i64 y, .int .i64 (1 + z3), .int .i64 (1 + z7)]) (by simp [results, Tryd.results19, go_sem]) rfl ?_
    exact ⟨_, _, _, rfl, by omega, by omega, by omega, below_src' HB1.out (only_trans HQ5.out ho7)⟩
  have hB0 : (z4 == 0) = false := by simp [e0]
  have E0 := hide e0
  clear e0
  by_cases e1 : z4 = 1
  · have hB1 : (z4 == 1) = true := by simp [e1]
    have H2 := amongLit_any w.heap.size bs (0 + 2 + 2 + 2) [-1, 0, 1, 8, 9] w4 hbs (by omega) HS4.out (by simp) (by simp)
    simp only [List.map_cons, List.map_nil, List.length_cons, List.length_nil, Nat.zero_add, Nat.reduceAdd] at H2
    have HTX := hide H2
    have E1 := hide e1
    clear H2 e1
    go_wp2_with (first | (go_at_call 34; (with_reducible refine (HTX.out).mono ?_); rintro e w5 ⟨y, rfl, hy, hs5, ho5⟩; have hyb : -1 ≤ y ∧ y ≤ 9 := (by simp at hy; omega); have HS5 := hide hs5; have HQ5 := hide (only_trans HQ4.out ho5); clear hs5 ho5 hy) | (go_at_call 43; (with_reducible refine (HMX.out _ _).mono ?_); rintro e w6 ⟨rfl, rfl⟩) | (go_at_call 35; (with_reducible refine (HP.out (0 + 2 + 2 + 2 + 2) _ _ (by omega) HS5.out).mono ?_); rintro e w7 ⟨z7, rfl, ⟨hz7, hz7', _⟩, hs7, ho7⟩; have hz7' := hz7' (by omega)))
    refine bodyPost_ret (v := .tuple #[.int .i64 (2 + z2), .int .i64 y, .int .i64 (1 + z7)]) (by simp [results, Tryd.results19, go_sem]) rfl ?_
    exact ⟨_, _, _, rfl, by omega, by omega, by omega, below_src' HB1.out (only_trans HQ5.out ho7)⟩
  have hB1 : (z4 == 1) = false := by simp [e1]
  have E1 := hide e1
  clear e1
  by_cases e2 : z4 = 2
  · have hB2 : (z4 == 2) = true := by simp [e2]
    have H2 := amongLit_any w.heap.size bs (0 + 2 + 2 + 2) [-1, 0, 1 + z3, 1 + z3 + 1] w4 hbs (by omega) HS4.out (by simp) (by simp)
    simp only [List.map_cons, List.map_nil, List.length_cons, List.length_nil, Nat.zero_add, Nat.reduceAdd] at H2
    have HTX := hide H2
    have E2 := hide e2
    clear H2 e2
    go_wp2_with (go_at_call 34; (with_reducible refine (HTX.out).mono ?_); rintro e w5 ⟨y, rfl, hy, hs5, ho5⟩; have hyb : -1 ≤ y ∧ y ≤ 7 := (by simp at hy; omega))
    refine bodyPost_ret (v := .tuple #[.int .i64 (2 + z2), .int .i64 (1 + z3), .int .i64 y]) (by simp [results, Tryd.results19, go_sem]) rfl ?_
    exact ⟨_, _, _, rfl, by omega, by omega, by omega, below_src' HB1.out (only_trans HQ4.out ho5)⟩
  have hB2 : (z4 == 2) = false := by simp [e2]
  have E2 := hide e2
  clear e2
  go_wp2_with (first | (go_at_call 43; (with_reducible refine (HMX.out _ _).mono ?_); rintro e w6 ⟨rfl, rfl⟩) | (go_at_call 35; (with_reducible refine (HP.out (0 + 2 + 2 + 2) _ _ (by omega) HS4.out).mono ?_); rintro e w7 ⟨z7, rfl, ⟨hz7, hz7', _⟩, hs7, ho7⟩; have hz7' := hz7' (by omega)))
  refine bodyPost_ret (v := .tuple #[.int .i64 (2 + z2), .int .i64 (1 + z3), .int .i64 (1 + z7)]) (by simp [results, Tryd.results19, go_sem]) rfl ?_
  exact ⟨_, _, _, rfl, by omega, by omega, by omega, below_src' HB1.out (only_trans HQ4.out ho7)⟩
theorem drawAllWords_any (bs : List Int) (A : Option Addr) (c : Nat) (w : World) (hbs : BsOk bs) (h1 : RdB w w.heap.size A bs) :
    Calls Tryd.prog 11 #[.slice A bs.length c] w fun e w' => ∃ s r : Int, e = .returned (.tuple #[.int .i64 s, .int .i64 r]) ∧ (-1 ≤ s ∧ s ≤ 5) ∧ (-1 ≤ r ∧ r ≤ 9) ∧ Below w.heap.size w w' := by
  have HF := hide (l05Size_any bs A c w hbs h1)
  clear h1
  go_enter Tryd.func11, Tryd.ntmps11
  go_wp2_with (go_at_call 19; (with_reducible refine (HF.out).mono ?_); rintro e w1 ⟨s, r, d, rfl, hs, hr, hd, hb⟩)
  go_ret2
  exact ⟨s, r, rfl, hs, hr, hb⟩
theorem drawGreedyCode_any (bs : List Int) (A : Option Addr) (c : Nat) (w : World) (hbs : BsOk bs) (h1 : RdB w w.heap.size A bs) :
    Calls Tryd.prog 5 #[.slice A bs.length c] w fun e w' => ∃ s r d : Int, e = .returned (.tuple #[.int .i64 s, .int .i64 r, .int .i64 d]) ∧ (-1 ≤ s ∧ s ≤ 5) ∧ (-1 ≤ r ∧ r ≤ 9) ∧ (-1 ≤ d ∧ d ≤ 10) ∧ Below w.heap.size w w' := by
  have HF := hide (l05Size_any bs A c w hbs h1)
  clear h1
  go_enter Tryd.func5, Tryd.ntmps5
  go_wp2_with (go_at_call 19; (with_reducible refine (HF.out).mono ?_); rintro e w1 ⟨s, r, d, rfl, hs, hr, hd, hb⟩)
  refine bodyPost_ret (v := .tuple #[.int .i64 s, .int .i64 r, .int .i64 d]) (by simp [results, Tryd.results5, go_sem]) rfl ?_
  exact ⟨s, r, d, rfl, hs, hr, hd, hb⟩
theorem drawMostAddresses_any (bs : List Int) (A : Option Addr) (c : Nat) (w : World) (hbs : BsOk bs) (h1 : RdB w w.heap.size A bs) :
    Calls Tryd.prog 8 #[.slice A bs.length c] w fun e w' => ∃ s r d : Int, e = .returned (.tuple #[.int .i64 s, .int .i64 r, .int .i64 d]) ∧ (-1 ≤ s ∧ s ≤ 5) ∧ (-1 ≤ r ∧ r ≤ 9) ∧ (-1 ≤ d ∧ d ≤ 10) ∧ Below w.heap.size w w' := by
  have HF := hide (l05Size_any bs A c w hbs h1)
  clear h1
  go_enter Tryd.func8, Tryd.ntmps8
  go_wp2_with (go_at_call 19; (with_reducible refine (HF.out).mono ?_); rintro e w1 ⟨s, r, d, rfl, hs, hr, hd, hb⟩)
  refine bodyPost_ret (v := .tuple #[.int .i64 s, .int .i64 r, .int .i64 d]) (by simp [results, Tryd.results8, go_sem]) rfl ?_
  exact ⟨s, r, d, rfl, hs, hr, hd, hb⟩
set_option maxRecDepth 100000 in
set_option maxHeartbeats 4000000 in
theorem drawAddAddress_any (bs : List Int) (A : Option Addr) (c : Nat) (w : World) (hbs : BsOk bs) (h1 : RdB w w.heap.size A bs) :
    Calls Tryd.prog 14 #[.slice A bs.length c] w fun e w' => ∃ (sg : Int) (A' : Option Addr) (c' : Nat) (ws : List ByteArray) (d : Int), e = .returned (.tuple #[.int .i64 sg, .slice A' ws.length c', .int .i64 d]) ∧ WOk sg ws c' ∧ (-1 ≤ d ∧ d ≤ 9) ∧ RdS w' w'.heap.size A' ws ∧ Below w.heap.size w w' := by
  have HF := hide (l00From_any bs A c w hbs.1 h1)
  have HT := hide fun W (hW : SrcAt w.heap.size bs 0 W) => draw05_any w.heap.size bs 0 W hbs (by omega) hW
  have HP := hide fun M n W (hM : M ≤ 1099511000000) (hW : SrcAt w.heap.size bs M W) => pick_any w.heap.size bs M n W hbs hM hW
  have HO1 := hide fun M n W (hM : M ≤ 1099511000000) (hW : SrcAt w.heap.size bs M W) => one_any w.heap.size bs M n W hbs hM hW
  clear h1
  go_enter Tryd.func14, Tryd.ntmps14
  go_upto_region 3 with (first | (go_at_call 31; (with_reducible refine (HF.out).mono ?_); rintro e w1 ⟨rfl, hs1, hz1, hb1⟩; have HS := hide hs1; have hz1a := Nat.le_of_eq hz1.symm; clear hs1 hz1) | (go_at_call 32; (with_reducible refine (HT.out _ HS.out).mono ?_); rintro e w2 ⟨sg, gb, cb, ws, rfl, hsg, hl50, hW2⟩; have HW2 := hide hW2; clear hW2))
  have HB1 := hide hb1
  have hbl : w.heap.size < w1.heap.size := by omega
  obtain ⟨hsg1, hsg2⟩ := hsg
  clear hb1
  go_upto_if 16 with (go_at_call 33; (with_reducible refine (HO1.out (0 + 1000) 8 _ (by omega) HW2.out.src).mono ?_); rintro e w5 ⟨v5, rfl, hs5, ho5⟩; have HW5 := hide (HW2.out.src2 hbl hs5 ho5); clear hs5 ho5)
  cases v5
  · go_wp2_with (go_at_call 35; (with_reducible refine (HP.out (0 + 1000 + 2) 3 _ (by omega) HW5.out.src).mono ?_); rintro e w6 ⟨z6, rfl, ⟨hz6, hz6', _⟩, hs6, ho6⟩; have hz6' := hz6' (by omega))
    have HW6 := hide (HW5.out.src2 hbl hs6 ho6)
    refine bodyPost_ret (v := .tuple #[.int .i64 sg, .slice (some ⟨gb, 0, none⟩) ws.length cb, .int .i64 (1 + z6)]) (by simp [results, Tryd.results14, go_sem]) rfl ?_
    exact ⟨sg, some ⟨gb, 0, none⟩, cb, ws, _, rfl, ⟨⟨hsg1, hsg2⟩, hl50, HW6.out.small, HW6.out.cap⟩, by omega, HW6.out.rd, below_src' HB1.out HW6.out.only⟩
  · have H2 := amongLit_any w.heap.size bs (0 + 1000 + 2) [-1, 0, 1, 8, 9] w5 hbs (by omega) HW5.out.src (by simp) (by simp)
    simp only [List.map_cons, List.map_nil, List.length_cons, List.length_nil, Nat.zero_add, Nat.reduceAdd] at H2
    have HTX2 := hide H2
    clear H2
    go_wp2_with (go_at_call 34; (with_reducible refine (HTX2.out).mono ?_); rintro e w8 ⟨y, rfl, hy, hs8, ho8⟩; have HW8 := hide (HW5.out.src2 hbl hs8 ho8); have hyb : -1 ≤ y ∧ y ≤ 9 := (by simp at hy; omega); clear hs8 ho8 hy)
    refine bodyPost_ret (v := .tuple #[.int .i64 sg, .slice (some ⟨gb, 0, none⟩) ws.length cb, .int .i64 y]) (by simp [results, Tryd.results14, go_sem]) rfl ?_
    exact ⟨sg, some ⟨gb, 0, none⟩, cb, ws, _, rfl, ⟨⟨hsg1, hsg2⟩, hl50, HW8.out.small, HW8.out.cap⟩, hyb, HW8.out.rd, below_src' HB1.out HW8.out.only⟩
end Go.Proofs.YtaajkmjilcamgaaDoor
namespace Go.Proofs.YtaajkmjilcamgaaDoor
open Go.RowKit
set_option maxRecDepth 100000 in
set_option maxHeartbeats 2000000 in
theorem f6texts_any (xs ys : List ByteArray) (A1 A2 : Option Addr) (c1 c2 : Nat) (w : World) (hx : xs.length ≤ 9223372036854775807) (hy : ys.length ≤ 9223372036854775807)
    (h1 : RdS w w.heap.size A1 xs) (h2 : RdS w w.heap.size A2 ys) :
    Calls Tryd.prog 17 #[.slice A1 xs.length c1, .slice A2 ys.length c2] w fun e w' => e = .returned (.bool (decide (xs = ys))) ∧ Below w.heap.size w w' := by
  by_cases hl : xs.length = ys.length
  · have hB : ((xs.length : Int) != ys.length) = false := by simp [hl]
    have HL := hide hl; clear hl
    go_enter Tryd.func17, Tryd.ntmps17
    go_wp2_with fail
    go_loopg [5] xs.length (fun g i wr => ∃ k : Nat, k ≤ xs.length ∧ g = xs.length - k ∧ i = .int .i64 k ∧ Below w.heap.size w wr ∧ Hid (xs = ys ↔ xs.drop k = ys.drop k))
    case atStart => exact ⟨0, by omega, by omega, rfl, Below.refl _ _, by simp [Hid]⟩
    case round =>
      obtain ⟨k, hk, hg, rfl, hb, HE⟩ := hrel
      by_cases hlt : k < xs.length
      · have hlt2 : k < ys.length := by have := HL.out; omega
        obtain ⟨b1, o1, z1, rfl, _, hz1, hc1⟩ := (h1.below hb).at_ hlt
        obtain ⟨b2, o2, z2, rfl, _, hz2, hc2⟩ := (h2.below hb).at_ hlt2
        have Z1 := hide hz1; have Z2 := hide hz2; clear hz1 hz2 h1 h2
        have HG := hide hg; clear hg
        by_cases he : z1 = z2
        · subst he
          have hd : (z1.toList == z1.toList) = true := by rw [txt_eq]; simp
          go_wp2_with fail
          go_quiet (fail)
          go_wp2_with fail
          go_roundg (xs.length - (k + 1))
          case measure => have := HG.out; omega
          case rel =>
            refine ⟨k + 1, by omega, rfl, by go_num, bdn hb _, ?_⟩
            have h := HE.out
            rw [drop_cons Z1.out, drop_cons Z2.out] at h
            exact hide (by simpa using h)
        · have hd : (z1.toList == z2.toList) = false := by rw [txt_eq]; exact decide_eq_false he
          go_wp2_with fail
          go_quiet (fail)
          go_wp2_with fail
          go_ret
          refine ⟨ret_b ?_, bdn hb _⟩
          have h := HE.out
          rw [drop_cons Z1.out, drop_cons Z2.out] at h
          simp [he] at h
          simp [h]
      · go_wp2_with fail
        go_ret
        refine ⟨ret_b ?_, hb⟩
        have h := HE.out
        rw [List.drop_eq_nil_of_le (by omega), List.drop_eq_nil_of_le (by have := HL.out; omega)] at h
        simpa using h
  · have hB : ((xs.length : Int) != ys.length) = true := by simp; omega
    have HL := hide hl; clear hl
    go_enter Tryd.func17, Tryd.ntmps17
    go_wp2_with fail
    go_ret
    exact ⟨ret_b (by simp; intro e; exact HL.out (by rw [e])), Below.refl _ _⟩
end Go.Proofs.YtaajkmjilcamgaaDoor
