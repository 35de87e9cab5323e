/-
  The library's stable sort at few numbers, under a comparison of keys; the orders of the program.
-/
import Derived.Test.YtfhociekhffjhaaRunT
import Derived.RegionTactic
namespace Go.Proofs.Ytfhociekhffjhaa
open Go.RowKit

/-- What a comparison tells. -/
def cmpZ (a b : Int) : Int := if a < b then -1 else if b < a then 1 else 0
/-- A row in the midst of an insertion. -/
def midK (ks out : List Int) (n i j : Nat) : List Int := out.take j ++ (i : Int) :: out.drop j ++ (List.range' (i + 1) (n - (i + 1))).map Int.ofNat
def stK (ks : List Int) (n i : Nat) : List Int := sortK ks i ++ (List.range' i (n - i)).map Int.ofNat
theorem u_pos' {w : World} {base : Nat} {e : TypeId} {size n c : Nat} {A : Option Addr} {xs : List Value} (h : w.ownsRow base e size (.slice A n c) n xs) (hn : 0 < n) : ∃ g, A = some ⟨g, 0, none⟩ ∧ base ≤ g ∧ g < w.heap.size := by
  rcases own_block h with ⟨_, h0, _⟩ | ⟨g, hA, h1, h2⟩
  · omega
  · exact ⟨g, hA, h1, h2⟩
theorem u_int_at {w : World} {base : Nat} {e : TypeId} {n c g : Nat} {zs : List Int} (h : w.ownsRow base e 1 (.slice (some ⟨g, 0, none⟩) n c) n (zs.map (Value.int .i64))) {i : Nat} {z : Int} (hz : zs[i]? = some z) : w.cell? ⟨g, i, none⟩ = some (.int .i64 z) := by
  have hl := h.1
  have hi := lt_of_get hz
  simp only [List.length_map, Nat.mul_one] at hl
  rw [h.cellAt i (by omega), List.getElem?_map, hz]; rfl
theorem u_int_set {w : World} {base : Nat} {e : TypeId} {n c g : Nat} {zs : List Int} (h : w.ownsRow base e 1 (.slice (some ⟨g, 0, none⟩) n c) n (zs.map (Value.int .i64))) (i : Nat) (z : Int) :
    (w.setCell ⟨g, i, none⟩ (.int .i64 z)).ownsRow base e 1 (.slice (some ⟨g, 0, none⟩) n c) n ((zs.set i z).map (Value.int .i64)) := by
  have := h.stored i (.int .i64 z)
  rw [← List.map_set] at this
  exact this.1
theorem midK_end {ks out : List Int} {n i : Nat} (hl : out.length = i) (hi : i < n) : midK ks out n i i = out ++ (List.range' i (n - i)).map Int.ofNat := by
  unfold midK
  rw [List.take_of_length_le (by omega), List.drop_eq_nil_of_le (by omega), List.append_assoc]
  obtain ⟨d, rfl⟩ : ∃ d, n = i + 1 + d := ⟨n - (i + 1), by omega⟩
  rw [show i + 1 + d - (i + 1) = d by omega, show i + 1 + d - i = d + 1 by omega, List.range'_succ]
  rfl
theorem midK_len {ks out : List Int} {n i j : Nat} (hl : out.length = i) (hi : i < n) (hj : j ≤ i) : (midK ks out n i j).length = n := by
  unfold midK; simp; omega
theorem midK_at {ks out : List Int} {n i j : Nat} (hl : out.length = i) (hj : j ≤ i) : (midK ks out n i j)[j]? = some (i : Int) := by
  unfold midK
  have htl : (out.take j).length = j := by simp; omega
  rw [List.append_assoc, List.getElem?_append_right (by omega), htl, Nat.sub_self]; rfl
theorem midK_bef {ks out : List Int} {n i j : Nat} {y : Int} (hl : out.length = i) (hj : j + 1 ≤ i) (hy : out[j]? = some y) : (midK ks out n i (j + 1))[j]? = some y := by
  unfold midK
  rw [List.append_assoc, List.getElem?_append_left (by simp; omega), List.getElem?_take_of_lt (by omega), hy]
theorem midK_swap {ks out : List Int} {n i j : Nat} {y : Int} (hl : out.length = i) (hj : j + 1 ≤ i) (hy : out[j]? = some y) : ((midK ks out n i (j + 1)).set (j + 1) y).set j (i : Int) = midK ks out n i j := by
  unfold midK
  rw [show out.take (j + 1) = out.take j ++ [y] by rw [List.take_add_one, hy]; rfl, drop_cons hy]
  apply List.ext_getElem?
  intro m
  have htl : (out.take j).length = j := by simp; omega
  rw [List.getElem?_set, List.getElem?_set]
  simp only [List.append_assoc, List.length_append, htl, List.length_cons, List.length_set, List.cons_append, List.nil_append]
  by_cases h1 : j = m
  · subst h1
    rw [if_pos rfl, List.getElem?_append_right (by omega), htl, Nat.sub_self, if_pos (by omega)]; rfl
  rw [if_neg h1]
  by_cases h2 : j + 1 = m
  · subst h2
    rw [if_pos rfl, List.getElem?_append_right (by omega), htl, if_pos (by omega), show j + 1 - j = 1 by omega]; rfl
  rw [if_neg h2]
  by_cases h3 : m < j
  · rw [List.getElem?_append_left (by omega), List.getElem?_append_left (by omega)]
  · rw [List.getElem?_append_right (by omega), List.getElem?_append_right (by omega), htl]
    obtain ⟨d, rfl⟩ : ∃ d, m = j + (d + 2) := ⟨m - j - 2, by omega⟩
    rw [show j + (d + 2) - j = d + 1 + 1 by omega]; rfl
theorem midK_ins {ks out : List Int} {n i : Nat} (j : Nat) (hl : out.length = i) (hi : i < n) (hp : posGo ks out i out.length = j) : midK ks out n i j = insK ks out i ++ (List.range' (i + 1) (n - (i + 1))).map Int.ofNat := by
  unfold midK insK
  rw [hp]
theorem stK_zero {ks : List Int} {n : Nat} : stK ks n 0 = (List.range' 0 n).map Int.ofNat := rfl
theorem stK_end {ks : List Int} {n : Nat} : stK ks n n = sortK ks n := by unfold stK; rw [Nat.sub_self]; simp
set_option maxRecDepth 100000 in
set_option maxHeartbeats 1000000 in
theorem isNaN_any (a : Int) (w : World) : Calls Try.prog 209 #[.int .i64 a] w fun e w' => e = .returned (.bool false) ∧ w = w' := by
  go_enter Try.func209, Try.ntmps209
  go_wp2_with fail
  go_ret
  exact ⟨rfl, rfl⟩
set_option maxRecDepth 100000 in
set_option maxHeartbeats 1000000 in
theorem compare_any (a b : Int) (w : World) : Calls Try.prog 186 #[.int .i64 a, .int .i64 b] w fun e w' => e = .returned (.int .i64 (cmpZ a b)) ∧ w = w' := by
  have H1 := hide (isNaN_any a w)
  have H2 := hide (isNaN_any b w)
  by_cases h1 : a < b
  · have HR := hide (show cmpZ a b = -1 by unfold cmpZ; exact if_pos h1)
    generalize cmpZ a b = r at *
    go_enter Try.func186, Try.ntmps186
    go_wp2_with (first | (go_at_call 209; refine (H1.out).mono ?_; rintro e w' ⟨rfl, rfl⟩) | (go_at_call 209; refine (H2.out).mono ?_; rintro e w' ⟨rfl, rfl⟩))
    go_ret
    exact ⟨by rw [HR.out]; rfl, rfl⟩
  by_cases h2 : b < a
  · have HR := hide (show cmpZ a b = 1 by unfold cmpZ; rw [if_neg h1]; exact if_pos h2)
    generalize cmpZ a b = r at *
    go_enter Try.func186, Try.ntmps186
    go_wp2_with (first | (go_at_call 209; refine (H1.out).mono ?_; rintro e w' ⟨rfl, rfl⟩) | (go_at_call 209; refine (H2.out).mono ?_; rintro e w' ⟨rfl, rfl⟩))
    go_ret
    exact ⟨by rw [HR.out]; rfl, rfl⟩
  · have HR := hide (show cmpZ a b = 0 by unfold cmpZ; rw [if_neg h1]; exact if_neg h2)
    generalize cmpZ a b = r at *
    go_enter Try.func186, Try.ntmps186
    go_wp2_with (first | (go_at_call 209; refine (H1.out).mono ?_; rintro e w' ⟨rfl, rfl⟩) | (go_at_call 209; refine (H2.out).mono ?_; rintro e w' ⟨rfl, rfl⟩))
    go_ret
    exact ⟨by rw [HR.out]; rfl, rfl⟩
set_option maxRecDepth 100000 in
set_option maxHeartbeats 8000000 in
theorem insertionSort_any (ks : List Int) (n : Nat) (F : FuncId) (cap : Array Value) (lo : Nat) (A : Option Addr) (c : Nat) (w : World) (hn : n ≤ 1000) (hkl : ks.length = n) (hlo : lo ≤ w.heap.size)
    (hcf : ∀ args w, (callFunc F args).run Try.prog w = .ok (.enter F args) w) (hown : w.ownsRow lo 2 1 (.slice A n c) n ((stK ks n 0).map (Value.int .i64)))
    (hp : ∀ (x y : Nat) W, x < n → y < n → Below lo w W → Calls Try.prog F (#[.int .i64 x, .int .i64 y] ++ cap) W fun e w' => e = .returned (.int .i64 (cmpZ (keyOf ks x) (keyOf ks y))) ∧ Below W.heap.size W w') :
    Calls Try.prog 221 #[.slice A n c, .int .i64 0, .int .i64 n, .func (.func F) #[] cap] w fun e w' => e = .returned (.tuple #[]) ∧ w'.ownsRow lo 2 1 (.slice A n c) n ((sortK ks n).map (Value.int .i64)) ∧ Below lo w w' := by
  have HP := hide hp
  have HOW := hide hown
  clear hp hown
  go_enter Try.func221, Try.ntmps221
  go_wp2_with fail
  have hst1 : stK ks n (min 1 n) = stK ks n 0 := by
    cases n with
    | zero => rfl
    | succ n => rw [show min 1 (n + 1) = 1 by omega]; unfold stK; rw [show n + 1 - 0 = n + 1 by omega, List.range'_succ, show n + 1 - 1 = n by omega]; rfl
  go_loopg [8] (n - 1) (fun g i wr => ∃ k : Nat, 1 ≤ k ∧ Hid (k ≤ n ∨ k = 1) ∧ Hid (g = n - k) ∧ i = .int .i64 k ∧ Hid (wr.ownsRow lo 2 1 (.slice A n c) n ((stK ks n (min k n)).map (Value.int .i64))) ∧ Below lo w wr)
  case atStart => exact ⟨1, Nat.le_refl _, .inr rfl, rfl, rfl, by rw [hst1]; exact HOW, Below.refl _ _⟩
  case round =>
    obtain ⟨k, hk1, hkn, hg, rfl, HO, hb⟩ := hrel
    clear hst1
    by_cases hlt : k < n
    · rw [show min k n = k by omega] at HO
      have hsl := sortK_len ks k
      have HIN := hide (sortK_in ks k)
      have HSN := hide (show stK ks n (min (k + 1) n) = insK ks (sortK ks k) k ++ (List.range' (k + 1) (n - (k + 1))).map Int.ofNat by rw [show min (k + 1) n = k + 1 by omega]; rfl)
      have hkl : (k : Int) < n := by omega
      have HME := hide (midK_end (ks := ks) hsl hlt)
      have HOM := HO
      unfold stK at HOM
      rw [← HME.out] at HOM
      clear HO HME
      generalize sortK ks k = out at *
      obtain ⟨g', rfl, hlg, hgs⟩ := u_pos' HOM.out (by omega)
      have hszb := hb.size
      have hkk : (k : Int) + 1 ≤ 1001 := by omega
      have hb0 := hide hb
      clear hb
      obtain ⟨wU, hwU⟩ : ∃ q, q = wr := ⟨wr, rfl⟩
      subst hwU
      go_wp2_with fail
      go_loopg [9] k (fun gk s wr => ∃ j : Nat, j ≤ k ∧ Hid (gk = j) ∧ s = .int .i64 j ∧ Hid (posGo ks out k out.length = posGo ks out k j) ∧ Hid (wr.ownsRow lo 2 1 (.slice (some ⟨g', 0, none⟩) n c) n ((midK ks out n k j).map (Value.int .i64))) ∧ Below lo w wr)
      case atStart => exact ⟨k, Nat.le_refl _, rfl, rfl, by unfold Hid; rw [hsl], HOM, hb0.out⟩
      case round =>
        obtain ⟨j, hj, hgk, rfl, HP', HM, hb4⟩ := hrel
        have hjn : (j : Int) < n := by omega
        cases j with
        | zero =>
          have HF := hide (midK_ins (n := n) 0 hsl hlt HP'.out)
          go_wp2_with fail
          go_quiet (fail)
          have HM2 := hide (own_below HM.out (bdn (Below.refl wr.heap.size wr) nq) (Nat.le_refl _))
          have hb5 := bdn hb4 nq
          generalize wr.drewN nq = wq at *
          go_wp2_with fail
          go_roundg (n - (k + 1))
          case measure => have := hg.out; omega
          case rel => exact ⟨k + 1, by omega, by unfold Hid; omega, rfl, by go_num, by rw [HSN.out, ← HF.out]; exact HM2, hb5⟩
        | succ j =>
          obtain ⟨y, hy⟩ : ∃ y, out[j]? = some y := ⟨_, List.getElem?_eq_getElem (by omega)⟩
          have hyi := HIN.out y (List.mem_of_getElem? hy)
          obtain ⟨m, rfl⟩ := Int.eq_ofNat_of_zero_le hyi.1
          have hoy : outAt out j = (m : Int) := by simp [outAt, hy]
          have HP2 := HP'.out
          rw [posGo, hoy] at HP2
          have HSW := hide (midK_swap (ks := ks) (n := n) hsl hj hy)
          have HC := hide (HP.out k m wr.drew hlt (by omega) hb4.drew)
          have HMd : Hid (wr.drew.ownsRow lo 2 1 (.slice (some ⟨g', 0, none⟩) n c) n ((midK ks out n k (j + 1)).map (Value.int .i64))) := HM.out
          have e0 := u_int_at HMd.out (midK_at (ks := ks) (n := n) hsl hj)
          have e1 := u_int_at HMd.out (midK_bef (ks := ks) (n := n) hsl hj hy)
          have hB1 : decide ((0 : Int) < (j : Int) + 1) = true := decide_eq_true (by omega)
          have hw1 : IntKind.i64.wrap (j : Int) = (j : Int) := by rw [IntKind.wrap_i64] <;> omega
          have hj1 : (j : Int) + 1 < n := by omega
          have hj0 : (0 : Int) ≤ (j : Int) := by omega
          have hj2 : (0 : Int) ≤ (j : Int) + 1 := by omega
          have hj3 : j < n := by omega
          have bd := hb4.drew
          clear hy hyi hoy hb4
          go_wp2_with fail
          have hlz : lo ≤ wr.drew.heap.size := by have := bd.size; omega
          have hzd : g' < wr.drew.heap.size := HMd.out.lt g' rfl |>.2
          by_cases hlow : keyOf ks k < keyOf ks m
          · have HQ := hide (HP2.trans (if_pos hlow))
            have HZ := hide (show cmpZ (keyOf ks k) (keyOf ks m) = -1 from if_pos hlow)
            rw [HZ.out] at HC
            clear HP2 HZ hlow
            refine wp_region_held_drew (S := fun W => W.cell? ⟨g', j + 1, none⟩ = some (.int .i64 k) ∧ W.cell? ⟨g', j, none⟩ = some (.int .i64 m)) (by kernel_rfl) (⟨e0, e1⟩) (fun hHeld => ?_)
            generalize wr.drew = wd at *
            refine wpAnyH_take (i := 0) (v := ?_) rfl (by kernel_rfl) (by kernel_rfl) (by kernel_rfl) (fun _ _ _ h => h) (Or.inl ⟨by rfl, ?_⟩) (by assumption) ?_
            rotate_left 1
            · (intro w hSw; (try dsimp only at hSw); go_simp; try with_reducible rfl)
            try simp only [Act.put, List.getElem_toArray, List.getElem_cons_succ, List.getElem_cons_zero, List.setIfInBounds_toArray, List.set_cons_zero, List.set_cons_succ]
            refine wpAnyH_take (i := 1) (v := ?_) rfl (by kernel_rfl) (by kernel_rfl) (by kernel_rfl) (fun _ _ _ h => h) (Or.inl ⟨by rfl, ?_⟩) (by assumption) ?_
            rotate_left 1
            · (intro w hSw; (try dsimp only at hSw); go_simp; try with_reducible rfl)
            try simp only [Act.put, List.getElem_toArray, List.getElem_cons_succ, List.getElem_cons_zero, List.setIfInBounds_toArray, List.set_cons_zero, List.set_cons_succ]
            refine wpAnyH_take (i := 2) (v := ?_) rfl (by kernel_rfl) (by kernel_rfl) (by kernel_rfl) (fun _ _ _ h => h) (Or.inl ⟨by rfl, ?_⟩) (by assumption) ?_
            rotate_left 1
            · (intro w hSw; (try dsimp only at hSw); go_simp; try with_reducible rfl)
            try simp only [Act.put, List.getElem_toArray, List.getElem_cons_succ, List.getElem_cons_zero, List.setIfInBounds_toArray, List.set_cons_zero, List.set_cons_succ]
            refine wpAnyH_take (i := 3) (v := ?_) rfl (by kernel_rfl) (by kernel_rfl) (by kernel_rfl) (fun _ _ _ h => h) (Or.inl ⟨by rfl, ?_⟩) (by assumption) ?_
            rotate_left 1
            · (intro w hSw; (try dsimp only at hSw); go_simp; try with_reducible rfl)
            try simp only [Act.put, List.getElem_toArray, List.getElem_cons_succ, List.getElem_cons_zero, List.setIfInBounds_toArray, List.set_cons_zero, List.set_cons_succ]
            refine wpAnyH_take (i := 4) (v := ?_) rfl (by kernel_rfl) (by kernel_rfl) (by kernel_rfl) (fun _ _ _ h => h) (Or.inl ⟨by rfl, ?_⟩) (by assumption) ?_
            rotate_left 1
            · (intro w hSw; (try dsimp only at hSw); go_simp; try with_reducible rfl)
            try simp only [Act.put, List.getElem_toArray, List.getElem_cons_succ, List.getElem_cons_zero, List.setIfInBounds_toArray, List.set_cons_zero, List.set_cons_succ]
            refine wpAnyH_take (i := 5) (v := ?_) rfl (by kernel_rfl) (by kernel_rfl) (by kernel_rfl) (fun _ _ _ h => h) (Or.inl ⟨by rfl, ?_⟩) (by assumption) ?_
            rotate_left 1
            · (intro w hSw; (try dsimp only at hSw); go_simp; try with_reducible rfl)
            try simp only [Act.put, List.getElem_toArray, List.getElem_cons_succ, List.getElem_cons_zero, List.setIfInBounds_toArray, List.set_cons_zero, List.set_cons_succ]
            refine wpAnyH_take (i := 6) (v := ?_) rfl (by kernel_rfl) (by kernel_rfl) (by kernel_rfl) (fun _ _ _ h => h) (Or.inl ⟨by rfl, ?_⟩) (by assumption) ?_
            rotate_left 1
            · (intro w hSw; (try dsimp only at hSw); go_simp; try with_reducible rfl)
            try simp only [Act.put, List.getElem_toArray, List.getElem_cons_succ, List.getElem_cons_zero, List.setIfInBounds_toArray, List.set_cons_zero, List.set_cons_succ]
            refine wpAnyH_take (i := 7) (v := ?_) rfl (by kernel_rfl) (by kernel_rfl) (by kernel_rfl) (fun _ _ _ h => h) (Or.inl ⟨by rfl, ?_⟩) (by assumption) ?_
            rotate_left 1
            · (intro w hSw; (try dsimp only at hSw); go_simp; try with_reducible rfl)
            try simp only [Act.put, List.getElem_toArray, List.getElem_cons_succ, List.getElem_cons_zero, List.setIfInBounds_toArray, List.set_cons_zero, List.set_cons_succ]
            refine wpAnyH_take (i := 8) (v := ?_) rfl (by kernel_rfl) (by kernel_rfl) (by kernel_rfl) (fun _ _ _ h => h) (Or.inl ⟨by rfl, ?_⟩) (by assumption) ?_
            rotate_left 1
            · (intro w hSw; (try dsimp only at hSw); go_simp; try with_reducible rfl)
            try simp only [Act.put, List.getElem_toArray, List.getElem_cons_succ, List.getElem_cons_zero, List.setIfInBounds_toArray, List.set_cons_zero, List.set_cons_succ]
            refine wpAnyH_take (i := 9) (v := ?_) rfl (by kernel_rfl) (by kernel_rfl) (by kernel_rfl) (fun _ _ _ h => h) (Or.inl ⟨by rfl, ?_⟩) (by assumption) ?_
            rotate_left 1
            · (intro w hSw; (try dsimp only at hSw); go_simp; try with_reducible rfl)
            try simp only [Act.put, List.getElem_toArray, List.getElem_cons_succ, List.getElem_cons_zero, List.setIfInBounds_toArray, List.set_cons_zero, List.set_cons_succ]
            refine wpAnyH_take (i := 10) (v := ?_) rfl (by kernel_rfl) (by kernel_rfl) (by kernel_rfl) (fun _ _ _ h => h) (Or.inl ⟨by rfl, ?_⟩) (by assumption) ?_
            rotate_left 1
            · (intro w hSw; (try dsimp only at hSw); go_simp; try with_reducible rfl)
            try simp only [Act.put, List.getElem_toArray, List.getElem_cons_succ, List.getElem_cons_zero, List.setIfInBounds_toArray, List.set_cons_zero, List.set_cons_succ]
            refine wpAnyH_take (i := 11) (v := ?_) rfl (by kernel_rfl) (by kernel_rfl) (by kernel_rfl) (fun _ _ _ h => h) (Or.inl ⟨by rfl, ?_⟩) (by assumption) ?_
            rotate_left 1
            · (intro w hSw; (try dsimp only at hSw); go_simp; try with_reducible rfl)
            try simp only [Act.put, List.getElem_toArray, List.getElem_cons_succ, List.getElem_cons_zero, List.setIfInBounds_toArray, List.set_cons_zero, List.set_cons_succ]
            refine wpAnyH_take (i := 12) (v := ?_) rfl (by kernel_rfl) (by kernel_rfl) (by kernel_rfl) (fun _ _ _ h => h) (Or.inl ⟨by rfl, ?_⟩) (by assumption) ?_
            rotate_left 1
            · (intro w hSw; (try dsimp only at hSw); go_simp; try with_reducible rfl)
            try simp only [Act.put, List.getElem_toArray, List.getElem_cons_succ, List.getElem_cons_zero, List.setIfInBounds_toArray, List.set_cons_zero, List.set_cons_succ]
            refine wpAnyH_take (i := 13) (v := ?_) rfl (by kernel_rfl) (by kernel_rfl) (by kernel_rfl) (fun _ _ _ h => h) (Or.inl ⟨by rfl, ?_⟩) (by assumption) ?_
            rotate_left 1
            · (intro w hSw; (try dsimp only at hSw); go_simp; try with_reducible rfl)
            try simp only [Act.put, List.getElem_toArray, List.getElem_cons_succ, List.getElem_cons_zero, List.setIfInBounds_toArray, List.set_cons_zero, List.set_cons_succ]
            refine wpAnyH_ready (rs := [14]) (by kernel_rfl) (by simp) ?_
            refine AllReadyH.cons rfl (fun K hK => ?_) AllReadyH.nil
            try simp only [Act.put, List.getElem_toArray, List.getElem_cons_succ, List.getElem_cons_zero, List.setIfInBounds_toArray, List.set_cons_zero, List.set_cons_succ]
            go_simp
            refine HC.out.mono ?_
            rintro e w5 ⟨rfl, bw5⟩
            have HM5 := hide (own_below HMd.out bw5 (Nat.le_refl _))
            have e0' := (bw5.cell (p := ⟨g', j + 1, none⟩) (by dsimp only; omega)).trans e0
            have e1' := (bw5.cell (p := ⟨g', j, none⟩) (by dsimp only; omega)).trans e1
            have b5 := bd.trans (bw5.mono hlz)
            dsimp only
            refine hK.out _ _ (⟨e0', e1'⟩) (fun hHeld => ?_)
            clear hK K
            try simp only [Act.put, List.getElem_toArray, List.getElem_cons_succ, List.getElem_cons_zero, List.setIfInBounds_toArray, List.set_cons_zero, List.set_cons_succ]
            refine wpAnyH_take (i := 15) (v := ?_) rfl (by kernel_rfl) (by kernel_rfl) (by kernel_rfl) (fun _ _ _ h => h) (Or.inl ⟨by rfl, ?_⟩) (by assumption) ?_
            rotate_left 1
            · (intro w hSw; (try dsimp only at hSw); go_simp; try with_reducible rfl)
            try simp only [Act.put, List.getElem_toArray, List.getElem_cons_succ, List.getElem_cons_zero, List.setIfInBounds_toArray, List.set_cons_zero, List.set_cons_succ]
            refine wpAnyH_take (i := 16) (v := ?_) rfl (by kernel_rfl) (by kernel_rfl) (by kernel_rfl) (fun _ _ _ h => h) (Or.inl ⟨by rfl, ?_⟩) (by assumption) ?_
            rotate_left 1
            · (intro w hSw; (try dsimp only at hSw); go_simp; try with_reducible rfl)
            try simp only [Act.put, List.getElem_toArray, List.getElem_cons_succ, List.getElem_cons_zero, List.setIfInBounds_toArray, List.set_cons_zero, List.set_cons_succ]
            refine wpAnyH_done (by kernel_rfl) ?_ _
            have fz1 := HM5.out.frozenAt (j + 1)
            have fz2 := HM5.out.frozenAt j
            go_wp2_with fail
            go_region
            clear fz1 fz2
            have HM7 : Hid ((((w5.setCell ⟨g', j + 1, none⟩ (.int .i64 m)).setCell ⟨g', j, none⟩ (.int .i64 k)).drew).ownsRow lo 2 1 (.slice (some ⟨g', 0, none⟩) n c) n ((midK ks out n k j).map (Value.int .i64))) := by
              have h := u_int_set (u_int_set HM5.out (j + 1) m) j k
              rw [HSW.out] at h; exact h
            have b7 : Below lo w (((w5.setCell ⟨g', j + 1, none⟩ (.int .i64 m)).setCell ⟨g', j, none⟩ (.int .i64 k)).drew) := ((b5.setCell hlg _).setCell hlg _).drew
            clear e0' e1' HM5
            generalize ((w5.setCell ⟨g', j + 1, none⟩ (.int .i64 m)).setCell ⟨g', j, none⟩ (.int .i64 k)).drew = w7 at *
            go_wp2_with fail
            go_roundg j
            case measure => have := hgk.out; omega
            case rel => exact ⟨j, by omega, rfl, by go_num, HQ, HM7, b7⟩
          · have HQ := hide (HP2.trans (if_neg hlow))
            have hz0 : 0 ≤ cmpZ (keyOf ks k) (keyOf ks m) := by unfold cmpZ; rw [if_neg hlow]; split <;> omega
            have hz1 : cmpZ (keyOf ks k) (keyOf ks m) ≤ 1 := by unfold cmpZ; rw [if_neg hlow]; split <;> omega
            clear HP2 hlow
            generalize cmpZ (keyOf ks k) (keyOf ks m) = z at *
            have hZB : decide (z < 0) = false := decide_eq_false (by omega)
            refine wp_region_held_drew (S := fun W => W.cell? ⟨g', j + 1, none⟩ = some (.int .i64 k) ∧ W.cell? ⟨g', j, none⟩ = some (.int .i64 m)) (by kernel_rfl) (⟨e0, e1⟩) (fun hHeld => ?_)
            generalize wr.drew = wd at *
            refine wpAnyH_take (i := 0) (v := ?_) rfl (by kernel_rfl) (by kernel_rfl) (by kernel_rfl) (fun _ _ _ h => h) (Or.inl ⟨by rfl, ?_⟩) (by assumption) ?_
            rotate_left 1
            · (intro w hSw; (try dsimp only at hSw); go_simp; try with_reducible rfl)
            try simp only [Act.put, List.getElem_toArray, List.getElem_cons_succ, List.getElem_cons_zero, List.setIfInBounds_toArray, List.set_cons_zero, List.set_cons_succ]
            refine wpAnyH_take (i := 1) (v := ?_) rfl (by kernel_rfl) (by kernel_rfl) (by kernel_rfl) (fun _ _ _ h => h) (Or.inl ⟨by rfl, ?_⟩) (by assumption) ?_
            rotate_left 1
            · (intro w hSw; (try dsimp only at hSw); go_simp; try with_reducible rfl)
            try simp only [Act.put, List.getElem_toArray, List.getElem_cons_succ, List.getElem_cons_zero, List.setIfInBounds_toArray, List.set_cons_zero, List.set_cons_succ]
            refine wpAnyH_take (i := 2) (v := ?_) rfl (by kernel_rfl) (by kernel_rfl) (by kernel_rfl) (fun _ _ _ h => h) (Or.inl ⟨by rfl, ?_⟩) (by assumption) ?_
            rotate_left 1
            · (intro w hSw; (try dsimp only at hSw); go_simp; try with_reducible rfl)
            try simp only [Act.put, List.getElem_toArray, List.getElem_cons_succ, List.getElem_cons_zero, List.setIfInBounds_toArray, List.set_cons_zero, List.set_cons_succ]
            refine wpAnyH_take (i := 3) (v := ?_) rfl (by kernel_rfl) (by kernel_rfl) (by kernel_rfl) (fun _ _ _ h => h) (Or.inl ⟨by rfl, ?_⟩) (by assumption) ?_
            rotate_left 1
            · (intro w hSw; (try dsimp only at hSw); go_simp; try with_reducible rfl)
            try simp only [Act.put, List.getElem_toArray, List.getElem_cons_succ, List.getElem_cons_zero, List.setIfInBounds_toArray, List.set_cons_zero, List.set_cons_succ]
            refine wpAnyH_take (i := 4) (v := ?_) rfl (by kernel_rfl) (by kernel_rfl) (by kernel_rfl) (fun _ _ _ h => h) (Or.inl ⟨by rfl, ?_⟩) (by assumption) ?_
            rotate_left 1
            · (intro w hSw; (try dsimp only at hSw); go_simp; try with_reducible rfl)
            try simp only [Act.put, List.getElem_toArray, List.getElem_cons_succ, List.getElem_cons_zero, List.setIfInBounds_toArray, List.set_cons_zero, List.set_cons_succ]
            refine wpAnyH_take (i := 5) (v := ?_) rfl (by kernel_rfl) (by kernel_rfl) (by kernel_rfl) (fun _ _ _ h => h) (Or.inl ⟨by rfl, ?_⟩) (by assumption) ?_
            rotate_left 1
            · (intro w hSw; (try dsimp only at hSw); go_simp; try with_reducible rfl)
            try simp only [Act.put, List.getElem_toArray, List.getElem_cons_succ, List.getElem_cons_zero, List.setIfInBounds_toArray, List.set_cons_zero, List.set_cons_succ]
            refine wpAnyH_take (i := 6) (v := ?_) rfl (by kernel_rfl) (by kernel_rfl) (by kernel_rfl) (fun _ _ _ h => h) (Or.inl ⟨by rfl, ?_⟩) (by assumption) ?_
            rotate_left 1
            · (intro w hSw; (try dsimp only at hSw); go_simp; try with_reducible rfl)
            try simp only [Act.put, List.getElem_toArray, List.getElem_cons_succ, List.getElem_cons_zero, List.setIfInBounds_toArray, List.set_cons_zero, List.set_cons_succ]
            refine wpAnyH_take (i := 7) (v := ?_) rfl (by kernel_rfl) (by kernel_rfl) (by kernel_rfl) (fun _ _ _ h => h) (Or.inl ⟨by rfl, ?_⟩) (by assumption) ?_
            rotate_left 1
            · (intro w hSw; (try dsimp only at hSw); go_simp; try with_reducible rfl)
            try simp only [Act.put, List.getElem_toArray, List.getElem_cons_succ, List.getElem_cons_zero, List.setIfInBounds_toArray, List.set_cons_zero, List.set_cons_succ]
            refine wpAnyH_take (i := 8) (v := ?_) rfl (by kernel_rfl) (by kernel_rfl) (by kernel_rfl) (fun _ _ _ h => h) (Or.inl ⟨by rfl, ?_⟩) (by assumption) ?_
            rotate_left 1
            · (intro w hSw; (try dsimp only at hSw); go_simp; try with_reducible rfl)
            try simp only [Act.put, List.getElem_toArray, List.getElem_cons_succ, List.getElem_cons_zero, List.setIfInBounds_toArray, List.set_cons_zero, List.set_cons_succ]
            refine wpAnyH_take (i := 9) (v := ?_) rfl (by kernel_rfl) (by kernel_rfl) (by kernel_rfl) (fun _ _ _ h => h) (Or.inl ⟨by rfl, ?_⟩) (by assumption) ?_
            rotate_left 1
            · (intro w hSw; (try dsimp only at hSw); go_simp; try with_reducible rfl)
            try simp only [Act.put, List.getElem_toArray, List.getElem_cons_succ, List.getElem_cons_zero, List.setIfInBounds_toArray, List.set_cons_zero, List.set_cons_succ]
            refine wpAnyH_take (i := 10) (v := ?_) rfl (by kernel_rfl) (by kernel_rfl) (by kernel_rfl) (fun _ _ _ h => h) (Or.inl ⟨by rfl, ?_⟩) (by assumption) ?_
            rotate_left 1
            · (intro w hSw; (try dsimp only at hSw); go_simp; try with_reducible rfl)
            try simp only [Act.put, List.getElem_toArray, List.getElem_cons_succ, List.getElem_cons_zero, List.setIfInBounds_toArray, List.set_cons_zero, List.set_cons_succ]
            refine wpAnyH_take (i := 11) (v := ?_) rfl (by kernel_rfl) (by kernel_rfl) (by kernel_rfl) (fun _ _ _ h => h) (Or.inl ⟨by rfl, ?_⟩) (by assumption) ?_
            rotate_left 1
            · (intro w hSw; (try dsimp only at hSw); go_simp; try with_reducible rfl)
            try simp only [Act.put, List.getElem_toArray, List.getElem_cons_succ, List.getElem_cons_zero, List.setIfInBounds_toArray, List.set_cons_zero, List.set_cons_succ]
            refine wpAnyH_take (i := 12) (v := ?_) rfl (by kernel_rfl) (by kernel_rfl) (by kernel_rfl) (fun _ _ _ h => h) (Or.inl ⟨by rfl, ?_⟩) (by assumption) ?_
            rotate_left 1
            · (intro w hSw; (try dsimp only at hSw); go_simp; try with_reducible rfl)
            try simp only [Act.put, List.getElem_toArray, List.getElem_cons_succ, List.getElem_cons_zero, List.setIfInBounds_toArray, List.set_cons_zero, List.set_cons_succ]
            refine wpAnyH_take (i := 13) (v := ?_) rfl (by kernel_rfl) (by kernel_rfl) (by kernel_rfl) (fun _ _ _ h => h) (Or.inl ⟨by rfl, ?_⟩) (by assumption) ?_
            rotate_left 1
            · (intro w hSw; (try dsimp only at hSw); go_simp; try with_reducible rfl)
            try simp only [Act.put, List.getElem_toArray, List.getElem_cons_succ, List.getElem_cons_zero, List.setIfInBounds_toArray, List.set_cons_zero, List.set_cons_succ]
            refine wpAnyH_ready (rs := [14]) (by kernel_rfl) (by simp) ?_
            refine AllReadyH.cons rfl (fun K hK => ?_) AllReadyH.nil
            try simp only [Act.put, List.getElem_toArray, List.getElem_cons_succ, List.getElem_cons_zero, List.setIfInBounds_toArray, List.set_cons_zero, List.set_cons_succ]
            go_simp
            refine HC.out.mono ?_
            rintro e w5 ⟨rfl, bw5⟩
            have HM5 := hide (own_below HMd.out bw5 (Nat.le_refl _))
            have e0' := (bw5.cell (p := ⟨g', j + 1, none⟩) (by dsimp only; omega)).trans e0
            have e1' := (bw5.cell (p := ⟨g', j, none⟩) (by dsimp only; omega)).trans e1
            have b5 := bd.trans (bw5.mono hlz)
            dsimp only
            refine hK.out _ _ (⟨e0', e1'⟩) (fun hHeld => ?_)
            clear hK K
            try simp only [Act.put, List.getElem_toArray, List.getElem_cons_succ, List.getElem_cons_zero, List.setIfInBounds_toArray, List.set_cons_zero, List.set_cons_succ]
            refine wpAnyH_take (i := 15) (v := ?_) rfl (by kernel_rfl) (by kernel_rfl) (by kernel_rfl) (fun _ _ _ h => h) (Or.inl ⟨by rfl, ?_⟩) (by assumption) ?_
            rotate_left 1
            · (intro w hSw; (try dsimp only at hSw); go_simp; try with_reducible rfl)
            try simp only [Act.put, List.getElem_toArray, List.getElem_cons_succ, List.getElem_cons_zero, List.setIfInBounds_toArray, List.set_cons_zero, List.set_cons_succ]
            refine wpAnyH_take (i := 16) (v := ?_) rfl (by kernel_rfl) (by kernel_rfl) (by kernel_rfl) (fun _ _ _ h => h) (Or.inl ⟨by rfl, ?_⟩) (by assumption) ?_
            rotate_left 1
            · (intro w hSw; (try dsimp only at hSw); go_simp; try with_reducible rfl)
            try simp only [Act.put, List.getElem_toArray, List.getElem_cons_succ, List.getElem_cons_zero, List.setIfInBounds_toArray, List.set_cons_zero, List.set_cons_succ]
            refine wpAnyH_done (by kernel_rfl) ?_ _
            have HF := hide (midK_ins (n := n) (j + 1) hsl hlt HQ.out)
            clear e0' e1'
            go_wp2_with fail
            go_roundg (n - (k + 1))
            case measure => have := hg.out; omega
            case rel => exact ⟨k + 1, by omega, by unfold Hid; omega, rfl, by go_num, by rw [HSN.out, ← HF.out]; exact HM5, b5⟩
    · have hm : min k n = n := by omega
      rw [hm, stK_end] at HO
      clear hm
      go_wp2_with fail
      refine bodyPost_end (results_none rfl _ _ _) rfl ?_
      exact ⟨rfl, HO.out, hb⟩
end Go.Proofs.Ytfhociekhffjhaa
