/-
  LeastDistance and CorrectsAll in both packages.
-/
import Derived.Test.YtofjnmeblmbnmaaNeaE
namespace Go.Proofs.Ytofjnmeblmbnmaa
open Go.RowKit
theorem okN_all {n : Int} {ws : List ByteArray} : ∀ {m i : Nat}, okN n ws i m = true → ∀ k, i ≤ k → k < i + m → okA n ws k = true := by
  intro m
  induction m with
  | zero => intro i _ k h1 h2; omega
  | succ m ih =>
    intro i h k h1 h2
    rw [okN_step, Bool.and_eq_true] at h
    by_cases hk : k = i
    · rw [hk]; exact h.1
    · exact ih h.2 k (by omega) (by omega)
theorem addrs_len {n : Int} {ws : List ByteArray} (h : addrs n ws = true) : (2 ≤ n ∧ n ≤ 4) ∧ ws.length ≤ 40 := by
  unfold addrs at h
  rw [Bool.and_eq_true, Bool.and_eq_true, decide_eq_true_eq, decide_eq_true_eq] at h
  exact ⟨h.1, h.2.1⟩
theorem addrs_at {n : Int} {ws : List ByteArray} (h : addrs n ws = true) {k : Nat} {s : ByteArray} (hs : ws[k]? = some s) : wordB n s = true ∧ s.size = (txt ws 0).size ∧ hasS (ws.take k) s = false := by
  have h0 := addrs_len h
  have hk := lt_of_get hs
  rw [addrs_eq h0.1 h0.2] at h
  have := okN_all h k (by omega) (by omega)
  unfold okA at this
  rw [txt_get hs, Bool.and_eq_true, Bool.and_eq_true, decide_eq_true_eq] at this
  exact ⟨this.1, this.2.1, by simpa using this.2.2⟩
theorem wordB_size {n : Int} {s : ByteArray} (h : wordB n s = true) : 1 ≤ s.size ∧ s.size ≤ 8 := by
  unfold wordB at h
  rw [Bool.and_eq_true, decide_eq_true_eq] at h
  exact h.2
theorem addrs_size {n : Int} {ws : List ByteArray} (h : addrs n ws = true) : ∀ s ∈ ws, s.size = (txt ws 0).size ∧ s.size ≤ 8 := fun s hs => by
  obtain ⟨k, hk, rfl⟩ := List.mem_iff_getElem.1 hs
  have := addrs_at h (List.getElem?_eq_getElem hk)
  exact ⟨this.2.1, (wordB_size this.1).2⟩
theorem txt0_size {n : Int} {ws : List ByteArray} (h : addrs n ws = true) : (txt ws 0).size ≤ 8 := by
  cases ws with
  | nil => decide
  | cons s ws => exact (addrs_size h s (List.mem_cons_self ..)).2
def pcode (n : Int) (ws : List ByteArray) : Int := if addrs n ws = false then 1 else if ws.length < 2 then 3 else 0
def leastR (n : Int) (ws : List ByteArray) : Int × Int := if pcode n ws = 0 then (leastA farB ws, 0) else (0, pcode n ws)
def correctsR (n : Int) (ws : List ByteArray) : Int × Int := if pcode n ws = 0 then ((leastA farB ws - 1).tdiv 2, 0) else (0, pcode n ws)
theorem pcode_ok {n : Int} {ws : List ByteArray} (h : pcode n ws = 0) : addrs n ws = true ∧ 2 ≤ ws.length := by
  unfold pcode at h
  split at h
  · omega
  · rename_i h1
    split at h
    · omega
    · exact ⟨by simpa using h1, by omega⟩
theorem lpI_bd {f : ByteArray → ByteArray → Int} {x : ByteArray} (h : ∀ y, -1 ≤ f x y ∧ f x y ≤ 1048576) : ∀ (ys : List ByteArray) (m : Int), -1 ≤ m ∧ m ≤ 1048576 → -1 ≤ lpI f x ys m ∧ lpI f x ys m ≤ 1048576 := by
  intro ys
  induction ys with
  | nil => intro m hm; exact hm
  | cons y ys ih => intro m hm; rw [lpI]; apply ih; split; exact h y; exact hm
theorem lpO_bd {f : ByteArray → ByteArray → Int} {ws : List ByteArray} (h : ∀ i y, -1 ≤ f (txt ws i) y ∧ f (txt ws i) y ≤ 1048576) : ∀ (c i : Nat) (m : Int), -1 ≤ m ∧ m ≤ 1048576 → -1 ≤ lpO f ws i c m ∧ lpO f ws i c m ≤ 1048576 := by
  intro c
  induction c with
  | zero => intro i m hm; exact hm
  | succ c ih => intro i m hm; rw [lpO]; exact ih _ _ (lpI_bd (h i) _ _ hm)
theorem leastA_bd {n : Int} {ws : List ByteArray} (h : addrs n ws = true) : -1 ≤ leastA farB ws ∧ leastA farB ws ≤ 1048576 := by
  unfold leastA
  refine lpO_bd (fun i y => ?_) _ _ _ ⟨by decide, by decide⟩
  have h1 := farB_bd (txt ws i) y
  have h2 : (txt ws i).size ≤ 8 := by
    unfold txt
    cases hx : ws[i]? with
    | none => decide
    | some s => exact (addrs_size h s (List.mem_of_getElem? hx)).2
  omega
set_option maxRecDepth 100000 in
set_option maxHeartbeats 1000000 in
theorem pairsCode_any (n : Int) (ws : List ByteArray) (A : Option Addr) (c : Nat) (w : World) (hcap : ws.length ≤ c) (hc2 : c ≤ 9223372036854775807) (hsz : ∀ s ∈ ws, s.size ≤ 1048576) (hr : RdS w w.heap.size A ws) :
    Calls Try.prog 35 #[.int .i64 n, .slice A ws.length c] w fun e w' => e = .returned (.int .i64 (pcode n ws)) ∧ w = w' := by
  have HV := hide (validAddresses_any n ws A c w hcap hc2 hsz hr)
  clear hr hsz
  cases h : addrs n ws
  · have HE := hide (show pcode n ws = 1 by unfold pcode; rw [if_pos h])
    rw [h] at HV
    clear h
    go_enter Try.func35, Try.ntmps35
    go_wp2_with (go_at_call 21; refine (HV.out).mono ?_; rintro e w' ⟨rfl, rfl⟩)
    go_ret
    exact ⟨ret_i HE.out.symm, rfl⟩
  rw [h] at HV
  by_cases hl : ws.length < 2
  · have HE := hide (show pcode n ws = 3 by unfold pcode; rw [if_neg (by rw [h]; decide), if_pos hl])
    have hB : decide ((ws.length : Int) < 2) = true := by simp; omega
    clear h
    go_enter Try.func35, Try.ntmps35
    go_wp2_with (go_at_call 21; refine (HV.out).mono ?_; rintro e w' ⟨rfl, rfl⟩)
    go_ret
    exact ⟨ret_i HE.out.symm, rfl⟩
  · have HE := hide (show pcode n ws = 0 by unfold pcode; rw [if_neg (by rw [h]; decide), if_neg hl])
    have hB : decide ((ws.length : Int) < 2) = false := by simp; omega
    clear h
    go_enter Try.func35, Try.ntmps35
    go_wp2_with (go_at_call 21; refine (HV.out).mono ?_; rintro e w' ⟨rfl, rfl⟩)
    go_ret
    exact ⟨ret_i HE.out.symm, rfl⟩
set_option maxRecDepth 100000 in
set_option maxHeartbeats 1000000 in
theorem leastDist_any (n : Int) (ws : List ByteArray) (A : Option Addr) (c : Nat) (w : World) (hcap : ws.length ≤ c) (hc2 : c ≤ 9223372036854775807) (hsz : ∀ s ∈ ws, s.size ≤ 1048576) (hr : RdS w w.heap.size A ws) :
    Calls Try.prog 8 #[.int .i64 n, .slice A ws.length c] w fun e w' => e = .returned (.tuple #[.int .i64 (leastR n ws).1, .int .i64 (leastR n ws).2]) ∧ ∃ m, w' = w.drewN m := by
  have HP := hide (pairsCode_any n ws A c w hcap hc2 hsz hr)
  by_cases h : pcode n ws = 0
  · obtain ⟨h1, h2⟩ := pcode_ok h
    have hbd := leastA_bd h1
    have HR := hide (show leastR n ws = (leastA farB ws, 0) by unfold leastR; rw [if_pos h])
    have HL := leastDistance_any ws (txt ws 0).size (-1) A c w hcap hc2 (by have := txt0_size h1; omega) (fun s hs => (addrs_size h1 s hs).1) (.inl rfl) hr
    rw [leastA_all] at HL
    have HL2 := hide HL
    rw [h] at HP
    clear h h1 h2 HL hsz hr
    generalize leastA farB ws = d at *
    go_enter Try.func8, Try.ntmps8
    go_wp2_with (first | (go_at_call 35; refine (HP.out).mono ?_; rintro e w' ⟨rfl, rfl⟩) | (go_at_call 36; with_reducible refine (HL2.out).mono ?_; rintro e w' ⟨rfl, m, rfl⟩))
    go_ret2
    exact ⟨by rw [HR.out]; rfl, m, rfl⟩
  · have HR := hide (show leastR n ws = (0, pcode n ws) by unfold leastR; rw [if_neg h])
    have hB : (pcode n ws != 0) = true := by simpa using h
    have H := hide h
    clear h hsz hr
    generalize pcode n ws = q at *
    go_enter Try.func8, Try.ntmps8
    go_wp2_with (go_at_call 35; refine (HP.out).mono ?_; rintro e w' ⟨rfl, rfl⟩)
    go_ret2
    exact ⟨by rw [HR.out]; rfl, 0, rfl⟩
set_option maxRecDepth 100000 in
set_option maxHeartbeats 1000000 in
theorem corrects_any (n : Int) (ws : List ByteArray) (A : Option Addr) (c : Nat) (w : World) (hcap : ws.length ≤ c) (hc2 : c ≤ 9223372036854775807) (hsz : ∀ s ∈ ws, s.size ≤ 1048576) (hr : RdS w w.heap.size A ws) :
    Calls Try.prog 10 #[.int .i64 n, .slice A ws.length c] w fun e w' => e = .returned (.tuple #[.int .i64 (correctsR n ws).1, .int .i64 (correctsR n ws).2]) ∧ ∃ m, w' = w.drewN m := by
  have HP := hide (pairsCode_any n ws A c w hcap hc2 hsz hr)
  by_cases h : pcode n ws = 0
  · obtain ⟨h1, h2⟩ := pcode_ok h
    have hbd := leastA_bd h1
    have HR := hide (show correctsR n ws = ((leastA farB ws - 1).tdiv 2, 0) by unfold correctsR; rw [if_pos h])
    have HL := leastDistance_any ws (txt ws 0).size (-1) A c w hcap hc2 (by have := txt0_size h1; omega) (fun s hs => (addrs_size h1 s hs).1) (.inl rfl) hr
    rw [leastA_all] at HL
    have HL2 := hide HL
    rw [h] at HP
    clear h h1 h2 HL hsz hr
    generalize leastA farB ws = d at *
    have hw1 : IntKind.i64.wrap (d - 1) = d - 1 := by rw [IntKind.wrap_i64] <;> omega
    have hn2 : ((d - 1).tdiv 2).natAbs = (d - 1).natAbs / 2 := by rw [Int.natAbs_tdiv]; rfl
    have hw2 : IntKind.i64.wrap ((d - 1).tdiv 2) = (d - 1).tdiv 2 := by rw [IntKind.wrap_i64] <;> omega
    clear hn2
    go_enter Try.func10, Try.ntmps10
    go_wp2_with (first | (go_at_call 35; refine (HP.out).mono ?_; rintro e w' ⟨rfl, rfl⟩) | (go_at_call 36; with_reducible refine (HL2.out).mono ?_; rintro e w' ⟨rfl, m, rfl⟩))
    go_ret2
    exact ⟨by rw [HR.out]; rfl, m, rfl⟩
  · have HR := hide (show correctsR n ws = (0, pcode n ws) by unfold correctsR; rw [if_neg h])
    have hB : (pcode n ws != 0) = true := by simpa using h
    have H := hide h
    clear h hsz hr
    generalize pcode n ws = q at *
    go_enter Try.func10, Try.ntmps10
    go_wp2_with (go_at_call 35; refine (HP.out).mono ?_; rintro e w' ⟨rfl, rfl⟩)
    go_ret2
    exact ⟨by rw [HR.out]; rfl, 0, rfl⟩
set_option maxRecDepth 100000 in
set_option maxHeartbeats 1000000 in
theorem specLeastDist_any (n : Int) (ws : List ByteArray) (A : Option Addr) (c : Nat) (w : World) (hwl : ws.length ≤ 1048576) (hsz : ∀ s ∈ ws, s.size ≤ 1048576) (hr : RdS w w.heap.size A ws) :
    Calls Try.prog 9 #[.int .i64 n, .slice A ws.length c] w fun e w' => e = .returned (.tuple #[.int .i64 (leastR n ws).1, .int .i64 (leastR n ws).2]) ∧ ∃ m, w' = w.drewN m := by
  have HV := hide (l05Ok_any n ws A c w hwl hsz hr)
  cases h : addrs n ws
  · have HR := hide (show leastR n ws = (0, 1) by unfold leastR; have : pcode n ws = 1 := (by unfold pcode; rw [if_pos h]); rw [this]; rfl)
    rw [h] at HV
    clear h
    go_enter Try.func9, Try.ntmps9
    go_wp2_with (go_at_call 32; with_reducible refine (HV.out).mono ?_; rintro e w' ⟨rfl, m, rfl⟩)
    go_ret2
    exact ⟨by rw [HR.out]; rfl, m, rfl⟩
  rw [h] at HV
  by_cases hl : ws.length < 2
  · have HR := hide (show leastR n ws = (0, 3) by unfold leastR; have : pcode n ws = 3 := (by unfold pcode; rw [if_neg (by rw [h]; decide), if_pos hl]); rw [this]; rfl)
    have hB : decide ((ws.length : Int) < 2) = true := by simp; omega
    clear h
    go_enter Try.func9, Try.ntmps9
    go_wp2_with (go_at_call 32; with_reducible refine (HV.out).mono ?_; rintro e w' ⟨rfl, m, rfl⟩)
    go_ret2
    exact ⟨by rw [HR.out]; rfl, m, rfl⟩
  · have HR := hide (show leastR n ws = (leastA farB ws, 0) by unfold leastR; have : pcode n ws = 0 := (by unfold pcode; rw [if_neg (by rw [h]; decide), if_neg hl]); rw [this]; rfl)
    have hB : decide ((ws.length : Int) < 2) = false := by simp; omega
    have hbd := leastA_bd h
    have HLL := hide fun W (hW : RdS W W.heap.size A ws) => l05Least_any ws (txt ws 0).size A c W hwl (by have := txt0_size h; omega) (fun s hs => (addrs_size h s hs).1) hW
    have HRD := hide fun (m : Nat) => (show RdS (w.drewN m) (w.drewN m).heap.size A ws from hr)
    clear h hsz hr
    generalize leastA farB ws = d at *
    go_enter Try.func9, Try.ntmps9
    go_wp2_with (first | (go_at_call 32; with_reducible refine (HV.out).mono ?_; rintro e w' ⟨rfl, m, rfl⟩) | (go_at_call 37; with_reducible refine (HLL.out (w.drewN m) (HRD.out m)).mono ?_; rintro e w' ⟨rfl, m2, rfl⟩))
    go_ret2
    exact ⟨by rw [HR.out]; rfl, m + m2, rfl⟩
set_option maxRecDepth 100000 in
set_option maxHeartbeats 1000000 in
theorem specCorrects_any (n : Int) (ws : List ByteArray) (A : Option Addr) (c : Nat) (w : World) (hwl : ws.length ≤ 1048576) (hsz : ∀ s ∈ ws, s.size ≤ 1048576) (hr : RdS w w.heap.size A ws) :
    Calls Try.prog 11 #[.int .i64 n, .slice A ws.length c] w fun e w' => e = .returned (.tuple #[.int .i64 (correctsR n ws).1, .int .i64 (correctsR n ws).2]) ∧ ∃ m, w' = w.drewN m := by
  have HV := hide (l05Ok_any n ws A c w hwl hsz hr)
  cases h : addrs n ws
  · have HR := hide (show correctsR n ws = (0, 1) by unfold correctsR; have : pcode n ws = 1 := (by unfold pcode; rw [if_pos h]); rw [this]; rfl)
    rw [h] at HV
    clear h
    go_enter Try.func11, Try.ntmps11
    go_wp2_with (go_at_call 32; with_reducible refine (HV.out).mono ?_; rintro e w' ⟨rfl, m, rfl⟩)
    go_ret2
    exact ⟨by rw [HR.out]; rfl, m, rfl⟩
  rw [h] at HV
  by_cases hl : ws.length < 2
  · have HR := hide (show correctsR n ws = (0, 3) by unfold correctsR; have : pcode n ws = 3 := (by unfold pcode; rw [if_neg (by rw [h]; decide), if_pos hl]); rw [this]; rfl)
    have hB : decide ((ws.length : Int) < 2) = true := by simp; omega
    clear h
    go_enter Try.func11, Try.ntmps11
    go_wp2_with (go_at_call 32; with_reducible refine (HV.out).mono ?_; rintro e w' ⟨rfl, m, rfl⟩)
    go_ret2
    exact ⟨by rw [HR.out]; rfl, m, rfl⟩
  · have HR := hide (show correctsR n ws = ((leastA farB ws - 1).tdiv 2, 0) by unfold correctsR; have : pcode n ws = 0 := (by unfold pcode; rw [if_neg (by rw [h]; decide), if_neg hl]); rw [this]; rfl)
    have hB : decide ((ws.length : Int) < 2) = false := by simp; omega
    have hbd := leastA_bd h
    have HLL := hide fun W (hW : RdS W W.heap.size A ws) => l05Least_any ws (txt ws 0).size A c W hwl (by have := txt0_size h; omega) (fun s hs => (addrs_size h s hs).1) hW
    have HRD := hide fun (m : Nat) => (show RdS (w.drewN m) (w.drewN m).heap.size A ws from hr)
    clear h hsz hr
    generalize leastA farB ws = d at *
    have hw1 : IntKind.i64.wrap (d - 1) = d - 1 := by rw [IntKind.wrap_i64] <;> omega
    have hn2 : ((d - 1).tdiv 2).natAbs = (d - 1).natAbs / 2 := by rw [Int.natAbs_tdiv]; rfl
    have hw2 : IntKind.i64.wrap ((d - 1).tdiv 2) = (d - 1).tdiv 2 := by rw [IntKind.wrap_i64] <;> omega
    clear hn2
    go_enter Try.func11, Try.ntmps11
    go_wp2_with (first | (go_at_call 32; with_reducible refine (HV.out).mono ?_; rintro e w' ⟨rfl, m, rfl⟩) | (go_at_call 37; with_reducible refine (HLL.out (w.drewN m) (HRD.out m)).mono ?_; rintro e w' ⟨rfl, m2, rfl⟩))
    go_ret2
    exact ⟨by rw [HR.out]; rfl, m + m2, rfl⟩
end Go.Proofs.Ytofjnmeblmbnmaa
