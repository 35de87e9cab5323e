/-
  The orders by dues and by readiness; in the program.
-/
import Derived.Test.YtfhociekhffjhaaRunU
namespace Go.Proofs.Ytfhociekhffjhaa
open Go.RowKit

set_option maxRecDepth 100000 in
set_option maxHeartbeats 4000000 in
theorem stable_any (ks : List Int) (n : Nat) (F : FuncId) (cap : Array Value) (lo : Nat) (A : Option Addr) (c : Nat) (w : World) (hn : n ≤ 19) (hkl : ks.length = n) (hlo : lo ≤ w.heap.size)
    (hcf : ∀ args w, (callFunc F args).run Try.prog w = .ok (.enter F args) w) (hown : w.ownsRow lo 2 1 (.slice A n c) n ((stK ks n 0).map (Value.int .i64)))
    (hp : ∀ (x y : Nat) W, x < n → y < n → Below lo w W → Calls Try.prog F (#[.int .i64 x, .int .i64 y] ++ cap) W fun e w' => e = .returned (.int .i64 (cmpZ (keyOf ks x) (keyOf ks y))) ∧ Below W.heap.size W w') :
    Calls Try.prog 208 #[.slice A n c, .int .i64 n, .func (.func F) #[] cap] w fun e w' => e = .returned (.tuple #[]) ∧ w'.ownsRow lo 2 1 (.slice A n c) n ((sortK ks n).map (Value.int .i64)) ∧ Below lo w w' := by
  have HC := hide (insertionSort_any ks n F cap lo A c w (by omega) hkl hlo hcf hown hp)
  clear hp hown hcf hkl
  have hn20 : (n : Int) < 20 := by omega
  go_enter Try.func208, Try.ntmps208
  go_wp2_with fail
  go_loopg [7, 8] 0 (fun g a b wr => g = 0 ∧ a = .int .i64 0 ∧ b = .int .i64 20 ∧ w = wr)
  case atStart => exact ⟨rfl, rfl, rfl, rfl⟩
  case round =>
    obtain ⟨rfl, rfl, rfl, rfl⟩ := hrel
    go_wp2_with (go_at_call 221; refine (HC.out).mono ?_; rintro e w1 ⟨rfl, ho1, hb1⟩)
    have HO := hide ho1
    clear ho1 HC
    go_loopg [6] 0 (fun g a wr => g = 0 ∧ a = .int .i64 20 ∧ w1 = wr)
    case atStart => exact ⟨rfl, rfl, rfl⟩
    case round =>
      obtain ⟨rfl, rfl, rfl⟩ := hrel
      go_wp2_with fail
      refine bodyPost_end (results_none rfl _ _ _) rfl ?_
      exact ⟨rfl, HO.out, hb1⟩
set_option maxRecDepth 100000 in
set_option maxHeartbeats 4000000 in
theorem sortStable_any (ks : List Int) (n : Nat) (F : FuncId) (cap : Array Value) (lo : Nat) (A : Option Addr) (c : Nat) (w : World) (hn : n ≤ 19) (hkl : ks.length = n) (hlo : lo ≤ w.heap.size)
    (hcf : ∀ args w, (callFunc F args).run Try.prog w = .ok (.enter F args) w) (hown : w.ownsRow lo 2 1 (.slice A n c) n ((stK ks n 0).map (Value.int .i64)))
    (hp : ∀ (x y : Nat) W, x < n → y < n → Below lo w W → Calls Try.prog F (#[.int .i64 x, .int .i64 y] ++ cap) W fun e w' => e = .returned (.int .i64 (cmpZ (keyOf ks x) (keyOf ks y))) ∧ Below W.heap.size W w') :
    Calls Try.prog 184 #[.slice A n c, .func (.func F) #[] cap] w fun e w' => e = .returned (.tuple #[]) ∧ w'.ownsRow lo 2 1 (.slice A n c) n ((sortK ks n).map (Value.int .i64)) ∧ Below lo w w' := by
  have HC := hide (stable_any ks n F cap lo A c w hn hkl hlo hcf hown hp)
  clear hp hown hcf hkl
  go_enter Try.func184, Try.ntmps184
  go_wp2_with (go_at_call 208; refine (HC.out).mono ?_; rintro e w1 ⟨rfl, ho1, hb1⟩)
  refine bodyPost_end (results_none rfl _ _ _) rfl ?_
  exact ⟨rfl, ho1, hb1⟩
set_option maxRecDepth 100000 in
set_option maxHeartbeats 4000000 in
theorem orderBy1_any (key : TN → Int) (G : FuncId) (l : List TN) (x y : Nat) (A : Option Addr) (c p5 p4 : Nat) (w : World) (hl6 : l.length ≤ 6) (hx : x < l.length) (hy : y < l.length)
    (k5 : w.cell? ⟨p5, 0, none⟩ = some (.func (.func G) #[] #[])) (k4 : w.cell? ⟨p4, 0, none⟩ = some (.slice A l.length c)) (h2 : RN 2 w w.heap.size A l)
    (hcf : ∀ args w, (callFunc G args).run Try.prog w = .ok (.enter G args) w)
    (hp : ∀ (e : TN) Aw cw W, Calls Try.prog G #[.agg #[.slice Aw e.way.length cw, .int .i64 e.p, .int .i64 e.q]] W fun e' W' => e' = .returned (.int .i64 (key e)) ∧ Below W.heap.size W W') :
    Calls Try.prog 185 #[.int .i64 x, .int .i64 y, .pointer (some ⟨p5, 0, none⟩), .pointer (some ⟨p4, 0, none⟩)] w fun e w' => e = .returned (.int .i64 (cmpZ (keyOf (l.map key) x) (keyOf (l.map key) y))) ∧ Below w.heap.size w w' := by
  obtain ⟨b1, o1, ex, Ax, cx, rfl, hbb1, hex, _, hx0, hx1', hx2'⟩ := h2.at_ (by omega) hx
  obtain ⟨b2, o2, ey, Ay, cy, hA2, hbb2, hey, _, hy0, hy1', hy2'⟩ := h2.at_ (by omega) hy
  cases hA2
  have hx1 := hx1' (by omega)
  have hx2 := hx2' (by omega)
  have hy1 := hy1' (by omega)
  have hy2 := hy2' (by omega)
  have hl4 := block_lt_of_cell k4
  have hl5 := block_lt_of_cell k5
  have hl4 : p4 < w.heap.size := hl4
  have hl5 : p5 < w.heap.size := hl5
  have HKX := hide (key_get (ks := l.map key) (n := x) (z := key ex) (by rw [List.getElem?_map, hex]; rfl))
  have HKY := hide (key_get (ks := l.map key) (n := y) (z := key ey) (by rw [List.getElem?_map, hey]; rfl))
  rw [HKX.out, HKY.out]
  have HP := hide hp
  have hxl : (x : Int) < l.length := by omega
  have hyl : (y : Int) < l.length := by omega
  have e0 : w.drew.cell? ⟨p5, 0, none⟩ = some (.func (.func G) #[] #[]) := k5
  have e1 : w.drew.cell? ⟨p4, 0, none⟩ = some (.slice (some ⟨b1, o1, none⟩) l.length c) := k4
  have e2 : w.drew.cell? ⟨b1, o1 + x * 3, none⟩ = some (.slice Ax ex.way.length cx) := hx0
  have e3 : w.drew.cell? ⟨b1, o1 + x * 3 + 1, none⟩ = some (.int .i64 ex.p) := hx1
  have e4 : w.drew.cell? ⟨b1, o1 + x * 3 + 2, none⟩ = some (.int .i64 ex.q) := hx2
  have e5 : w.drew.cell? ⟨b1, o1 + y * 3, none⟩ = some (.slice Ay ey.way.length cy) := hy0
  have e6 : w.drew.cell? ⟨b1, o1 + y * 3 + 1, none⟩ = some (.int .i64 ey.p) := hy1
  have e7 : w.drew.cell? ⟨b1, o1 + y * 3 + 2, none⟩ = some (.int .i64 ey.q) := hy2
  have bd : Below w.heap.size w w.drew := (Below.refl _ _).drew
  clear hp h2 hex hey hx0 hx1 hx2 hy0 hy1 hy2 hx1' hx2' hy1' hy2' k4 k5 HKX HKY
  go_enter Try.func185, Try.ntmps185
  go_wp2_with fail
  have hzd : w.heap.size ≤ w.drew.heap.size := Nat.le_refl _
  refine wp_region_held_drew (S := fun W => W.cell? ⟨p5, 0, none⟩ = some (.func (.func G) #[] #[]) ∧ W.cell? ⟨p4, 0, none⟩ = some (.slice (some ⟨b1, o1, none⟩) l.length c) ∧ W.cell? ⟨b1, o1 + x * 3, none⟩ = some (.slice Ax ex.way.length cx) ∧ W.cell? ⟨b1, o1 + x * 3 + 1, none⟩ = some (.int .i64 ex.p) ∧ W.cell? ⟨b1, o1 + x * 3 + 2, none⟩ = some (.int .i64 ex.q) ∧ W.cell? ⟨b1, o1 + y * 3, none⟩ = some (.slice Ay ey.way.length cy) ∧ W.cell? ⟨b1, o1 + y * 3 + 1, none⟩ = some (.int .i64 ey.p) ∧ W.cell? ⟨b1, o1 + y * 3 + 2, none⟩ = some (.int .i64 ey.q)) (by kernel_rfl) (⟨e0, e1, e2, e3, e4, e5, e6, e7⟩) (fun hHeld => ?_)
  generalize w.drew = wd at *
  refine wpAnyH_take (i := 0) (v := ?_) rfl (by kernel_rfl) (by kernel_rfl) (by kernel_rfl) (fun _ _ _ h => h) (Or.inl ⟨by rfl, ?_⟩) (by assumption) ?_
  rotate_left 1
  · (intro w hSw; (try dsimp only at hSw); go_simp; try with_reducible rfl)
  try simp only [Act.put, List.getElem_toArray, List.getElem_cons_succ, List.getElem_cons_zero, List.setIfInBounds_toArray, List.set_cons_zero, List.set_cons_succ]
  refine wpAnyH_take (i := 1) (v := ?_) rfl (by kernel_rfl) (by kernel_rfl) (by kernel_rfl) (fun _ _ _ h => h) (Or.inl ⟨by rfl, ?_⟩) (by assumption) ?_
  rotate_left 1
  · (intro w hSw; (try dsimp only at hSw); go_simp; try with_reducible rfl)
  try simp only [Act.put, List.getElem_toArray, List.getElem_cons_succ, List.getElem_cons_zero, List.setIfInBounds_toArray, List.set_cons_zero, List.set_cons_succ]
  refine wpAnyH_take (i := 2) (v := ?_) rfl (by kernel_rfl) (by kernel_rfl) (by kernel_rfl) (fun _ _ _ h => h) (Or.inl ⟨by rfl, ?_⟩) (by assumption) ?_
  rotate_left 1
  · (intro w hSw; (try dsimp only at hSw); go_simp; try with_reducible rfl)
  try simp only [Act.put, List.getElem_toArray, List.getElem_cons_succ, List.getElem_cons_zero, List.setIfInBounds_toArray, List.set_cons_zero, List.set_cons_succ]
  refine wpAnyH_take (i := 3) (v := ?_) rfl (by kernel_rfl) (by kernel_rfl) (by kernel_rfl) (fun _ _ _ h => h) (Or.inl ⟨by rfl, ?_⟩) (by assumption) ?_
  rotate_left 1
  · (intro w hSw; (try dsimp only at hSw); go_simp; try with_reducible rfl)
  try simp only [Act.put, List.getElem_toArray, List.getElem_cons_succ, List.getElem_cons_zero, List.setIfInBounds_toArray, List.set_cons_zero, List.set_cons_succ]
  refine wpAnyH_take (i := 4) (v := ?_) rfl (by kernel_rfl) (by kernel_rfl) (by kernel_rfl) (fun _ _ _ h => h) (Or.inl ⟨by rfl, ?_⟩) (by assumption) ?_
  rotate_left 1
  · (intro w hSw; (try dsimp only at hSw); go_simp; try with_reducible rfl)
  try simp only [Act.put, List.getElem_toArray, List.getElem_cons_succ, List.getElem_cons_zero, List.setIfInBounds_toArray, List.set_cons_zero, List.set_cons_succ]
  refine wpAnyH_take (i := 6) (v := ?_) rfl (by kernel_rfl) (by kernel_rfl) (by kernel_rfl) (fun _ _ _ h => h) (Or.inl ⟨by rfl, ?_⟩) (by assumption) ?_
  rotate_left 1
  · (intro w hSw; (try dsimp only at hSw); go_simp; try with_reducible rfl)
  try simp only [Act.put, List.getElem_toArray, List.getElem_cons_succ, List.getElem_cons_zero, List.setIfInBounds_toArray, List.set_cons_zero, List.set_cons_succ]
  refine wpAnyH_take (i := 7) (v := ?_) rfl (by kernel_rfl) (by kernel_rfl) (by kernel_rfl) (fun _ _ _ h => h) (Or.inl ⟨by rfl, ?_⟩) (by assumption) ?_
  rotate_left 1
  · (intro w hSw; (try dsimp only at hSw); go_simp; try with_reducible rfl)
  try simp only [Act.put, List.getElem_toArray, List.getElem_cons_succ, List.getElem_cons_zero, List.setIfInBounds_toArray, List.set_cons_zero, List.set_cons_succ]
  refine wpAnyH_take (i := 8) (v := ?_) rfl (by kernel_rfl) (by kernel_rfl) (by kernel_rfl) (fun _ _ _ h => h) (Or.inl ⟨by rfl, ?_⟩) (by assumption) ?_
  rotate_left 1
  · (intro w hSw; (try dsimp only at hSw); go_simp; try with_reducible rfl)
  try simp only [Act.put, List.getElem_toArray, List.getElem_cons_succ, List.getElem_cons_zero, List.setIfInBounds_toArray, List.set_cons_zero, List.set_cons_succ]
  refine wpAnyH_take (i := 9) (v := ?_) rfl (by kernel_rfl) (by kernel_rfl) (by kernel_rfl) (fun _ _ _ h => h) (Or.inl ⟨by rfl, ?_⟩) (by assumption) ?_
  rotate_left 1
  · (intro w hSw; (try dsimp only at hSw); go_simp; try with_reducible rfl)
  try simp only [Act.put, List.getElem_toArray, List.getElem_cons_succ, List.getElem_cons_zero, List.setIfInBounds_toArray, List.set_cons_zero, List.set_cons_succ]
  refine wpAnyH_take (i := 10) (v := ?_) rfl (by kernel_rfl) (by kernel_rfl) (by kernel_rfl) (fun _ _ _ h => h) (Or.inl ⟨by rfl, ?_⟩) (by assumption) ?_
  rotate_left 1
  · (intro w hSw; (try dsimp only at hSw); go_simp; try with_reducible rfl)
  try simp only [Act.put, List.getElem_toArray, List.getElem_cons_succ, List.getElem_cons_zero, List.setIfInBounds_toArray, List.set_cons_zero, List.set_cons_succ]
  refine wpAnyH_ready (rs := [5]) (by kernel_rfl) (by simp) ?_
  refine AllReadyH.cons rfl (fun K hK => ?_) AllReadyH.nil
  try simp only [Act.put, List.getElem_toArray, List.getElem_cons_succ, List.getElem_cons_zero, List.setIfInBounds_toArray, List.set_cons_zero, List.set_cons_succ]
  go_simp
  refine (HP.out ex Ax cx wd).mono ?_
  rintro e w2 ⟨rfl, s2⟩
  have f0 := (s2.cell (p := ⟨p5, 0, none⟩) (by dsimp only; omega)).trans e0
  have f1 := (s2.cell (p := ⟨p4, 0, none⟩) (by dsimp only; omega)).trans e1
  have f2 := (s2.cell (p := ⟨b1, o1 + x * 3, none⟩) (by dsimp only; omega)).trans e2
  have f3 := (s2.cell (p := ⟨b1, o1 + x * 3 + 1, none⟩) (by dsimp only; omega)).trans e3
  have f4 := (s2.cell (p := ⟨b1, o1 + x * 3 + 2, none⟩) (by dsimp only; omega)).trans e4
  have f5 := (s2.cell (p := ⟨b1, o1 + y * 3, none⟩) (by dsimp only; omega)).trans e5
  have f6 := (s2.cell (p := ⟨b1, o1 + y * 3 + 1, none⟩) (by dsimp only; omega)).trans e6
  have f7 := (s2.cell (p := ⟨b1, o1 + y * 3 + 2, none⟩) (by dsimp only; omega)).trans e7
  have z2 := s2.size
  have B2 := bd.trans (s2.mono hzd)
  clear e0 e1 e2 e3 e4 e5 e6 e7
  dsimp only
  refine hK.out _ _ (⟨f0, f1, f2, f3, f4, f5, f6, f7⟩) (fun hHeld => ?_)
  clear hK K
  try simp only [Act.put, List.getElem_toArray, List.getElem_cons_succ, List.getElem_cons_zero, List.setIfInBounds_toArray, List.set_cons_zero, List.set_cons_succ]
  refine wpAnyH_ready (rs := [11]) (by kernel_rfl) (by simp) ?_
  refine AllReadyH.cons rfl (fun K hK => ?_) AllReadyH.nil
  try simp only [Act.put, List.getElem_toArray, List.getElem_cons_succ, List.getElem_cons_zero, List.setIfInBounds_toArray, List.set_cons_zero, List.set_cons_succ]
  go_simp
  refine (HP.out ey Ay cy w2).mono ?_
  rintro e w3 ⟨rfl, s3⟩
  have g0 := (s3.cell (p := ⟨p5, 0, none⟩) (by dsimp only; omega)).trans f0
  have g1 := (s3.cell (p := ⟨p4, 0, none⟩) (by dsimp only; omega)).trans f1
  have g2 := (s3.cell (p := ⟨b1, o1 + x * 3, none⟩) (by dsimp only; omega)).trans f2
  have g3 := (s3.cell (p := ⟨b1, o1 + x * 3 + 1, none⟩) (by dsimp only; omega)).trans f3
  have g4 := (s3.cell (p := ⟨b1, o1 + x * 3 + 2, none⟩) (by dsimp only; omega)).trans f4
  have g5 := (s3.cell (p := ⟨b1, o1 + y * 3, none⟩) (by dsimp only; omega)).trans f5
  have g6 := (s3.cell (p := ⟨b1, o1 + y * 3 + 1, none⟩) (by dsimp only; omega)).trans f6
  have g7 := (s3.cell (p := ⟨b1, o1 + y * 3 + 2, none⟩) (by dsimp only; omega)).trans f7
  have B3 := B2.trans (s3.mono (by omega))
  clear f0 f1 f2 f3 f4 f5 f6 f7
  dsimp only
  refine hK.out _ _ (⟨g0, g1, g2, g3, g4, g5, g6, g7⟩) (fun hHeld => ?_)
  clear hK K
  try simp only [Act.put, List.getElem_toArray, List.getElem_cons_succ, List.getElem_cons_zero, List.setIfInBounds_toArray, List.set_cons_zero, List.set_cons_succ]
  refine wpAnyH_ready (rs := [12]) (by kernel_rfl) (by simp) ?_
  refine AllReadyH.cons rfl (fun K hK => ?_) AllReadyH.nil
  try simp only [Act.put, List.getElem_toArray, List.getElem_cons_succ, List.getElem_cons_zero, List.setIfInBounds_toArray, List.set_cons_zero, List.set_cons_succ]
  go_simp
  go_at_call 186
  refine (compare_any _ _ _).mono ?_
  rintro e w4 ⟨rfl, rfl⟩
  dsimp only
  refine hK.out _ _ (⟨g0, g1, g2, g3, g4, g5, g6, g7⟩) (fun hHeld => ?_)
  clear hK K
  try simp only [Act.put, List.getElem_toArray, List.getElem_cons_succ, List.getElem_cons_zero, List.setIfInBounds_toArray, List.set_cons_zero, List.set_cons_succ]
  refine wpAnyH_take (i := 13) (v := ?_) rfl (by kernel_rfl) (by kernel_rfl) (by kernel_rfl) (fun _ _ _ h => h) (Or.inl ⟨by rfl, ?_⟩) (by assumption) ?_
  rotate_left 1
  · (intro w hSw; (try dsimp only at hSw); go_simp; try with_reducible rfl)
  try simp only [Act.put, List.getElem_toArray, List.getElem_cons_succ, List.getElem_cons_zero, List.setIfInBounds_toArray, List.set_cons_zero, List.set_cons_succ]
  refine wpAnyH_done (by kernel_rfl) ?_ _
  clear g0 g1 g2 g3 g4 g5 g6 g7
  go_wp2_with fail
  go_ret
  exact ⟨rfl, B3⟩
set_option maxRecDepth 100000 in
set_option maxHeartbeats 1000000 in
theorem dueKey_any (e : TN) (Aw : Option Addr) (cw : Nat) (w : World) : Calls Try.prog 109 #[.agg #[.slice Aw e.way.length cw, .int .i64 e.p, .int .i64 e.q]] w fun e' w' => e' = .returned (.int .i64 e.q) ∧ Below w.heap.size w w' := by
  go_enter Try.func109, Try.ntmps109
  go_wp2_with fail
  go_ret
  exact ⟨rfl, (by repeat (first | exact Below.refl _ _ | assumption | (refine Below.alloc ?_ (by simp <;> omega) _) | refine Below.drew ?_ | refine bdn ?_ _))⟩
set_option maxRecDepth 100000 in
set_option maxHeartbeats 1000000 in
theorem readyKey_any (e : TN) (Aw : Option Addr) (cw : Nat) (w : World) : Calls Try.prog 108 #[.agg #[.slice Aw e.way.length cw, .int .i64 e.p, .int .i64 e.q]] w fun e' w' => e' = .returned (.int .i64 e.p) ∧ Below w.heap.size w w' := by
  go_enter Try.func108, Try.ntmps108
  go_wp2_with fail
  go_ret
  exact ⟨rfl, (by repeat (first | exact Below.refl _ _ | assumption | (refine Below.alloc ?_ (by simp <;> omega) _) | refine Below.drew ?_ | refine bdn ?_ _))⟩
set_option maxRecDepth 100000 in
set_option maxHeartbeats 4000000 in
theorem orderBy_any (key : TN → Int) (G : FuncId) (ts : List Int) (l : List TN) (A0 : Option Addr) (c0 : Nat) (A : Option Addr) (c : Nat) (w : World) (h0 : ts.length ≤ 1048576) (hs : SmallN l) (h1 : RdI w w.heap.size A0 ts) (h2 : RN 2 w w.heap.size A l)
    (hcf : ∀ args w, (callFunc G args).run Try.prog w = .ok (.enter G args) w)
    (hp : ∀ (e : TN) Aw cw W, Calls Try.prog G #[.agg #[.slice Aw e.way.length cw, .int .i64 e.p, .int .i64 e.q]] W fun e' W' => e' = .returned (.int .i64 (key e)) ∧ Below W.heap.size W W') :
    Calls Try.prog 107 #[.slice A0 ts.length c0, .slice A l.length c, .func (.func G) #[] #[]] w fun e w' => ∃ r, e = .returned (.tuple #[r, .int .i64 (orderOf key ts l).2]) ∧ O_Int64S w' w.heap.size w'.heap.size r (orderOf key ts l).1 ∧ Below w.heap.size w w' := by
  have bx : Below w.heap.size w ((w.alloc (.cells #[.slice A l.length c] 40)).alloc (.cells #[.func (.func G) #[] #[]] 130)) := (by repeat (first | exact Below.refl _ _ | assumption | (refine Below.alloc ?_ (by simp <;> omega) _) | refine Below.drew ?_ | refine bdn ?_ _))
  have z0 : w.heap.size + 2 ≤ ((w.alloc (.cells #[.slice A l.length c] 40)).alloc (.cells #[.func (.func G) #[] #[]] 130)).heap.size := by simp
  have k4 : ((w.alloc (.cells #[.slice A l.length c] 40)).alloc (.cells #[.func (.func G) #[] #[]] 130)).cell? ⟨w.heap.size, 0, none⟩ = some (.slice A l.length c) := by simp [go_sem]
  have k5 : ((w.alloc (.cells #[.slice A l.length c] 40)).alloc (.cells #[.func (.func G) #[] #[]] 130)).cell? ⟨w.heap.size + 1, 0, none⟩ = some (.func (.func G) #[] #[]) := by simp [go_sem]
  have HV := hide (validWishs_any ts l A0 c0 A c _ h0 hs ((h1.below bx).more bx.size) ((h2.below bx).more bx.size))
  have HX := hide h2
  have HP := hide hp
  have HCF := hide hcf
  have hcf1 := hide (callFunc_gen (P := Try.prog) (F := 185) Try.func185 (by kernel_rfl) (by kernel_rfl))
  clear h1 h2 hp hcf
  cases hcd : vWishes ts l
  · have HR := hide (show orderOf key ts l = ([], 1) by simp [orderOf, hcd])
    rw [hcd] at HV
    clear hcd k4 k5
    go_enter Try.func107, Try.ntmps107
    go_wp2_with (go_at_call 183; refine (HV.out).mono ?_; rintro e w1 ⟨rfl, hb1⟩)
    go_ret2
    exact ⟨_, by rw [HR.out]; rfl, by rw [HR.out]; exact O_Int64S.nil _ _ _ _ _, bx.trans (hb1.mono bx.size)⟩
  have HR := hide (show orderOf key ts l = (sortK (l.map key) l.length, 0) by simp [orderOf, hcd])
  have hl6 := (vWishes_iff.1 hcd).2.1
  rw [hcd] at HV
  clear hcd
  obtain ⟨i0, hi0, hz0, hs0, hb0⟩ := info_parts int64_info
  go_enter Try.func107, Try.ntmps107
  go_wp2_with (go_at_call 183; refine (HV.out).mono ?_; rintro e w1 ⟨rfl, hb1⟩; have hb2 := hb1.mono z0; have hz1 : w.heap.size + 2 ≤ w1.heap.size := Nat.le_trans z0 hb1.size; have hz1q : w.heap.size < w1.heap.size := (by omega); have j4 := (hb2.cell (p := ⟨w.heap.size, 0, none⟩) (by dsimp only; omega)).trans k4; have j5 := (hb2.cell (p := ⟨w.heap.size + 1, 0, none⟩) (by dsimp only; omega)).trans k5)
  have bw1 : Below w.heap.size w w1 := bx.trans (hb1.mono bx.size)
  have J4 := hide j4
  have J5 := hide j5
  clear hb1 hb2 k4 k5 j4 j5 z0 bx HV
  have ho1 := own_new0 w1 (w.heap.size + 2) 2 1 hz1
  have hb1 : Below (w.heap.size + 2) w1 (w1.alloc (.cells #[] 2)) := (Below.refl _ _).alloc hz1 _
  go_loopg [8, 17] l.length (fun g s i wr => ∃ k : Nat, k ≤ l.length ∧ Hid (g = l.length - k) ∧ i = .int .i64 k ∧ wr.ownsRow (w.heap.size + 2) 2 1 s k (((List.range' 0 k).map Int.ofNat).map (Value.int .i64)) ∧ Below (w.heap.size + 2) w1 wr)
  case atStart => exact ⟨0, by omega, by simp [Hid], rfl, ho1, hb1⟩
  case round =>
    obtain ⟨n, hn, hg, rfl, hown, hb⟩ := hrel
    clear ho1 hb1
    by_cases hlt : n < l.length
    · have HTK := hide (show (List.range' 0 (n + 1)).map Int.ofNat = (List.range' 0 n).map Int.ofNat ++ [(n : Int)] by rw [List.range'_1_concat]; simp)
      have hnl : (n : Int) < l.length := by omega
      have hszb := hb.size
      go_wp2_with (at_builtin; go_must (refine wp_app _ rfl _ _ 24 rfl (w.heap.size + 2) 2 i0 (.int .i64 0) 1 8 Try.underlying24 hi0 hz0 hs0 hb0 rfl (by decide) _ _ _ rfl (hown.alloc _) _ _ 1 1 [.int .i64 n] rfl rfl (rd_new _ _ _ _ (by simp)) (int_one _) (by omega) (by decide) (by simp <;> omega) ?_); intro v2 w2 hown2 hgrow hat)
      have hb2 := app_below (hb.alloc (by omega) (.cells #[.int .i64 (n : Int)] 2)) (hown.alloc (.cells #[.int .i64 (n : Int)] 2)) hgrow (Nat.le_refl _) (by simp; omega)
      go_roundg (l.length - (n + 1))
      case measure => have := hg.out; omega
      case rel => exact ⟨n + 1, by omega, rfl, by go_num, by rw [HTK.out, List.map_append]; exact hown2, hb2⟩
    · obtain rfl : n = l.length := by omega
      obtain ⟨Ao, co, hsh, hnc, _⟩ := own_shape hown
      subst hsh
      have hszb := hb.size
      have HS := hide (sortStable_any (l.map key) l.length 185 #[.pointer (some ⟨w.heap.size + 1, 0, none⟩), .pointer (some ⟨w.heap.size, 0, none⟩)] (w.heap.size + 2) Ao co wr (by omega) (List.length_map ..) (by omega) hcf1.out hown (fun x y W hx hy hW =>
        orderBy1_any key G l x y A c (w.heap.size + 1) w.heap.size W hl6 hx hy (((hb.trans hW).cell (p := ⟨w.heap.size + 1, 0, none⟩) (by dsimp only; omega)).trans J5.out) (((hb.trans hW).cell (p := ⟨w.heap.size, 0, none⟩) (by dsimp only; omega)).trans J4.out) ((HX.out.below (bw1.trans ((hb.trans hW).mono (by omega)))).more (by have := hW.size; omega)) HCF.out HP.out))
      clear hown
      go_wp2_with (go_at_call 184; refine (HS.out).mono ?_; rintro e w2 ⟨rfl, ho5, s5⟩)
      go_ret2
      refine ⟨_, by rw [HR.out]; rfl, ?_, bw1.trans ((hb.trans s5).mono (by omega))⟩
      rw [HR.out]
      have hsl := sortK_len (l.map key) l.length
      have hO : O_Int64S w2 w.heap.size w2.heap.size (.slice Ao l.length co) (sortK (l.map key) l.length) := OwnV.of_row (by rw [hsl]; exact own_base ho5 (by omega)) (by omega)
      exact hO
set_option maxRecDepth 100000 in
set_option maxHeartbeats 4000000 in
theorem P_DueOrder (ts : List Int) (v : Value) (l : List TN) (u : Value) (w : World) (h0 : ts.length ≤ 1048576) (_ : ∀ z ∈ ts, -9223372036854775808 ≤ z ∧ z ≤ 9223372036854775807) (h : R_Int64S w w.heap.size v ts) (hs : SmallN l) (_ : ∀ e ∈ l, e.Fits) (k : R_WishS w w.heap.size u l) :
    Calls Try.prog 23 #[v, u] w fun e w' => ∃ r, e = .returned (.tuple #[r, .int .i64 (orderOf TN.q ts l).2]) ∧ O_Int64S w' w.heap.size w'.heap.size r (orderOf TN.q ts l).1 ∧ Below w.heap.size w w' := by
  obtain ⟨A0, c0, rfl, h1⟩ := h
  obtain ⟨A, c, rfl, h2⟩ := k
  have HC := hide (orderBy_any TN.q 109 ts l A0 c0 A c w h0 hs h1 h2 (callFunc_gen (P := Try.prog) (F := 109) Try.func109 (by kernel_rfl) (by kernel_rfl)) dueKey_any)
  clear h1 h2
  go_enter Try.func23, Try.ntmps23
  go_wp2_with (go_at_call 107; refine (HC.out).mono ?_; rintro e w1 ⟨r, rfl, ho, hb1⟩)
  go_ret2
  exact ⟨r, rfl, ho, hb1⟩
set_option maxRecDepth 100000 in
set_option maxHeartbeats 4000000 in
theorem P_ReadyOrder (ts : List Int) (v : Value) (l : List TN) (u : Value) (w : World) (h0 : ts.length ≤ 1048576) (_ : ∀ z ∈ ts, -9223372036854775808 ≤ z ∧ z ≤ 9223372036854775807) (h : R_Int64S w w.heap.size v ts) (hs : SmallN l) (_ : ∀ e ∈ l, e.Fits) (k : R_WishS w w.heap.size u l) :
    Calls Try.prog 22 #[v, u] w fun e w' => ∃ r, e = .returned (.tuple #[r, .int .i64 (orderOf TN.p ts l).2]) ∧ O_Int64S w' w.heap.size w'.heap.size r (orderOf TN.p ts l).1 ∧ Below w.heap.size w w' := by
  obtain ⟨A0, c0, rfl, h1⟩ := h
  obtain ⟨A, c, rfl, h2⟩ := k
  have HC := hide (orderBy_any TN.p 108 ts l A0 c0 A c w h0 hs h1 h2 (callFunc_gen (P := Try.prog) (F := 108) Try.func108 (by kernel_rfl) (by kernel_rfl)) readyKey_any)
  clear h1 h2
  go_enter Try.func22, Try.ntmps22
  go_wp2_with (go_at_call 107; refine (HC.out).mono ?_; rintro e w1 ⟨r, rfl, ho, hb1⟩)
  go_ret2
  exact ⟨r, rfl, ho, hb1⟩
end Go.Proofs.Ytfhociekhffjhaa
