/-
  What stations have fewer and more than they want; in the program and in the reference.
-/
import Derived.Test.YtklfjekpeoigoaaQMovesBack13
import Derived.Deep.RegionHeld3
namespace Go.Proofs.Ytklfjekpeoigoaa
open Go.RowKit

section
variable {P : Program}
theorem op_app' {o : Oper} {a : Act} {K : Act → World → Prop} {Q : Exit → Act → World → Prop} (w : World) (s x : Operand) (t : TypeId)
    (ho : o.op = .call { callee := .builtin .append, args := #[s, x], argTypes := #[t, t] })
    (base : Nat) (e : TypeId) (i : TypeInfo) (z : Value) (size bytes : Nat) (ht : P.underlying t = some (.slice e)) (hi : P.info? e = some i) (hz : i.zero = some z)
    (hsize : i.size = size) (hby : i.bytes = bytes) (hzs : z.cells.size = size) (hsz : 0 < size)
    (v : Value) (n : Nat) (xs : List Value) (hs : a.eval s = v) (hown : w.ownsRow base e size v n xs)
    (B : Nat) (A : Option Addr) (m c : Nat) (news : List Value) (hx : a.eval x = .slice A m c) (hl : news.length = m * size) (hr : Rd w B A news) (h1 : ∀ u ∈ news, u.oneCell' = true)
    (hn : n + m ≤ 1099511627776) (hb : bytes ≤ 64) (hbase : base ≤ w.heap.size)
    (h : ∀ v' w', w'.ownsRow base e size v' (n + m) (xs ++ news) → w.grownBy w' v.ownBlock → (v'.ownBlock = v.ownBlock ∨ v'.ownBlock = some w.heap.size) → K (a.put o.dst v') w') :
    o.wp P a w K Q := by
  obtain ⟨v', w', hrun, h2, h3, h4⟩ := run_app (P := P) w base t o.type e i z size bytes ht hi hz hsize hby hzs hsz v n xs hown B A m c news hl hr h1 (by unfold maxLen; omega)
    (Nat.le_trans (Nat.mul_le_mul hn hb) (by omega)) hbase
  unfold Oper.wp execOp
  simp only [ho, resolve, invoke, builtin, Sem.run_bind, Sem.run_pure, Result.andThen_ok, List.map_toArray, List.map_cons, List.map_nil, hs, hx, hrun]
  exact h v' w' h2 h3 h4
end
theorem rd_one {w : World} {b : Nat} {u : Value} (h : w.cell? ⟨b, 0, none⟩ = some u) : Rd w (b + 1) (some ⟨b, 0, none⟩) [u] := fun _ =>
  ⟨b, 0, rfl, Nat.lt_succ_self b, fun j x hj => by
    cases j with
    | zero => simp at hj; subst hj; exact h
    | succ j => simp at hj⟩
/-- Two slices' blocks are not one. -/
def Apart (u v : Value) : Prop := u.ownBlock = none ∨ u.ownBlock ≠ v.ownBlock
theorem Apart.symm {u v : Value} (h : Apart u v) : Apart v u := by
  cases hv : v.ownBlock with
  | none => exact .inl hv
  | some b =>
    right
    rcases h with h | h
    · rw [hv, h]; simp
    · rw [hv] at h ⊢; exact fun e => h e.symm
/-- An append onto the one leaves the other as it is, and apart. -/
theorem apart_app {w w' : World} {base : Nat} {e : TypeId} {s n : Nat} {u v v' : Value} {xs : List Value} (h : Apart u v) (hu : w.ownsRow base e s u n xs) (hg : w.grownBy w' v.ownBlock) (hat : v'.ownBlock = v.ownBlock ∨ v'.ownBlock = some w.heap.size) :
    w'.ownsRow base e s u n xs ∧ Apart u v' := by
  refine ⟨hu.kept hg h, ?_⟩
  rcases hat with hat | hat
  · unfold Apart; rw [hat]; exact h
  · cases hb : u.ownBlock with
    | none => exact .inl hb
    | some b =>
      right
      rw [hb, hat]
      intro e
      injection e with e
      have := (hu.lt b hb).2
      omega
theorem app_cell {w w' : World} {row : Option Nat} {b o : Nat} {u : Value} (h : w.cell? ⟨b, o, none⟩ = some u) (hg : w.grownBy w' row) (hb : b < w.heap.size) (hr : ∀ g, row = some g → b ≠ g) : w'.cell? ⟨b, o, none⟩ = some u := by
  rw [World.cell?_of_block (a := ⟨b, o, none⟩) (hg.block b hb (fun e => hr b e.symm rfl))]; exact h
theorem take_next' {α : Type} {xs : List α} {k : Nat} {x : α} (h : xs[k]? = some x) : xs.take (k + 1) = xs.take k ++ [x] := take_snocG h
set_option maxRecDepth 100000 in
set_option maxHeartbeats 4000000 in
theorem l00Max_any' (a b : Int) (w : World) : Calls Try.prog 122 #[.int .i64 a, .int .i64 b] w fun e w' => e = .returned (.int .i64 (max a b)) ∧ w = w' := by
  by_cases h : b < a
  · have HR := hide (show max a b = a by omega)
    generalize max a b = m at *
    go_enter Try.func122, Try.ntmps122
    go_wp2_with fail
    go_ret
    exact ⟨by rw [HR.out]; rfl, rfl⟩
  · have HR := hide (show max a b = b by omega)
    generalize max a b = m at *
    go_enter Try.func122, Try.ntmps122
    go_wp2_with fail
    go_ret
    exact ⟨by rw [HR.out]; rfl, rfl⟩
set_option maxRecDepth 100000 in
set_option maxHeartbeats 4000000 in
theorem S_ShortStations (st : List Int) (v : Value) (wa : List Int) (u : Value) (w : World) (h0 : st.length ≤ 1048576) (_ : ∀ z ∈ st, -9223372036854775808 ≤ z ∧ z ≤ 9223372036854775807) (h : R_Int64S w w.heap.size v st) (hs : wa.length ≤ 1048576) (_ : ∀ z ∈ wa, -9223372036854775808 ≤ z ∧ z ≤ 9223372036854775807) (k : R_Int64S w w.heap.size u wa) :
    Calls Try.prog 29 #[v, u] w fun e w' => ∃ r, e = .returned (.tuple #[r, .int .i64 (shortStations st wa).2]) ∧ O_Int64S w' w.heap.size w'.heap.size r (shortStations st wa).1 ∧ Below w.heap.size w w' := by
  obtain ⟨A, c, rfl, h1⟩ := h
  obtain ⟨A2, c2, rfl, h2⟩ := k
  have HC := hide (l07Code_any st wa A c A2 c2 w h0 hs h1 h2)
  have HX := hide h1
  have HY := hide h2
  clear h1 h2
  by_cases hcd : codeWa st wa = 0
  case neg =>
    have HR := hide (show shortStations st wa = ([], codeWa st wa) by unfold shortStations; exact if_neg hcd)
    have hne : (codeWa st wa != 0) = true := by simp [hcd]
    generalize codeWa st wa = cd at *
    go_enter Try.func29, Try.ntmps29
    go_wp2_with (go_at_call 119; refine (HC.out).mono ?_; rintro e w' ⟨rfl, rfl⟩)
    go_ret2
    exact ⟨_, by rw [HR.out]; rfl, by rw [HR.out]; exact O_Int64S.nil _ _ _ _ _, Below.refl _ _⟩
  obtain ⟨hv, hwl, hwb⟩ := codeWa_ok hcd
  have HR := hide (show shortStations st wa = (shGo st wa, 0) by unfold shortStations; exact if_pos hcd)
  have HSB := hide (stock_bd hv)
  have HWB := hide hwb
  have hl10 := (stOk_of hv).2.2
  have HSL := hide (shGo_len hwl)
  have HSG := hide fun i s z (h1 : st[i]? = some s) (h2 : wa[i]? = some z) => shGo_get h1 h2
  have hwl1 : wa.length ≤ st.length := by omega
  have hwl2 : st.length ≤ wa.length := by omega
  rw [hcd] at HC
  clear hcd hv hwb hwl
  obtain ⟨i0, hi0, hz0, hs0, hb0⟩ := info_parts int64_info
  go_enter Try.func29, Try.ntmps29
  go_wp2_with (go_at_call 119; refine (HC.out).mono ?_; rintro e w' ⟨rfl, rfl⟩)
  have ho1 := own_new0 w w.heap.size 2 1 (Nat.le_refl _)
  have hb1 : Below w.heap.size w (w.alloc (.cells #[] 2)) := (Below.refl _ _).alloc (Nat.le_refl _) _
  go_loopg [7, 8] st.length (fun g s i wr => ∃ k : Nat, k ≤ st.length ∧ Hid (g = st.length - k) ∧ i = .int .i64 k ∧ wr.ownsRow w.heap.size 2 1 s k (((shGo st wa).take k).map (Value.int .i64)) ∧ Below w.heap.size w wr)
  case atStart => exact ⟨0, by omega, by simp [Hid], rfl, ho1, hb1⟩
  case round =>
    obtain ⟨n, hn, hg, rfl, hown, hb⟩ := hrel
    clear ho1 hb1
    by_cases hlt : n < st.length
    · obtain ⟨b1, o1, s1, rfl, hbb1, hs1, hc1⟩ := (HX.out.below hb).at_ hlt
      obtain ⟨b2, o2, w1, rfl, hbb2, hw1, hc2⟩ := (HY.out.below hb).at_ (show n < wa.length by omega)
      obtain ⟨hs1a, hs1b⟩ := HSB.out s1 (List.mem_of_getElem? hs1)
      obtain ⟨hw1a, hw1b⟩ := HWB.out w1 (List.mem_of_getElem? hw1)
      have HTK := hide (take_next' (HSG.out n s1 w1 hs1 hw1))
      have HMX := hide fun W => l00Max_any' 0 (w1 - s1) W
      generalize max 0 (w1 - s1) = mx at *
      have hnl : (n : Int) < st.length := by omega
      have hnw : (n : Int) < wa.length := by omega
      have hn0 : (0 : Int) ≤ (n : Int) := by omega
      have hsub : IntKind.i64.wrap (w1 - s1) = w1 - s1 := by rw [IntKind.wrap_i64] <;> omega
      have hszb := hb.size
      clear hs1 hw1
      go_wp2_with fail
      have hbd : Below w.heap.size w wr.drew := hb.drew
      have hod : wr.drew.ownsRow w.heap.size 2 1 u7 n (((shGo st wa).take n).map (Value.int .i64)) := hown
      have e0 : wr.drew.cell? ⟨b1, o1 + n, none⟩ = some (.int .i64 s1) := hc1
      have e1 : wr.drew.cell? ⟨b2, o2 + n, none⟩ = some (.int .i64 w1) := hc2
      refine wp_region_held_drew (S := fun W => W.cell? ⟨b1, o1 + n, none⟩ = some (.int .i64 s1) ∧ W.cell? ⟨b2, o2 + n, none⟩ = some (.int .i64 w1)) (by kernel_rfl) (⟨e0, e1⟩) (fun hHeld => ?_)
      clear hown hb hc1 hc2
      generalize wr.drew = wd at *
      have hszd := hbd.size
      refine wpAnyH_take (i := 0) (v := ?_) rfl (by kernel_rfl) (by kernel_rfl) (by kernel_rfl) (fun _ _ _ h => h) (Or.inl ⟨by rfl, ?_⟩) (by assumption) ?_
      rotate_left 1
      · (intro w hSw; (try dsimp only at hSw); go_simp; try with_reducible rfl)
      try simp only [Act.put, List.getElem_toArray, List.getElem_cons_succ, List.getElem_cons_zero, List.setIfInBounds_toArray, List.set_cons_zero, List.set_cons_succ]
      refine wpAnyH_take (i := 1) (v := ?_) rfl (by kernel_rfl) (by kernel_rfl) (by kernel_rfl) (fun _ _ _ h => h) (Or.inl ⟨by rfl, ?_⟩) (by assumption) ?_
      rotate_left 1
      · (intro w hSw; (try dsimp only at hSw); go_simp; try with_reducible rfl)
      try simp only [Act.put, List.getElem_toArray, List.getElem_cons_succ, List.getElem_cons_zero, List.setIfInBounds_toArray, List.set_cons_zero, List.set_cons_succ]
      refine wpAnyH_take (i := 2) (v := ?_) rfl (by kernel_rfl) (by kernel_rfl) (by kernel_rfl) (fun _ _ _ h => h) (Or.inl ⟨by rfl, ?_⟩) (by assumption) ?_
      rotate_left 1
      · (intro w hSw; (try dsimp only at hSw); go_simp; try with_reducible rfl)
      try simp only [Act.put, List.getElem_toArray, List.getElem_cons_succ, List.getElem_cons_zero, List.setIfInBounds_toArray, List.set_cons_zero, List.set_cons_succ]
      refine wpAnyH_take (i := 3) (v := ?_) rfl (by kernel_rfl) (by kernel_rfl) (by kernel_rfl) (fun _ _ _ h => h) (Or.inl ⟨by rfl, ?_⟩) (by assumption) ?_
      rotate_left 1
      · (intro w hSw; (try dsimp only at hSw); go_simp; try with_reducible rfl)
      try simp only [Act.put, List.getElem_toArray, List.getElem_cons_succ, List.getElem_cons_zero, List.setIfInBounds_toArray, List.set_cons_zero, List.set_cons_succ]
      refine wpAnyH_take (i := 4) (v := ?_) rfl (by kernel_rfl) (by kernel_rfl) (by kernel_rfl) (fun _ _ _ h => h) (Or.inl ⟨by rfl, ?_⟩) (by assumption) ?_
      rotate_left 1
      · (intro w hSw; (try dsimp only at hSw); go_simp; try with_reducible rfl)
      try simp only [Act.put, List.getElem_toArray, List.getElem_cons_succ, List.getElem_cons_zero, List.setIfInBounds_toArray, List.set_cons_zero, List.set_cons_succ]
      refine wpAnyH_take (i := 5) (v := ?_) rfl (by kernel_rfl) (by kernel_rfl) (by kernel_rfl) (fun _ _ _ h => h) (Or.inl ⟨by rfl, ?_⟩) (by assumption) ?_
      rotate_left 1
      · (intro w hSw; (try dsimp only at hSw); go_simp; try with_reducible rfl)
      try simp only [Act.put, List.getElem_toArray, List.getElem_cons_succ, List.getElem_cons_zero, List.setIfInBounds_toArray, List.set_cons_zero, List.set_cons_succ]
      refine wpAnyH_take (i := 6) (v := ?_) rfl (by kernel_rfl) (by kernel_rfl) (by kernel_rfl) (fun _ _ _ h => h) (Or.inl ⟨by rfl, ?_⟩) (by assumption) ?_
      rotate_left 1
      · (intro w hSw; (try dsimp only at hSw); go_simp; try with_reducible rfl)
      try simp only [Act.put, List.getElem_toArray, List.getElem_cons_succ, List.getElem_cons_zero, List.setIfInBounds_toArray, List.set_cons_zero, List.set_cons_succ]
      refine wpAnyH_take (i := 7) (v := ?_) rfl (by kernel_rfl) (by kernel_rfl) (by kernel_rfl) (fun _ _ _ h => h) (Or.inl ⟨by rfl, ?_⟩) (by assumption) ?_
      rotate_left 1
      · (intro w hSw; (try dsimp only at hSw); go_simp; try with_reducible rfl)
      try simp only [Act.put, List.getElem_toArray, List.getElem_cons_succ, List.getElem_cons_zero, List.setIfInBounds_toArray, List.set_cons_zero, List.set_cons_succ]
      refine wpAnyH_take (i := 8) (v := ?_) rfl (by kernel_rfl) (by kernel_rfl) (by kernel_rfl) (fun _ _ _ h => h) (Or.inl ⟨by rfl, ?_⟩) (by assumption) ?_
      rotate_left 1
      · (intro w hSw; (try dsimp only at hSw); go_simp; try with_reducible rfl)
      try simp only [Act.put, List.getElem_toArray, List.getElem_cons_succ, List.getElem_cons_zero, List.setIfInBounds_toArray, List.set_cons_zero, List.set_cons_succ]
      refine wpAnyH_take (i := 9) (v := ?_) rfl (by kernel_rfl) (by kernel_rfl) (by kernel_rfl) (fun _ _ _ h => h) (Or.inl ⟨by rfl, ?_⟩) (by assumption) ?_
      rotate_left 1
      · (intro w hSw; (try dsimp only at hSw); go_simp; try with_reducible rfl)
      try simp only [Act.put, List.getElem_toArray, List.getElem_cons_succ, List.getElem_cons_zero, List.setIfInBounds_toArray, List.set_cons_zero, List.set_cons_succ]
      refine wpAnyH_ready (rs := [10]) (by kernel_rfl) (by simp) ?_
      refine AllReadyH.cons rfl (fun K hK => ?_) AllReadyH.nil
      try simp only [Act.put, List.getElem_toArray, List.getElem_cons_succ, List.getElem_cons_zero, List.setIfInBounds_toArray, List.set_cons_zero, List.set_cons_succ]
      go_simp
      go_at_call 122
      refine (HMX.out _).mono ?_
      rintro e w' ⟨rfl, rfl⟩
      dsimp only
      refine hK.out _ _ (⟨e0, e1⟩) (fun hHeld => ?_)
      clear hK K
      try simp only [Act.put, List.getElem_toArray, List.getElem_cons_succ, List.getElem_cons_zero, List.setIfInBounds_toArray, List.set_cons_zero, List.set_cons_succ]
      refine wpAnyH_ready (rs := [11]) (by kernel_rfl) (by simp) ?_
      refine AllReadyH.cons rfl (fun K hK => ?_) AllReadyH.nil
      try simp only [Act.put, List.getElem_toArray, List.getElem_cons_succ, List.getElem_cons_zero, List.setIfInBounds_toArray, List.set_cons_zero, List.set_cons_succ]
      go_simp
      have f0 : (wd.alloc (.cells #[.int .i64 mx] 2)).cell? ⟨b1, o1 + n, none⟩ = some (.int .i64 s1) := (World.cell?_alloc_old _ _ _ (by dsimp only; omega)).trans e0
      have f1 : (wd.alloc (.cells #[.int .i64 mx] 2)).cell? ⟨b2, o2 + n, none⟩ = some (.int .i64 w1) := (World.cell?_alloc_old _ _ _ (by dsimp only; omega)).trans e1
      refine hK.out _ _ (⟨f0, f1⟩) (fun hHeld => ?_)
      clear hK K
      try simp only [Act.put, List.getElem_toArray, List.getElem_cons_succ, List.getElem_cons_zero, List.setIfInBounds_toArray, List.set_cons_zero, List.set_cons_succ]
      have hba := hbd.alloc hszd (.cells #[.int .i64 mx] 2)
      have hoa := hod.alloc (.cells #[.int .i64 mx] 2)
      have hrd := rd_new wd [.int .i64 mx] 2 _ rfl
      refine wpAnyH_ready (rs := [12]) (by kernel_rfl) (by simp) ?_
      refine AllReadyH.cons rfl (fun K hK => ?_) AllReadyH.nil
      try simp only [Act.put, List.getElem_toArray, List.getElem_cons_succ, List.getElem_cons_zero, List.setIfInBounds_toArray, List.set_cons_zero, List.set_cons_succ]
      rw [if_pos (by rfl)]
      refine op_app' _ _ _ 22 rfl w.heap.size 2 i0 (.int .i64 0) 1 8 Try.underlying22 hi0 hz0 hs0 hb0 rfl (by decide) _ _ _ rfl hoa _ _ 1 1 [.int .i64 mx] rfl rfl hrd (int_one _) (by omega) (by decide) hba.size ?_
      intro v2 w2 hown2 hgrow hat
      have hb2 := app_below hba hoa hgrow (Nat.le_refl _) hba.size
      have hk2 : ∀ b o u, (wd.alloc (.cells #[.int .i64 mx] 2)).cell? ⟨b, o, none⟩ = some u → b < w.heap.size → w2.cell? ⟨b, o, none⟩ = some u := fun b o u h hb => by
        rw [World.cell?_of_block (a := ⟨b, o, none⟩) (hgrow.block b (by have := hba.size; omega) fun e => by have := (hoa.lt b e.symm).1; omega)]; exact h
      have g0 := hk2 _ _ _ f0 hbb1
      have g1 := hk2 _ _ _ f1 hbb2
      dsimp only
      refine hK.out _ _ (⟨g0, g1⟩) (fun hHeld => ?_)
      clear hK K
      try simp only [Act.put, List.getElem_toArray, List.getElem_cons_succ, List.getElem_cons_zero, List.setIfInBounds_toArray, List.set_cons_zero, List.set_cons_succ]
      refine wpAnyH_take (i := 13) (v := ?_) rfl (by kernel_rfl) (by kernel_rfl) (by kernel_rfl) (fun _ _ _ h => h) (Or.inl ⟨by rfl, ?_⟩) (by assumption) ?_
      rotate_left 1
      · (intro w hSw; (try dsimp only at hSw); go_simp; try with_reducible rfl)
      try simp only [Act.put, List.getElem_toArray, List.getElem_cons_succ, List.getElem_cons_zero, List.setIfInBounds_toArray, List.set_cons_zero, List.set_cons_succ]
      refine wpAnyH_done (by kernel_rfl) ?_ _
      clear e0 e1 f0 f1 g0 g1 hk2
      go_wp2_with fail
      go_roundg (st.length - (n + 1))
      case measure => have := hg.out; omega
      case rel => exact ⟨n + 1, by omega, rfl, by go_num, by rw [HTK.out, List.map_append]; exact hown2, hb2⟩
    · obtain rfl : n = st.length := by omega
      rw [List.take_of_length_le (by rw [HSL.out]; omega)] at hown
      obtain ⟨Ao, co, hsh, hnc, _⟩ := own_shape hown
      subst hsh
      go_wp2_with fail
      go_ret2
      refine ⟨_, by rw [HR.out]; rfl, ?_, hb⟩
      rw [HR.out]
      have hO : O_Int64S wr w.heap.size wr.heap.size (.slice Ao st.length co) (shGo st wa) := OwnV.of_row (by rw [HSL.out]; exact hown) (by rw [HSL.out]; omega)
      exact hO
set_option maxRecDepth 100000 in
set_option maxHeartbeats 8000000 in
theorem balance_any (st wa : List Int) (A : Option Addr) (c : Nat) (A2 : Option Addr) (c2 : Nat) (w : World) (hcd : codeWa st wa = 0) (h1 : RdI w w.heap.size A st) (h2 : RdI w w.heap.size A2 wa) :
    Calls Try.prog 126 #[.slice A st.length c, .slice A2 wa.length c2] w fun e w' => ∃ A3 c3 A4 c4, e = .returned (.tuple #[.slice A3 st.length c3, .slice A4 st.length c4]) ∧ w'.ownsRow w.heap.size 2 1 (.slice A3 st.length c3) st.length ((shGo st wa).map (Value.int .i64)) ∧ w'.ownsRow w.heap.size 2 1 (.slice A4 st.length c4) st.length ((moGo st wa).map (Value.int .i64)) ∧ Apart (.slice A3 st.length c3) (.slice A4 st.length c4) ∧ Below w.heap.size w w' := by
  have HX := hide h1
  have HY := hide h2
  clear h1 h2
  obtain ⟨hv, hwl, hwb⟩ := codeWa_ok hcd
  have HSB := hide (stock_bd hv)
  have HWB := hide hwb
  have hl10 := (stOk_of hv).2.2
  have HSL := hide (shGo_len hwl)
  have HML := hide (moGo_len hwl)
  have HSG := hide fun i s z (h1 : st[i]? = some s) (h2 : wa[i]? = some z) => shGo_get h1 h2
  have HMG := hide fun i s z (h1 : st[i]? = some s) (h2 : wa[i]? = some z) => moGo_get h1 h2
  have hwl1 : wa.length ≤ st.length := by omega
  have hwl2 : st.length ≤ wa.length := by omega
  clear hcd hv hwb hwl
  obtain ⟨i0, hi0, hz0, hs0, hb0⟩ := info_parts int64_info
  go_enter Try.func126, Try.ntmps126
  go_wp2_with fail
  have ho1 := (own_new0 w w.heap.size 2 1 (Nat.le_refl _)).alloc (.cells #[] 2)
  have ho2 : ((w.alloc (.cells #[] 2)).alloc (.cells #[] 2)).ownsRow w.heap.size 2 1 (.slice (some ⟨w.heap.size + 1, 0, none⟩) 0 0) 0 [] := by
    have := own_new0 (w.alloc (.cells #[] 2)) w.heap.size 2 1 (by simp)
    simpa using this
  have hb1 : Below w.heap.size w ((w.alloc (.cells #[] 2)).alloc (.cells #[] 2)) := (by repeat (first | exact Below.refl _ _ | assumption | (refine Below.alloc ?_ (by simp <;> omega) _) | refine Below.drew ?_ | refine bdn ?_ _))
  have hap : Apart (.slice (some ⟨w.heap.size, 0, none⟩) 0 0) (.slice (some ⟨w.heap.size + 1, 0, none⟩) 0 0) := by right; simp [Value.ownBlock]
  go_loopg [6, 7, 14] st.length (fun g s t i wr => ∃ k : Nat, k ≤ st.length ∧ Hid (g = st.length - k) ∧ i = .int .i64 k ∧ wr.ownsRow w.heap.size 2 1 s k (((shGo st wa).take k).map (Value.int .i64)) ∧ wr.ownsRow w.heap.size 2 1 t k (((moGo st wa).take k).map (Value.int .i64)) ∧ Hid (Apart s t) ∧ Below w.heap.size w wr)
  case atStart => exact ⟨0, by omega, by simp [Hid], rfl, ho1, ho2, hap, hb1⟩
  case round =>
    obtain ⟨n, hn, hg, rfl, hown, hown7, HAP, hb⟩ := hrel
    clear ho1 ho2 hb1 hap
    by_cases hlt : n < st.length
    · obtain ⟨b1, o1, s1, rfl, hbb1, hs1, hc1⟩ := (HX.out.below hb).at_ hlt
      obtain ⟨b2, o2, w1, rfl, hbb2, hw1, hc2⟩ := (HY.out.below hb).at_ (show n < wa.length by omega)
      obtain ⟨hs1a, hs1b⟩ := HSB.out s1 (List.mem_of_getElem? hs1)
      obtain ⟨hw1a, hw1b⟩ := HWB.out w1 (List.mem_of_getElem? hw1)
      have HTK := hide (take_next' (HSG.out n s1 w1 hs1 hw1))
      have HTM := hide (take_next' (HMG.out n s1 w1 hs1 hw1))
      have hnl : (n : Int) < st.length := by omega
      have hnw : (n : Int) < wa.length := by omega
      have hn0 : (0 : Int) ≤ (n : Int) := by omega
      have hsub1 : IntKind.i64.wrap (w1 - s1) = w1 - s1 := by rw [IntKind.wrap_i64] <;> omega
      have hsub2 : IntKind.i64.wrap (s1 - w1) = s1 - w1 := by rw [IntKind.wrap_i64] <;> omega
      clear hs1 hw1
      go_wp2_with fail
      have hbd : Below w.heap.size w wr.drew := hb.drew
      have hod : wr.drew.ownsRow w.heap.size 2 1 u6 n (((shGo st wa).take n).map (Value.int .i64)) := hown
      have hod7 : wr.drew.ownsRow w.heap.size 2 1 u7 n (((moGo st wa).take n).map (Value.int .i64)) := hown7
      have e0 : wr.drew.cell? ⟨b1, o1 + n, none⟩ = some (.int .i64 s1) := hc1
      have e1 : wr.drew.cell? ⟨b2, o2 + n, none⟩ = some (.int .i64 w1) := hc2
      refine wp_region_held_drew (S := fun W => W.cell? ⟨b1, o1 + n, none⟩ = some (.int .i64 s1) ∧ W.cell? ⟨b2, o2 + n, none⟩ = some (.int .i64 w1)) (by kernel_rfl) (⟨e0, e1⟩) (fun hHeld => ?_)
      clear hown hown7 hb hc1 hc2
      generalize wr.drew = wd at *
      have hszd := hbd.size
      refine wpAnyH_take (i := 0) (v := ?_) rfl (by kernel_rfl) (by kernel_rfl) (by kernel_rfl) (fun _ _ _ h => h) (Or.inl ⟨by rfl, ?_⟩) (by assumption) ?_
      rotate_left 1
      · (intro w hSw; (try dsimp only at hSw); go_simp; try with_reducible rfl)
      try simp only [Act.put, List.getElem_toArray, List.getElem_cons_succ, List.getElem_cons_zero, List.setIfInBounds_toArray, List.set_cons_zero, List.set_cons_succ]
      refine wpAnyH_take (i := 1) (v := ?_) rfl (by kernel_rfl) (by kernel_rfl) (by kernel_rfl) (fun _ _ _ h => h) (Or.inl ⟨by rfl, ?_⟩) (by assumption) ?_
      rotate_left 1
      · (intro w hSw; (try dsimp only at hSw); go_simp; try with_reducible rfl)
      try simp only [Act.put, List.getElem_toArray, List.getElem_cons_succ, List.getElem_cons_zero, List.setIfInBounds_toArray, List.set_cons_zero, List.set_cons_succ]
      refine wpAnyH_take (i := 2) (v := ?_) rfl (by kernel_rfl) (by kernel_rfl) (by kernel_rfl) (fun _ _ _ h => h) (Or.inl ⟨by rfl, ?_⟩) (by assumption) ?_
      rotate_left 1
      · (intro w hSw; (try dsimp only at hSw); go_simp; try with_reducible rfl)
      try simp only [Act.put, List.getElem_toArray, List.getElem_cons_succ, List.getElem_cons_zero, List.setIfInBounds_toArray, List.set_cons_zero, List.set_cons_succ]
      refine wpAnyH_take (i := 3) (v := ?_) rfl (by kernel_rfl) (by kernel_rfl) (by kernel_rfl) (fun _ _ _ h => h) (Or.inl ⟨by rfl, ?_⟩) (by assumption) ?_
      rotate_left 1
      · (intro w hSw; (try dsimp only at hSw); go_simp; try with_reducible rfl)
      try simp only [Act.put, List.getElem_toArray, List.getElem_cons_succ, List.getElem_cons_zero, List.setIfInBounds_toArray, List.set_cons_zero, List.set_cons_succ]
      refine wpAnyH_take (i := 4) (v := ?_) rfl (by kernel_rfl) (by kernel_rfl) (by kernel_rfl) (fun _ _ _ h => h) (Or.inl ⟨by rfl, ?_⟩) (by assumption) ?_
      rotate_left 1
      · (intro w hSw; (try dsimp only at hSw); go_simp; try with_reducible rfl)
      try simp only [Act.put, List.getElem_toArray, List.getElem_cons_succ, List.getElem_cons_zero, List.setIfInBounds_toArray, List.set_cons_zero, List.set_cons_succ]
      refine wpAnyH_take (i := 5) (v := ?_) rfl (by kernel_rfl) (by kernel_rfl) (by kernel_rfl) (fun _ _ _ h => h) (Or.inl ⟨by rfl, ?_⟩) (by assumption) ?_
      rotate_left 1
      · (intro w hSw; (try dsimp only at hSw); go_simp; try with_reducible rfl)
      try simp only [Act.put, List.getElem_toArray, List.getElem_cons_succ, List.getElem_cons_zero, List.setIfInBounds_toArray, List.set_cons_zero, List.set_cons_succ]
      refine wpAnyH_take (i := 6) (v := ?_) rfl (by kernel_rfl) (by kernel_rfl) (by kernel_rfl) (fun _ _ _ h => h) (Or.inl ⟨by rfl, ?_⟩) (by assumption) ?_
      rotate_left 1
      · (intro w hSw; (try dsimp only at hSw); go_simp; try with_reducible rfl)
      try simp only [Act.put, List.getElem_toArray, List.getElem_cons_succ, List.getElem_cons_zero, List.setIfInBounds_toArray, List.set_cons_zero, List.set_cons_succ]
      refine wpAnyH_take (i := 7) (v := ?_) rfl (by kernel_rfl) (by kernel_rfl) (by kernel_rfl) (fun _ _ _ h => h) (Or.inl ⟨by rfl, ?_⟩) (by assumption) ?_
      rotate_left 1
      · (intro w hSw; (try dsimp only at hSw); go_simp; try with_reducible rfl)
      try simp only [Act.put, List.getElem_toArray, List.getElem_cons_succ, List.getElem_cons_zero, List.setIfInBounds_toArray, List.set_cons_zero, List.set_cons_succ]
      refine wpAnyH_take (i := 10) (v := ?_) rfl (by kernel_rfl) (by kernel_rfl) (by kernel_rfl) (fun _ _ _ h => h) (Or.inl ⟨by rfl, ?_⟩) (by assumption) ?_
      rotate_left 1
      · (intro w hSw; (try dsimp only at hSw); go_simp; try with_reducible rfl)
      try simp only [Act.put, List.getElem_toArray, List.getElem_cons_succ, List.getElem_cons_zero, List.setIfInBounds_toArray, List.set_cons_zero, List.set_cons_succ]
      refine wpAnyH_take (i := 11) (v := ?_) rfl (by kernel_rfl) (by kernel_rfl) (by kernel_rfl) (fun _ _ _ h => h) (Or.inl ⟨by rfl, ?_⟩) (by assumption) ?_
      rotate_left 1
      · (intro w hSw; (try dsimp only at hSw); go_simp; try with_reducible rfl)
      try simp only [Act.put, List.getElem_toArray, List.getElem_cons_succ, List.getElem_cons_zero, List.setIfInBounds_toArray, List.set_cons_zero, List.set_cons_succ]
      refine wpAnyH_take (i := 12) (v := ?_) rfl (by kernel_rfl) (by kernel_rfl) (by kernel_rfl) (fun _ _ _ h => h) (Or.inl ⟨by rfl, ?_⟩) (by assumption) ?_
      rotate_left 1
      · (intro w hSw; (try dsimp only at hSw); go_simp; try with_reducible rfl)
      try simp only [Act.put, List.getElem_toArray, List.getElem_cons_succ, List.getElem_cons_zero, List.setIfInBounds_toArray, List.set_cons_zero, List.set_cons_succ]
      refine wpAnyH_take (i := 13) (v := ?_) rfl (by kernel_rfl) (by kernel_rfl) (by kernel_rfl) (fun _ _ _ h => h) (Or.inl ⟨by rfl, ?_⟩) (by assumption) ?_
      rotate_left 1
      · (intro w hSw; (try dsimp only at hSw); go_simp; try with_reducible rfl)
      try simp only [Act.put, List.getElem_toArray, List.getElem_cons_succ, List.getElem_cons_zero, List.setIfInBounds_toArray, List.set_cons_zero, List.set_cons_succ]
      refine wpAnyH_take (i := 14) (v := ?_) rfl (by kernel_rfl) (by kernel_rfl) (by kernel_rfl) (fun _ _ _ h => h) (Or.inl ⟨by rfl, ?_⟩) (by assumption) ?_
      rotate_left 1
      · (intro w hSw; (try dsimp only at hSw); go_simp; try with_reducible rfl)
      try simp only [Act.put, List.getElem_toArray, List.getElem_cons_succ, List.getElem_cons_zero, List.setIfInBounds_toArray, List.set_cons_zero, List.set_cons_succ]
      refine wpAnyH_take (i := 15) (v := ?_) rfl (by kernel_rfl) (by kernel_rfl) (by kernel_rfl) (fun _ _ _ h => h) (Or.inl ⟨by rfl, ?_⟩) (by assumption) ?_
      rotate_left 1
      · (intro w hSw; (try dsimp only at hSw); go_simp; try with_reducible rfl)
      try simp only [Act.put, List.getElem_toArray, List.getElem_cons_succ, List.getElem_cons_zero, List.setIfInBounds_toArray, List.set_cons_zero, List.set_cons_succ]
      refine wpAnyH_take (i := 16) (v := ?_) rfl (by kernel_rfl) (by kernel_rfl) (by kernel_rfl) (fun _ _ _ h => h) (Or.inl ⟨by rfl, ?_⟩) (by assumption) ?_
      rotate_left 1
      · (intro w hSw; (try dsimp only at hSw); go_simp; try with_reducible rfl)
      try simp only [Act.put, List.getElem_toArray, List.getElem_cons_succ, List.getElem_cons_zero, List.setIfInBounds_toArray, List.set_cons_zero, List.set_cons_succ]
      refine wpAnyH_take (i := 17) (v := ?_) rfl (by kernel_rfl) (by kernel_rfl) (by kernel_rfl) (fun _ _ _ h => h) (Or.inl ⟨by rfl, ?_⟩) (by assumption) ?_
      rotate_left 1
      · (intro w hSw; (try dsimp only at hSw); go_simp; try with_reducible rfl)
      try simp only [Act.put, List.getElem_toArray, List.getElem_cons_succ, List.getElem_cons_zero, List.setIfInBounds_toArray, List.set_cons_zero, List.set_cons_succ]
      have hm6 : (if w1 - s1 < 0 then (0 : Int) else w1 - s1) = max 0 (w1 - s1) := by split <;> omega
      have hm7 : (if s1 - w1 < 0 then (0 : Int) else s1 - w1) = max 0 (s1 - w1) := by split <;> omega
      rw [← hm6] at HTK
      rw [← hm7] at HTM
      generalize (if w1 - s1 < 0 then (0 : Int) else w1 - s1) = m6 at *
      generalize (if s1 - w1 < 0 then (0 : Int) else s1 - w1) = m7 at *
      clear hm6 hm7
      have hold6 : ∀ g, u6.ownBlock = some g → g < wd.heap.size := fun g e => (hod.lt g e).2
      have hold7 : ∀ g, u7.ownBlock = some g → g < wd.heap.size := fun g e => (hod7.lt g e).2
      refine wpAnyH_ready (rs := [8, 18]) (by kernel_rfl) (by simp) ?_
      refine AllReadyH.cons rfl (fun K hK => ?_) (AllReadyH.cons rfl (fun K hK => ?_) AllReadyH.nil)
      · try simp only [Act.put, List.getElem_toArray, List.getElem_cons_succ, List.getElem_cons_zero, List.setIfInBounds_toArray, List.set_cons_zero, List.set_cons_succ]
        go_simp
        have f10 : (wd.alloc (.cells #[.int .i64 m6] 2)).cell? ⟨b1, o1 + n, none⟩ = some (.int .i64 s1) := (World.cell?_alloc_old _ _ _ (by dsimp only; omega)).trans e0
        have f11 : (wd.alloc (.cells #[.int .i64 m6] 2)).cell? ⟨b2, o2 + n, none⟩ = some (.int .i64 w1) := (World.cell?_alloc_old _ _ _ (by dsimp only; omega)).trans e1
        have k1 : (wd.alloc (.cells #[.int .i64 m6] 2)).cell? ⟨wd.heap.size, 0, none⟩ = some (.int .i64 m6) := by simp [go_sem]
        have y1 : wd.heap.size < (wd.alloc (.cells #[.int .i64 m6] 2)).heap.size := by simp
        have s1p : wd.heap.size = wd.heap.size := rfl
        have bb1 := hbd.alloc hbd.size (.cells #[.int .i64 m6] 2)
        have p61 := hod.alloc (.cells #[.int .i64 m6] 2)
        have p71 := hod7.alloc (.cells #[.int .i64 m6] 2)
        have zz1 := bb1.size
        refine hK.out _ _ (⟨f10, f11⟩) (fun hHeld => ?_)
        clear hK K
        try simp only [Act.put, List.getElem_toArray, List.getElem_cons_succ, List.getElem_cons_zero, List.setIfInBounds_toArray, List.set_cons_zero, List.set_cons_succ]
        clear s1p
        have hl1 : ∃ l, l = wd.heap.size := ⟨_, rfl⟩
        generalize hx1 : (wd.alloc (.cells #[.int .i64 m6] 2)) = x1 at *
        clear hl1 hx1
        refine wpAnyH_ready (rs := [9, 18]) (by kernel_rfl) (by simp) ?_
        refine AllReadyH.cons rfl (fun K hK => ?_) (AllReadyH.cons rfl (fun K hK => ?_) AllReadyH.nil)
        · try simp only [Act.put, List.getElem_toArray, List.getElem_cons_succ, List.getElem_cons_zero, List.setIfInBounds_toArray, List.set_cons_zero, List.set_cons_succ]
          rw [if_pos (by rfl)]
          refine op_app' _ _ _ 22 rfl w.heap.size 2 i0 (.int .i64 0) 1 8 Try.underlying22 hi0 hz0 hs0 hb0 rfl (by decide) _ _ _ rfl p61 _ _ 1 1 [.int .i64 m6] rfl rfl (rd_one k1) (int_one _) (by omega) (by decide) bb1.size ?_
          intro v22 w22 own2 gr2 at2
          have gr2 : x1.grownBy w22 (u6).ownBlock := gr2
          have at2 : v22.ownBlock = (u6).ownBlock ∨ v22.ownBlock = some x1.heap.size := at2
          have bb2 := app_below bb1 p61 gr2 (Nat.le_refl _) bb1.size
          have hr2 : ∀ g, u6.ownBlock = some g → w.heap.size ≤ g := fun g e => (p61.lt g e).1
          have zz2 := bb2.size
          have zg2 := gr2.size
          have zb2 := bb1.size
          have f20 := app_cell f10 gr2 (by omega) (fun g e => by have := hr2 g e; omega)
          have f21 := app_cell f11 gr2 (by omega) (fun g e => by have := hr2 g e; omega)
          obtain ⟨q2, ap2⟩ := apart_app HAP.out.symm p71 gr2 at2
          dsimp only
          refine hK.out _ _ (⟨f20, f21⟩) (fun hHeld => ?_)
          clear hK K
          try simp only [Act.put, List.getElem_toArray, List.getElem_cons_succ, List.getElem_cons_zero, List.setIfInBounds_toArray, List.set_cons_zero, List.set_cons_succ]
          refine wpAnyH_ready (rs := [18]) (by kernel_rfl) (by simp) ?_
          refine AllReadyH.cons rfl (fun K hK => ?_) AllReadyH.nil
          try simp only [Act.put, List.getElem_toArray, List.getElem_cons_succ, List.getElem_cons_zero, List.setIfInBounds_toArray, List.set_cons_zero, List.set_cons_succ]
          go_simp
          have f30 : (w22.alloc (.cells #[.int .i64 m7] 2)).cell? ⟨b1, o1 + n, none⟩ = some (.int .i64 s1) := (World.cell?_alloc_old _ _ _ (by dsimp only; omega)).trans f20
          have f31 : (w22.alloc (.cells #[.int .i64 m7] 2)).cell? ⟨b2, o2 + n, none⟩ = some (.int .i64 w1) := (World.cell?_alloc_old _ _ _ (by dsimp only; omega)).trans f21
          have k3 : (w22.alloc (.cells #[.int .i64 m7] 2)).cell? ⟨w22.heap.size, 0, none⟩ = some (.int .i64 m7) := by simp [go_sem]
          have y3 : w22.heap.size < (w22.alloc (.cells #[.int .i64 m7] 2)).heap.size := by simp
          have s3p : w22.heap.size = w22.heap.size := rfl
          have bb3 := bb2.alloc bb2.size (.cells #[.int .i64 m7] 2)
          have p63 := own2.alloc (.cells #[.int .i64 m7] 2)
          have p73 := q2.alloc (.cells #[.int .i64 m7] 2)
          have zz3 := bb3.size
          refine hK.out _ _ (⟨f30, f31⟩) (fun hHeld => ?_)
          clear hK K
          try simp only [Act.put, List.getElem_toArray, List.getElem_cons_succ, List.getElem_cons_zero, List.setIfInBounds_toArray, List.set_cons_zero, List.set_cons_succ]
          clear s3p
          have hl3 : ∃ l, l = w22.heap.size := ⟨_, rfl⟩
          generalize hx3 : (w22.alloc (.cells #[.int .i64 m7] 2)) = x3 at *
          clear hl3 hx3
          refine wpAnyH_ready (rs := [19]) (by kernel_rfl) (by simp) ?_
          refine AllReadyH.cons rfl (fun K hK => ?_) AllReadyH.nil
          try simp only [Act.put, List.getElem_toArray, List.getElem_cons_succ, List.getElem_cons_zero, List.setIfInBounds_toArray, List.set_cons_zero, List.set_cons_succ]
          rw [if_pos (by rfl)]
          refine op_app' _ _ _ 22 rfl w.heap.size 2 i0 (.int .i64 0) 1 8 Try.underlying22 hi0 hz0 hs0 hb0 rfl (by decide) _ _ _ rfl p73 _ _ 1 1 [.int .i64 m7] rfl rfl (rd_one k3) (int_one _) (by omega) (by decide) bb3.size ?_
          intro v24 w24 own4 gr4 at4
          have gr4 : x3.grownBy w24 (u7).ownBlock := gr4
          have at4 : v24.ownBlock = (u7).ownBlock ∨ v24.ownBlock = some x3.heap.size := at4
          have bb4 := app_below bb3 p73 gr4 (Nat.le_refl _) bb3.size
          have hr4 : ∀ g, u7.ownBlock = some g → w.heap.size ≤ g := fun g e => (p73.lt g e).1
          have zz4 := bb4.size
          have zg4 := gr4.size
          have zb4 := bb3.size
          have f40 := app_cell f30 gr4 (by omega) (fun g e => by have := hr4 g e; omega)
          have f41 := app_cell f31 gr4 (by omega) (fun g e => by have := hr4 g e; omega)
          obtain ⟨q4, ap4⟩ := apart_app ap2.symm p63 gr4 at4
          dsimp only
          refine hK.out _ _ (⟨f40, f41⟩) (fun hHeld => ?_)
          clear hK K
          try simp only [Act.put, List.getElem_toArray, List.getElem_cons_succ, List.getElem_cons_zero, List.setIfInBounds_toArray, List.set_cons_zero, List.set_cons_succ]
          refine wpAnyH_take (i := 20) (v := ?_) rfl (by kernel_rfl) (by kernel_rfl) (by kernel_rfl) (fun _ _ _ h => h) (Or.inl ⟨by rfl, ?_⟩) (by assumption) ?_
          rotate_left 1
          · (intro w hSw; (try dsimp only at hSw); go_simp; try with_reducible rfl)
          try simp only [Act.put, List.getElem_toArray, List.getElem_cons_succ, List.getElem_cons_zero, List.setIfInBounds_toArray, List.set_cons_zero, List.set_cons_succ]
          refine wpAnyH_take (i := 21) (v := ?_) rfl (by kernel_rfl) (by kernel_rfl) (by kernel_rfl) (fun _ _ _ h => h) (Or.inl ⟨by rfl, ?_⟩) (by assumption) ?_
          rotate_left 1
          · (intro w hSw; (try dsimp only at hSw); go_simp; try with_reducible rfl)
          try simp only [Act.put, List.getElem_toArray, List.getElem_cons_succ, List.getElem_cons_zero, List.setIfInBounds_toArray, List.set_cons_zero, List.set_cons_succ]
          refine wpAnyH_done (by kernel_rfl) ?_ _
          clear f40 f41
          go_wp2_with fail
          go_roundg (st.length - (n + 1))
          case measure => have := hg.out; omega
          case rel => exact ⟨n + 1, by omega, rfl, by go_num, by rw [HTK.out, List.map_append]; exact q4, by rw [HTM.out, List.map_append]; exact own4, ap4, bb4⟩
        · try simp only [Act.put, List.getElem_toArray, List.getElem_cons_succ, List.getElem_cons_zero, List.setIfInBounds_toArray, List.set_cons_zero, List.set_cons_succ]
          go_simp
          have f50 : (x1.alloc (.cells #[.int .i64 m7] 2)).cell? ⟨b1, o1 + n, none⟩ = some (.int .i64 s1) := (World.cell?_alloc_old _ _ _ (by dsimp only; omega)).trans f10
          have f51 : (x1.alloc (.cells #[.int .i64 m7] 2)).cell? ⟨b2, o2 + n, none⟩ = some (.int .i64 w1) := (World.cell?_alloc_old _ _ _ (by dsimp only; omega)).trans f11
          have k5 : (x1.alloc (.cells #[.int .i64 m7] 2)).cell? ⟨x1.heap.size, 0, none⟩ = some (.int .i64 m7) := by simp [go_sem]
          have y5 : x1.heap.size < (x1.alloc (.cells #[.int .i64 m7] 2)).heap.size := by simp
          have s5p : x1.heap.size = x1.heap.size := rfl
          have k5m6 : (x1.alloc (.cells #[.int .i64 m7] 2)).cell? ⟨wd.heap.size, 0, none⟩ = some (.int .i64 m6) := (World.cell?_alloc_old _ _ _ (by dsimp only; omega)).trans k1
          have y5m6 : wd.heap.size < (x1.alloc (.cells #[.int .i64 m7] 2)).heap.size := Nat.lt_trans y1 y5
          have bb5 := bb1.alloc bb1.size (.cells #[.int .i64 m7] 2)
          have p65 := p61.alloc (.cells #[.int .i64 m7] 2)
          have p75 := p71.alloc (.cells #[.int .i64 m7] 2)
          have zz5 := bb5.size
          refine hK.out _ _ (⟨f50, f51⟩) (fun hHeld => ?_)
          clear hK K
          try simp only [Act.put, List.getElem_toArray, List.getElem_cons_succ, List.getElem_cons_zero, List.setIfInBounds_toArray, List.set_cons_zero, List.set_cons_succ]
          clear s5p
          have hl5 : ∃ l, l = x1.heap.size := ⟨_, rfl⟩
          generalize hx5 : (x1.alloc (.cells #[.int .i64 m7] 2)) = x5 at *
          clear hl5 hx5
          refine wpAnyH_ready (rs := [9]) (by kernel_rfl) (by simp) ?_
          refine AllReadyH.cons rfl (fun K hK => ?_) AllReadyH.nil
          try simp only [Act.put, List.getElem_toArray, List.getElem_cons_succ, List.getElem_cons_zero, List.setIfInBounds_toArray, List.set_cons_zero, List.set_cons_succ]
          rw [if_pos (by rfl)]
          refine op_app' _ _ _ 22 rfl w.heap.size 2 i0 (.int .i64 0) 1 8 Try.underlying22 hi0 hz0 hs0 hb0 rfl (by decide) _ _ _ rfl p65 _ _ 1 1 [.int .i64 m6] rfl rfl (rd_one k5m6) (int_one _) (by omega) (by decide) bb5.size ?_
          intro v26 w26 own6 gr6 at6
          have gr6 : x5.grownBy w26 (u6).ownBlock := gr6
          have at6 : v26.ownBlock = (u6).ownBlock ∨ v26.ownBlock = some x5.heap.size := at6
          have bb6 := app_below bb5 p65 gr6 (Nat.le_refl _) bb5.size
          have hr6 : ∀ g, u6.ownBlock = some g → w.heap.size ≤ g := fun g e => (p65.lt g e).1
          have zz6 := bb6.size
          have zg6 := gr6.size
          have zb6 := bb5.size
          have f60 := app_cell f50 gr6 (by omega) (fun g e => by have := hr6 g e; omega)
          have f61 := app_cell f51 gr6 (by omega) (fun g e => by have := hr6 g e; omega)
          have k6m7 := app_cell k5 gr6 y5 (fun g e => by have := hold6 g e; omega)
          obtain ⟨q6, ap6⟩ := apart_app HAP.out.symm p75 gr6 at6
          dsimp only
          refine hK.out _ _ (⟨f60, f61⟩) (fun hHeld => ?_)
          clear hK K
          try simp only [Act.put, List.getElem_toArray, List.getElem_cons_succ, List.getElem_cons_zero, List.setIfInBounds_toArray, List.set_cons_zero, List.set_cons_succ]
          refine wpAnyH_ready (rs := [19]) (by kernel_rfl) (by simp) ?_
          refine AllReadyH.cons rfl (fun K hK => ?_) AllReadyH.nil
          try simp only [Act.put, List.getElem_toArray, List.getElem_cons_succ, List.getElem_cons_zero, List.setIfInBounds_toArray, List.set_cons_zero, List.set_cons_succ]
          rw [if_pos (by rfl)]
          refine op_app' _ _ _ 22 rfl w.heap.size 2 i0 (.int .i64 0) 1 8 Try.underlying22 hi0 hz0 hs0 hb0 rfl (by decide) _ _ _ rfl q6 _ _ 1 1 [.int .i64 m7] rfl rfl (rd_one k6m7) (int_one _) (by omega) (by decide) bb6.size ?_
          intro v27 w27 own7 gr7 at7
          have gr7 : w26.grownBy w27 (u7).ownBlock := gr7
          have at7 : v27.ownBlock = (u7).ownBlock ∨ v27.ownBlock = some w26.heap.size := at7
          have bb7 := app_below bb6 q6 gr7 (Nat.le_refl _) bb6.size
          have hr7 : ∀ g, u7.ownBlock = some g → w.heap.size ≤ g := fun g e => (q6.lt g e).1
          have zz7 := bb7.size
          have zg7 := gr7.size
          have zb7 := bb6.size
          have f70 := app_cell f60 gr7 (by omega) (fun g e => by have := hr7 g e; omega)
          have f71 := app_cell f61 gr7 (by omega) (fun g e => by have := hr7 g e; omega)
          obtain ⟨q7, ap7⟩ := apart_app ap6.symm own6 gr7 at7
          dsimp only
          refine hK.out _ _ (⟨f70, f71⟩) (fun hHeld => ?_)
          clear hK K
          try simp only [Act.put, List.getElem_toArray, List.getElem_cons_succ, List.getElem_cons_zero, List.setIfInBounds_toArray, List.set_cons_zero, List.set_cons_succ]
          refine wpAnyH_take (i := 20) (v := ?_) rfl (by kernel_rfl) (by kernel_rfl) (by kernel_rfl) (fun _ _ _ h => h) (Or.inl ⟨by rfl, ?_⟩) (by assumption) ?_
          rotate_left 1
          · (intro w hSw; (try dsimp only at hSw); go_simp; try with_reducible rfl)
          try simp only [Act.put, List.getElem_toArray, List.getElem_cons_succ, List.getElem_cons_zero, List.setIfInBounds_toArray, List.set_cons_zero, List.set_cons_succ]
          refine wpAnyH_take (i := 21) (v := ?_) rfl (by kernel_rfl) (by kernel_rfl) (by kernel_rfl) (fun _ _ _ h => h) (Or.inl ⟨by rfl, ?_⟩) (by assumption) ?_
          rotate_left 1
          · (intro w hSw; (try dsimp only at hSw); go_simp; try with_reducible rfl)
          try simp only [Act.put, List.getElem_toArray, List.getElem_cons_succ, List.getElem_cons_zero, List.setIfInBounds_toArray, List.set_cons_zero, List.set_cons_succ]
          refine wpAnyH_done (by kernel_rfl) ?_ _
          clear f70 f71
          go_wp2_with fail
          go_roundg (st.length - (n + 1))
          case measure => have := hg.out; omega
          case rel => exact ⟨n + 1, by omega, rfl, by go_num, by rw [HTK.out, List.map_append]; exact q7, by rw [HTM.out, List.map_append]; exact own7, ap7, bb7⟩
      · try simp only [Act.put, List.getElem_toArray, List.getElem_cons_succ, List.getElem_cons_zero, List.setIfInBounds_toArray, List.set_cons_zero, List.set_cons_succ]
        go_simp
        have f80 : (wd.alloc (.cells #[.int .i64 m7] 2)).cell? ⟨b1, o1 + n, none⟩ = some (.int .i64 s1) := (World.cell?_alloc_old _ _ _ (by dsimp only; omega)).trans e0
        have f81 : (wd.alloc (.cells #[.int .i64 m7] 2)).cell? ⟨b2, o2 + n, none⟩ = some (.int .i64 w1) := (World.cell?_alloc_old _ _ _ (by dsimp only; omega)).trans e1
        have k8 : (wd.alloc (.cells #[.int .i64 m7] 2)).cell? ⟨wd.heap.size, 0, none⟩ = some (.int .i64 m7) := by simp [go_sem]
        have y8 : wd.heap.size < (wd.alloc (.cells #[.int .i64 m7] 2)).heap.size := by simp
        have s8p : wd.heap.size = wd.heap.size := rfl
        have bb8 := hbd.alloc hbd.size (.cells #[.int .i64 m7] 2)
        have p68 := hod.alloc (.cells #[.int .i64 m7] 2)
        have p78 := hod7.alloc (.cells #[.int .i64 m7] 2)
        have zz8 := bb8.size
        refine hK.out _ _ (⟨f80, f81⟩) (fun hHeld => ?_)
        clear hK K
        try simp only [Act.put, List.getElem_toArray, List.getElem_cons_succ, List.getElem_cons_zero, List.setIfInBounds_toArray, List.set_cons_zero, List.set_cons_succ]
        clear s8p
        have hl8 : ∃ l, l = wd.heap.size := ⟨_, rfl⟩
        generalize hx8 : (wd.alloc (.cells #[.int .i64 m7] 2)) = x8 at *
        clear hl8 hx8
        refine wpAnyH_ready (rs := [8]) (by kernel_rfl) (by simp) ?_
        refine AllReadyH.cons rfl (fun K hK => ?_) AllReadyH.nil
        try simp only [Act.put, List.getElem_toArray, List.getElem_cons_succ, List.getElem_cons_zero, List.setIfInBounds_toArray, List.set_cons_zero, List.set_cons_succ]
        go_simp
        have f90 : (x8.alloc (.cells #[.int .i64 m6] 2)).cell? ⟨b1, o1 + n, none⟩ = some (.int .i64 s1) := (World.cell?_alloc_old _ _ _ (by dsimp only; omega)).trans f80
        have f91 : (x8.alloc (.cells #[.int .i64 m6] 2)).cell? ⟨b2, o2 + n, none⟩ = some (.int .i64 w1) := (World.cell?_alloc_old _ _ _ (by dsimp only; omega)).trans f81
        have k9 : (x8.alloc (.cells #[.int .i64 m6] 2)).cell? ⟨x8.heap.size, 0, none⟩ = some (.int .i64 m6) := by simp [go_sem]
        have y9 : x8.heap.size < (x8.alloc (.cells #[.int .i64 m6] 2)).heap.size := by simp
        have s9p : x8.heap.size = x8.heap.size := rfl
        have k9m7 : (x8.alloc (.cells #[.int .i64 m6] 2)).cell? ⟨wd.heap.size, 0, none⟩ = some (.int .i64 m7) := (World.cell?_alloc_old _ _ _ (by dsimp only; omega)).trans k8
        have y9m7 : wd.heap.size < (x8.alloc (.cells #[.int .i64 m6] 2)).heap.size := Nat.lt_trans y8 y9
        have bb9 := bb8.alloc bb8.size (.cells #[.int .i64 m6] 2)
        have p69 := p68.alloc (.cells #[.int .i64 m6] 2)
        have p79 := p78.alloc (.cells #[.int .i64 m6] 2)
        have zz9 := bb9.size
        refine hK.out _ _ (⟨f90, f91⟩) (fun hHeld => ?_)
        clear hK K
        try simp only [Act.put, List.getElem_toArray, List.getElem_cons_succ, List.getElem_cons_zero, List.setIfInBounds_toArray, List.set_cons_zero, List.set_cons_succ]
        clear s9p
        have hl9 : ∃ l, l = x8.heap.size := ⟨_, rfl⟩
        generalize hx9 : (x8.alloc (.cells #[.int .i64 m6] 2)) = x9 at *
        clear hl9 hx9
        refine wpAnyH_ready (rs := [9]) (by kernel_rfl) (by simp) ?_
        refine AllReadyH.cons rfl (fun K hK => ?_) AllReadyH.nil
        try simp only [Act.put, List.getElem_toArray, List.getElem_cons_succ, List.getElem_cons_zero, List.setIfInBounds_toArray, List.set_cons_zero, List.set_cons_succ]
        rw [if_pos (by rfl)]
        refine op_app' _ _ _ 22 rfl w.heap.size 2 i0 (.int .i64 0) 1 8 Try.underlying22 hi0 hz0 hs0 hb0 rfl (by decide) _ _ _ rfl p69 _ _ 1 1 [.int .i64 m6] rfl rfl (rd_one k9) (int_one _) (by omega) (by decide) bb9.size ?_
        intro v30 w30 own10 gr10 at10
        have gr10 : x9.grownBy w30 (u6).ownBlock := gr10
        have at10 : v30.ownBlock = (u6).ownBlock ∨ v30.ownBlock = some x9.heap.size := at10
        have bb10 := app_below bb9 p69 gr10 (Nat.le_refl _) bb9.size
        have hr10 : ∀ g, u6.ownBlock = some g → w.heap.size ≤ g := fun g e => (p69.lt g e).1
        have zz10 := bb10.size
        have zg10 := gr10.size
        have zb10 := bb9.size
        have f100 := app_cell f90 gr10 (by omega) (fun g e => by have := hr10 g e; omega)
        have f101 := app_cell f91 gr10 (by omega) (fun g e => by have := hr10 g e; omega)
        have k10m7 := app_cell k9m7 gr10 y9m7 (fun g e => by have := hold6 g e; omega)
        obtain ⟨q10, ap10⟩ := apart_app HAP.out.symm p79 gr10 at10
        dsimp only
        refine hK.out _ _ (⟨f100, f101⟩) (fun hHeld => ?_)
        clear hK K
        try simp only [Act.put, List.getElem_toArray, List.getElem_cons_succ, List.getElem_cons_zero, List.setIfInBounds_toArray, List.set_cons_zero, List.set_cons_succ]
        refine wpAnyH_ready (rs := [19]) (by kernel_rfl) (by simp) ?_
        refine AllReadyH.cons rfl (fun K hK => ?_) AllReadyH.nil
        try simp only [Act.put, List.getElem_toArray, List.getElem_cons_succ, List.getElem_cons_zero, List.setIfInBounds_toArray, List.set_cons_zero, List.set_cons_succ]
        rw [if_pos (by rfl)]
        refine op_app' _ _ _ 22 rfl w.heap.size 2 i0 (.int .i64 0) 1 8 Try.underlying22 hi0 hz0 hs0 hb0 rfl (by decide) _ _ _ rfl q10 _ _ 1 1 [.int .i64 m7] rfl rfl (rd_one k10m7) (int_one _) (by omega) (by decide) bb10.size ?_
        intro v31 w31 own11 gr11 at11
        have gr11 : w30.grownBy w31 (u7).ownBlock := gr11
        have at11 : v31.ownBlock = (u7).ownBlock ∨ v31.ownBlock = some w30.heap.size := at11
        have bb11 := app_below bb10 q10 gr11 (Nat.le_refl _) bb10.size
        have hr11 : ∀ g, u7.ownBlock = some g → w.heap.size ≤ g := fun g e => (q10.lt g e).1
        have zz11 := bb11.size
        have zg11 := gr11.size
        have zb11 := bb10.size
        have f110 := app_cell f100 gr11 (by omega) (fun g e => by have := hr11 g e; omega)
        have f111 := app_cell f101 gr11 (by omega) (fun g e => by have := hr11 g e; omega)
        obtain ⟨q11, ap11⟩ := apart_app ap10.symm own10 gr11 at11
        dsimp only
        refine hK.out _ _ (⟨f110, f111⟩) (fun hHeld => ?_)
        clear hK K
        try simp only [Act.put, List.getElem_toArray, List.getElem_cons_succ, List.getElem_cons_zero, List.setIfInBounds_toArray, List.set_cons_zero, List.set_cons_succ]
        refine wpAnyH_take (i := 20) (v := ?_) rfl (by kernel_rfl) (by kernel_rfl) (by kernel_rfl) (fun _ _ _ h => h) (Or.inl ⟨by rfl, ?_⟩) (by assumption) ?_
        rotate_left 1
        · (intro w hSw; (try dsimp only at hSw); go_simp; try with_reducible rfl)
        try simp only [Act.put, List.getElem_toArray, List.getElem_cons_succ, List.getElem_cons_zero, List.setIfInBounds_toArray, List.set_cons_zero, List.set_cons_succ]
        refine wpAnyH_take (i := 21) (v := ?_) rfl (by kernel_rfl) (by kernel_rfl) (by kernel_rfl) (fun _ _ _ h => h) (Or.inl ⟨by rfl, ?_⟩) (by assumption) ?_
        rotate_left 1
        · (intro w hSw; (try dsimp only at hSw); go_simp; try with_reducible rfl)
        try simp only [Act.put, List.getElem_toArray, List.getElem_cons_succ, List.getElem_cons_zero, List.setIfInBounds_toArray, List.set_cons_zero, List.set_cons_succ]
        refine wpAnyH_done (by kernel_rfl) ?_ _
        clear f110 f111
        go_wp2_with fail
        go_roundg (st.length - (n + 1))
        case measure => have := hg.out; omega
        case rel => exact ⟨n + 1, by omega, rfl, by go_num, by rw [HTK.out, List.map_append]; exact q11, by rw [HTM.out, List.map_append]; exact own11, ap11, bb11⟩
    · obtain rfl : n = st.length := by omega
      rw [List.take_of_length_le (by rw [HSL.out]; omega)] at hown
      rw [List.take_of_length_le (by rw [HML.out]; omega)] at hown7
      obtain ⟨Ao, co, hsh, _, _⟩ := own_shape hown
      obtain ⟨Ap, cp, hsh7, _, _⟩ := own_shape hown7
      subst hsh hsh7
      have hap := HAP.out
      go_wp2_with fail
      go_ret2
      exact ⟨_, _, _, _, rfl, hown, hown7, hap, hb⟩
set_option maxRecDepth 100000 in
set_option maxHeartbeats 4000000 in
theorem P_ShortStations (st : List Int) (v : Value) (wa : List Int) (u : Value) (w : World) (h0 : st.length ≤ 1048576) (_ : ∀ z ∈ st, -9223372036854775808 ≤ z ∧ z ≤ 9223372036854775807) (h : R_Int64S w w.heap.size v st) (hs : wa.length ≤ 1048576) (_ : ∀ z ∈ wa, -9223372036854775808 ≤ z ∧ z ≤ 9223372036854775807) (k : R_Int64S w w.heap.size u wa) :
    Calls Try.prog 28 #[v, u] w fun e w' => ∃ r, e = .returned (.tuple #[r, .int .i64 (shortStations st wa).2]) ∧ O_Int64S w' w.heap.size w'.heap.size r (shortStations st wa).1 ∧ Below w.heap.size w w' := by
  obtain ⟨A, c, rfl, h1⟩ := h
  obtain ⟨A2, c2, rfl, h2⟩ := k
  have HC := hide (wantsCode_any st wa A c A2 c2 w h0 hs h1 h2)
  have HBL := hide fun (hcd : codeWa st wa = 0) W (hW : Below w.heap.size w W) => balance_any st wa A c A2 c2 W hcd ((h1.below hW).more hW.size) ((h2.below hW).more hW.size)
  clear h1 h2
  by_cases hcd : codeWa st wa = 0
  case neg =>
    have HR := hide (show shortStations st wa = ([], codeWa st wa) by unfold shortStations; exact if_neg hcd)
    have hne : (codeWa st wa != 0) = true := by simp [hcd]
    generalize codeWa st wa = cd at *
    go_enter Try.func28, Try.ntmps28
    go_wp2_with (go_at_call 124; refine (HC.out).mono ?_; rintro e w1 ⟨rfl, hb1⟩)
    go_ret2
    exact ⟨_, by rw [HR.out]; rfl, by rw [HR.out]; exact O_Int64S.nil _ _ _ _ _, hb1⟩
  obtain ⟨hv, hwl, _⟩ := codeWa_ok hcd
  have HR := hide (show shortStations st wa = (shGo st wa, 0) by unfold shortStations; exact if_pos hcd)
  have hl10 := (stOk_of hv).2.2
  have HSL := hide (shGo_len hwl)
  have HB := hide (HBL.out hcd)
  rw [hcd] at HC
  clear hcd hv hwl HBL
  go_enter Try.func28, Try.ntmps28
  go_wp2_with (first | (go_at_call 124; refine (HC.out).mono ?_; rintro e w1 ⟨rfl, hb1⟩) | (go_at_call 126; refine (HB.out _ hb1).mono ?_; rintro e w2 ⟨A3, c3, A4, c4, rfl, ho3, ho4, hap, hb2⟩))
  go_ret2
  refine ⟨_, by rw [HR.out]; rfl, ?_, hb1.trans (hb2.mono hb1.size)⟩
  rw [HR.out]
  have hO : O_Int64S w2 w.heap.size w2.heap.size (.slice A3 st.length c3) (shGo st wa) := OwnV.of_row (by rw [HSL.out]; exact own_base ho3 hb1.size) (by rw [HSL.out]; omega)
  exact hO
end Go.Proofs.Ytklfjekpeoigoaa
