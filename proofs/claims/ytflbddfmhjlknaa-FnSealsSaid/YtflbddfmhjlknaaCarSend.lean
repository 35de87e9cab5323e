/-
  Carriers are sent: one move, many moves; in the program and in the reference.
-/
import Derived.Test.YtflbddfmhjlknaaCarMove
namespace Go.Proofs.Ytflbddfmhjlknaa
open Go.RowKit

/-- One move: none if there are not enough carriers. -/
def send1 (zs : List Int) (m : T3) : Option (List Int) :=
  match zs[m.a.toNat]?, zs[m.b.toNat]? with
  | some za, some zb => if za < m.c then none else some ((zs.set m.a.toNat (za - m.c)).set m.b.toNat (zb + m.c))
  | _, _ => none
def sendCarriers (zs : List Int) (m : T3) : List Int × Int :=
  if vStock zs then (if okMove zs.length m then (match send1 zs m with | some r => (r, 0) | none => ([], 6)) else ([], 2)) else ([], 1)
def sendFrom : List Int → List T3 → Nat → List Int × Int
  | zs, [], _ => (zs, -1)
  | zs, m :: ms, k => match send1 zs m with | some zs' => sendFrom zs' ms (k + 1) | none => (zs, (k : Int))
def sendAll (zs : List Int) (ms : List T3) : List Int × Int × Int :=
  if vStock zs then (if vMoves zs.length ms then ((sendFrom zs ms 0).1, (sendFrom zs ms 0).2, 0) else ([], 0, 2)) else ([], 0, 1)
/-- What a stock of one's own keeps. -/
def StOk (zs : List Int) : Prop := (∀ z ∈ zs, 0 ≤ z) ∧ zs.sum ≤ 200
theorem le_sum {zs : List Int} (h : ∀ z ∈ zs, 0 ≤ z) : ∀ z ∈ zs, z ≤ zs.sum := by
  induction zs with
  | nil => intro z hz; cases hz
  | cons x xs ih =>
    intro z hz
    have h0 := h x (by simp)
    have hs : 0 ≤ xs.sum := by
      have hh : ∀ ys : List Int, (∀ y ∈ ys, 0 ≤ y) → 0 ≤ ys.sum := by
        intro ys; induction ys with
        | nil => intro _; simp
        | cons y ys ih => intro hy; have := ih (fun z hz => hy z (by simp [hz])); have := hy y (by simp); simp only [List.sum_cons]; omega
      exact hh xs (fun y hy => h y (by simp [hy]))
    rcases List.mem_cons.1 hz with rfl | hz
    · simp only [List.sum_cons]; omega
    · have := ih (fun y hy => h y (by simp [hy])) z hz; simp only [List.sum_cons]; omega
theorem sum_set {zs : List Int} : ∀ {i : Nat} {z v : Int}, zs[i]? = some z → (zs.set i v).sum = zs.sum - z + v := by
  induction zs with
  | nil => intro i z v h; simp at h
  | cons x xs ih =>
    intro i z v h
    cases i with
    | zero => simp at h; subst h; simp only [List.set_cons_zero, List.sum_cons]; omega
    | succ i => simp only [List.set_cons_succ, List.sum_cons]; rw [ih (by simpa using h)]; omega
theorem stOk_of {zs : List Int} (h : vStock zs = true) : StOk zs ∧ 2 ≤ zs.length ∧ zs.length ≤ 10 := by
  simp only [vStock, Bool.and_eq_true, List.all_eq_true, inB_iff, decide_eq_true_eq] at h
  exact ⟨⟨fun z hz => (h.1 z hz).1, h.2.2⟩, by omega, by omega⟩
theorem stOk_bd {zs : List Int} (h : StOk zs) {i : Nat} {z : Int} (hz : zs[i]? = some z) : 0 ≤ z ∧ z ≤ 200 := by
  have hm := List.mem_of_getElem? hz
  exact ⟨h.1 z hm, by have := le_sum h.1 z hm; have := h.2; omega⟩
theorem stOk_send {zs : List Int} {i j : Nat} {za zb c : Int} (h : StOk zs) (hza : zs[i]? = some za) (hzb : zs[j]? = some zb) (hij : i ≠ j) (hc : 1 ≤ c) (hle : c ≤ za) :
    StOk ((zs.set i (za - c)).set j (zb + c)) := by
  have h2 : (zs.set i (za - c))[j]? = some zb := by rw [List.getElem?_set_ne hij]; exact hzb
  refine ⟨fun z hz => ?_, by rw [sum_set h2, sum_set hza]; have := h.2; omega⟩
  have := (stOk_bd h hzb).1
  rcases List.mem_or_eq_of_mem_set hz with hz | rfl
  · rcases List.mem_or_eq_of_mem_set hz with hz | rfl
    · exact h.1 z hz
    · omega
  · omega
theorem send1_at {zs : List Int} {i j : Nat} {c za zb : Int} (hza : zs[i]? = some za) (hzb : zs[j]? = some zb) :
    send1 zs ⟨i, j, c⟩ = if za < c then none else some ((zs.set i (za - c)).set j (zb + c)) := by
  simp only [send1, Int.toNat_natCast, hza, hzb]
/-- A move's stations are places of the stock. -/
theorem move_at {zs : List Int} {m : T3} (h : okMove zs.length m = true) : ∃ (i j : Nat) (za zb : Int), m = ⟨i, j, m.c⟩ ∧ zs[i]? = some za ∧ zs[j]? = some zb ∧ i ≠ j ∧ 1 ≤ m.c ∧ m.c ≤ 200 := by
  obtain ⟨a, b, c⟩ := m
  rw [okMove_iff] at h
  obtain ⟨⟨h1, h2⟩, ⟨h3, h4⟩, h5, h6, h7⟩ := h
  dsimp only at *
  obtain ⟨i, rfl⟩ := Int.eq_ofNat_of_zero_le h1
  obtain ⟨j, rfl⟩ := Int.eq_ofNat_of_zero_le h3
  have hi : i < zs.length := by omega
  have hj : j < zs.length := by omega
  exact ⟨i, j, zs[i], zs[j], rfl, List.getElem?_eq_getElem hi, List.getElem?_eq_getElem hj, fun e => h5 (by rw [e]), h6, h7⟩
theorem O_int_of {w : World} {lo : Nat} {v : Value} {n : Nat} {zs : List Int} (h : w.ownsRow lo 2 1 v n (zs.map (Value.int .i64))) (hn : n ≤ 1048576) : O_Int64S w lo w.heap.size v zs := by
  have hl := h.1
  simp only [List.length_map, Nat.mul_one] at hl
  subst hl
  exact OwnV.of_row h hn
theorem own_len {w : World} {lo : Nat} {e : TypeId} {v : Value} {n m : Nat} {xs : List Value} (h : w.ownsRow lo e 1 v n xs) (hn : n = m) : w.ownsRow lo e 1 v m xs := by subst hn; exact h

set_option maxRecDepth 100000 in
set_option maxHeartbeats 4000000 in
theorem S_SendCarriers (zs : List Int) (v : Value) (m : T3) (w : World) (hs : zs.length ≤ 1048576) (_ : ∀ z ∈ zs, -9223372036854775808 ≤ z ∧ z ≤ 9223372036854775807) (h : R_Int64S w w.heap.size v zs) (_ : m.Fits) :
    Calls Try.prog 22 #[v, .agg #[.int .i64 m.a, .int .i64 m.b, .int .i64 m.c]] w fun e w' => ∃ r, e = .returned (.tuple #[r, .int .i64 (sendCarriers zs m).2]) ∧ O_Int64S w' w.heap.size w'.heap.size r (sendCarriers zs m).1 ∧ Below w.heap.size w w' := by
  obtain ⟨A, cA, rfl, h1⟩ := h
  have HX := hide h1; clear h1
  have hb0 : Below w.heap.size w (w.alloc (.cells #[.int .i64 m.a, .int .i64 m.b, .int .i64 m.c] 34)) := (Below.refl _ _).alloc (Nat.le_refl _) _
  have HV := hide fun W (hW : Below w.heap.size w W) => l07Ok_any zs A cA W hs ((HX.out.below hW).more hW.size)
  cases hv : vStock zs
  · rw [hv] at HV
    have HR := hide (show sendCarriers zs m = ([], 1) by simp [sendCarriers, hv])
    clear hv
    go_enter Try.func22, Try.ntmps22
    go_wp2_with (go_at_call 88; refine (HV.out _ hb0).mono ?_; rintro e w' ⟨rfl, rfl⟩)
    go_ret2
    exact ⟨_, by rw [HR.out]; rfl, by rw [HR.out]; exact O_Int64S.nil _ _ _ _ _, hb0⟩
  rw [hv] at HV
  obtain ⟨hst, hl2, hl10⟩ := stOk_of hv
  cases ho : okMove zs.length m
  · have HR := hide (show sendCarriers zs m = ([], 2) by simp [sendCarriers, hv, ho])
    have HO := hide ho
    clear hv ho hst
    go_enter Try.func22, Try.ntmps22
    go_wp2_with (first | (go_at_call 88; refine (HV.out _ hb0).mono ?_; rintro e w' ⟨rfl, rfl⟩) | (go_at_call 89; refine (l07Move_any (zs.length : Int) m w.heap.size 0 _ (by omega) (by omega) (by simp [go_sem]) (by simp [go_sem]) (by simp [go_sem])).mono ?_; rw [HO.out]; rintro e w1 ⟨rfl, hb1⟩; have hb2 := hb0.trans (hb1.mono hb0.size)))
    go_ret2
    exact ⟨_, by rw [HR.out]; rfl, by rw [HR.out]; exact O_Int64S.nil _ _ _ _ _, hb2⟩
  obtain ⟨i, j, za, zb, hm, hza, hzb, hij, hc1, hc2⟩ := move_at ho
  have HO := hide ho
  have hS := send1_at (c := m.c) hza hzb
  obtain ⟨ma, mb, mc⟩ := m
  simp only [T3.mk.injEq, and_true] at hm
  obtain ⟨rfl, rfl⟩ := hm
  dsimp only at *
  obtain ⟨hza1, hza2⟩ := stOk_bd hst hza
  obtain ⟨hzb1, hzb2⟩ := stOk_bd hst hzb
  have hi := lt_of_get hza
  have hj := lt_of_get hzb
  by_cases hlt : za < mc
  · have HR := hide (show sendCarriers zs ⟨i, j, mc⟩ = ([], 6) by simp [sendCarriers, hv, ho, hS, hlt])
    clear hv ho hst hS
    go_enter Try.func22, Try.ntmps22
    go_wp2_with (go_at_call 88; refine (HV.out _ hb0).mono ?_; rintro e w' ⟨rfl, rfl⟩)
    refine (l07Move_any (zs.length : Int) ⟨i, j, mc⟩ w.heap.size 0 _ (by omega) (by omega) (by simp [go_sem]) (by simp [go_sem]) (by simp [go_sem])).mono ?_
    rw [HO.out]
    rintro e w1 ⟨rfl, hb1⟩
    have hb2 := hb0.trans (hb1.mono hb0.size)
    go_wp2_with fail
    refine (l00Own_any zs A cA w1 hs ((HX.out.below hb2).more hb2.size)).mono ?_
    rintro e w2 ⟨A2, c2, rfl, ho2, hb3⟩
    have hb4 := hb2.trans (hb3.mono hb2.size)
    have hsz1 : w.heap.size + 1 ≤ w1.heap.size := by have := hb1.size; simpa using this
    have k0 : w2.cell? ⟨w.heap.size, 0, none⟩ = some (.int .i64 i) := by rw [hb3.cell (by dsimp only; omega), hb1.cell (by simp)]; simp [go_sem]
    have k1 : w2.cell? ⟨w.heap.size, 0 + 1, none⟩ = some (.int .i64 j) := by rw [hb3.cell (by dsimp only; omega), hb1.cell (by simp)]; simp [go_sem]
    have k2 : w2.cell? ⟨w.heap.size, 0 + 2, none⟩ = some (.int .i64 mc) := by rw [hb3.cell (by dsimp only; omega), hb1.cell (by simp)]; simp [go_sem]
    go_wp2_with fail
    refine (l07Send_f w1.heap.size zs A2 c2 i j mc za w.heap.size 0 w2 hza hs hlt ho2 k0 k1 k2).mono ?_
    rintro e w3 ⟨rfl, hb5⟩
    go_wp2_with fail
    go_ret2
    exact ⟨_, by rw [HR.out]; rfl, by rw [HR.out]; exact O_Int64S.nil _ _ _ _ _, hb4.trans (hb5.mono hb4.size)⟩
  · have HR := hide (show sendCarriers zs ⟨i, j, mc⟩ = ((zs.set i (za - mc)).set j (zb + mc), 0) by simp [sendCarriers, hv, ho, hS, hlt])
    have hle : mc ≤ za := by omega
    clear hv ho hst hS hlt
    go_enter Try.func22, Try.ntmps22
    go_wp2_with (go_at_call 88; refine (HV.out _ hb0).mono ?_; rintro e w' ⟨rfl, rfl⟩)
    refine (l07Move_any (zs.length : Int) ⟨i, j, mc⟩ w.heap.size 0 _ (by omega) (by omega) (by simp [go_sem]) (by simp [go_sem]) (by simp [go_sem])).mono ?_
    rw [HO.out]
    rintro e w1 ⟨rfl, hb1⟩
    have hb2 := hb0.trans (hb1.mono hb0.size)
    go_wp2_with fail
    refine (l00Own_any zs A cA w1 hs ((HX.out.below hb2).more hb2.size)).mono ?_
    rintro e w2 ⟨A2, c2, rfl, ho2, hb3⟩
    have hb4 := hb2.trans (hb3.mono hb2.size)
    have hsz1 : w.heap.size + 1 ≤ w1.heap.size := by have := hb1.size; simpa using this
    have k0 : w2.cell? ⟨w.heap.size, 0, none⟩ = some (.int .i64 i) := by rw [hb3.cell (by dsimp only; omega), hb1.cell (by simp)]; simp [go_sem]
    have k1 : w2.cell? ⟨w.heap.size, 0 + 1, none⟩ = some (.int .i64 j) := by rw [hb3.cell (by dsimp only; omega), hb1.cell (by simp)]; simp [go_sem]
    have k2 : w2.cell? ⟨w.heap.size, 0 + 2, none⟩ = some (.int .i64 mc) := by rw [hb3.cell (by dsimp only; omega), hb1.cell (by simp)]; simp [go_sem]
    go_wp2_with fail
    have hnp : ∀ g, A2 = some ⟨g, 0, none⟩ → w.heap.size ≠ g := fun g hg => by
      obtain ⟨g', hg', hge, _⟩ := own_pos' ho2 (by omega)
      rw [hg] at hg'; simp only [Option.some.injEq, Addr.mk.injEq, and_true] at hg'; omega
    refine (l07Send_t w1.heap.size zs A2 c2 i j mc za zb w.heap.size 0 w2 hza hzb hij hs hle hc1 (by omega) hzb1 (by omega) ho2 hnp k0 k1 k2).mono ?_
    rintro e w3 ⟨rfl, ho5, hg5⟩
    have hb5 : Below w.heap.size w w3 := hb4.grown hg5 (by have := hb4.size; omega) (fun g hg => by have := ho2.lt g hg; have := hb2.size; omega)
    go_wp2_with fail
    go_ret2
    refine ⟨_, by rw [HR.out]; rfl, ?_, hb5⟩
    rw [HR.out]
    exact (O_int_of ho5 hs).widen hb2.size (Nat.le_refl _)
set_option maxRecDepth 100000 in
set_option maxHeartbeats 4000000 in
theorem P_SendCarriers (zs : List Int) (v : Value) (m : T3) (w : World) (hs : zs.length ≤ 1048576) (_ : ∀ z ∈ zs, -9223372036854775808 ≤ z ∧ z ≤ 9223372036854775807) (h : R_Int64S w w.heap.size v zs) (_ : m.Fits) :
    Calls Try.prog 21 #[v, .agg #[.int .i64 m.a, .int .i64 m.b, .int .i64 m.c]] w fun e w' => ∃ r, e = .returned (.tuple #[r, .int .i64 (sendCarriers zs m).2]) ∧ O_Int64S w' w.heap.size w'.heap.size r (sendCarriers zs m).1 ∧ Below w.heap.size w w' := by
  obtain ⟨A, cA, rfl, h1⟩ := h
  have HX := hide h1; clear h1
  have hb0 : Below w.heap.size w (w.alloc (.cells #[.int .i64 m.a, .int .i64 m.b, .int .i64 m.c] 34)) := (Below.refl _ _).alloc (Nat.le_refl _) _
  have HV := hide fun W (hW : Below w.heap.size w W) => implValidStock_any zs A cA W hs ((HX.out.below hW).more hW.size)
  cases hv : vStock zs
  · rw [hv] at HV
    have HR := hide (show sendCarriers zs m = ([], 1) by simp [sendCarriers, hv])
    clear hv
    go_enter Try.func21, Try.ntmps21
    go_wp2_with (go_at_call 43; refine (HV.out _ hb0).mono ?_; rintro e w1 ⟨rfl, hb1⟩; have hb2 := hb0.trans (hb1.mono hb0.size); have hsz1 : w.heap.size + 1 ≤ w1.heap.size := by { have := hb1.size; simpa using this }; have k0 : w1.cell? ⟨w.heap.size, 0, none⟩ = some (.int .i64 m.a) := by { rw [hb1.cell (by simp)]; simp [go_sem] }; have k1 : w1.cell? ⟨w.heap.size, 1, none⟩ = some (.int .i64 m.b) := by { rw [hb1.cell (by simp)]; simp [go_sem] }; have k2 : w1.cell? ⟨w.heap.size, 2, none⟩ = some (.int .i64 m.c) := by { rw [hb1.cell (by simp)]; simp [go_sem] })
    go_ret2
    exact ⟨_, by rw [HR.out]; rfl, by rw [HR.out]; exact O_Int64S.nil _ _ _ _ _, hb2⟩
  rw [hv] at HV
  obtain ⟨hst, hl2, hl10⟩ := stOk_of hv
  cases ho : okMove zs.length m
  · have HR := hide (show sendCarriers zs m = ([], 2) by simp [sendCarriers, hv, ho])
    have HO := hide ho
    clear hv ho hst
    go_enter Try.func21, Try.ntmps21
    go_wp2_with (first | (go_at_call 43; refine (HV.out _ hb0).mono ?_; rintro e w1 ⟨rfl, hb1⟩; have hb2 := hb0.trans (hb1.mono hb0.size); have hsz1 : w.heap.size + 1 ≤ w1.heap.size := by { have := hb1.size; simpa using this }; have k0 : w1.cell? ⟨w.heap.size, 0, none⟩ = some (.int .i64 m.a) := by { rw [hb1.cell (by simp)]; simp [go_sem] }; have k1 : w1.cell? ⟨w.heap.size, 1, none⟩ = some (.int .i64 m.b) := by { rw [hb1.cell (by simp)]; simp [go_sem] }; have k2 : w1.cell? ⟨w.heap.size, 2, none⟩ = some (.int .i64 m.c) := by { rw [hb1.cell (by simp)]; simp [go_sem] }) | (go_at_call 86; refine (isMove_any (zs.length : Int) m _ (by omega) (by omega)).mono ?_; rw [HO.out]; rintro e w2 ⟨rfl, hb3⟩; have hb4 := hb2.trans (hb3.mono hb2.size)))
    go_ret2
    exact ⟨_, by rw [HR.out]; rfl, by rw [HR.out]; exact O_Int64S.nil _ _ _ _ _, hb4⟩
  obtain ⟨i, j, za, zb, hm, hza, hzb, hij, hc1, hc2⟩ := move_at ho
  have HO := hide ho
  have hS := send1_at (c := m.c) hza hzb
  obtain ⟨ma, mb, mc⟩ := m
  simp only [T3.mk.injEq, and_true] at hm
  obtain ⟨rfl, rfl⟩ := hm
  dsimp only at *
  obtain ⟨hza1, hza2⟩ := stOk_bd hst hza
  obtain ⟨hzb1, hzb2⟩ := stOk_bd hst hzb
  have hi := lt_of_get hza
  have hj := lt_of_get hzb
  by_cases hlt : za < mc
  · have HR := hide (show sendCarriers zs ⟨i, j, mc⟩ = ([], 6) by simp [sendCarriers, hv, ho, hS, hlt])
    clear hv ho hst hS
    go_enter Try.func21, Try.ntmps21
    go_wp2_with (go_at_call 43; refine (HV.out _ hb0).mono ?_; rintro e w1 ⟨rfl, hb1⟩; have hb2 := hb0.trans (hb1.mono hb0.size); have hsz1 : w.heap.size + 1 ≤ w1.heap.size := by { have := hb1.size; simpa using this }; have k0 : w1.cell? ⟨w.heap.size, 0, none⟩ = some (.int .i64 i) := by { rw [hb1.cell (by simp)]; simp [go_sem] }; have k1 : w1.cell? ⟨w.heap.size, 1, none⟩ = some (.int .i64 j) := by { rw [hb1.cell (by simp)]; simp [go_sem] }; have k2 : w1.cell? ⟨w.heap.size, 2, none⟩ = some (.int .i64 mc) := by { rw [hb1.cell (by simp)]; simp [go_sem] })
    refine (isMove_any (zs.length : Int) ⟨i, j, mc⟩ w1 (by omega) (by omega)).mono ?_
    rw [HO.out]
    rintro e w2 ⟨rfl, hb3⟩
    have hb4 := hb2.trans (hb3.mono hb2.size)
    have hsz2 := hb3.size
    replace k0 := (hb3.cell (p := ⟨w.heap.size, 0, none⟩) (by dsimp only; omega)).trans k0
    replace k1 := (hb3.cell (p := ⟨w.heap.size, 1, none⟩) (by dsimp only; omega)).trans k1
    replace k2 := (hb3.cell (p := ⟨w.heap.size, 2, none⟩) (by dsimp only; omega)).trans k2
    obtain ⟨bA, oA, za', rfl, hbA, hza', hcA⟩ := (HX.out.below hb4).at_ hi
    rw [hza] at hza'
    obtain rfl : za = za' := by injection hza'
    clear hza'
    have HZA := hide hza; have HZB := hide hzb; have HIJ := hide hij
    clear hza hzb hij
    go_wp2_with fail
    go_quiet (fail)
    go_wp2_with fail
    go_ret2
    exact ⟨_, by rw [HR.out]; rfl, by rw [HR.out]; exact O_Int64S.nil _ _ _ _ _, bdn hb4 _⟩
  · have HR := hide (show sendCarriers zs ⟨i, j, mc⟩ = ((zs.set i (za - mc)).set j (zb + mc), 0) by simp [sendCarriers, hv, ho, hS, hlt])
    have hle : mc ≤ za := by omega
    clear hv ho hst hS hlt
    go_enter Try.func21, Try.ntmps21
    go_wp2_with (go_at_call 43; refine (HV.out _ hb0).mono ?_; rintro e w1 ⟨rfl, hb1⟩; have hb2 := hb0.trans (hb1.mono hb0.size); have hsz1 : w.heap.size + 1 ≤ w1.heap.size := by { have := hb1.size; simpa using this }; have k0 : w1.cell? ⟨w.heap.size, 0, none⟩ = some (.int .i64 i) := by { rw [hb1.cell (by simp)]; simp [go_sem] }; have k1 : w1.cell? ⟨w.heap.size, 1, none⟩ = some (.int .i64 j) := by { rw [hb1.cell (by simp)]; simp [go_sem] }; have k2 : w1.cell? ⟨w.heap.size, 2, none⟩ = some (.int .i64 mc) := by { rw [hb1.cell (by simp)]; simp [go_sem] })
    refine (isMove_any (zs.length : Int) ⟨i, j, mc⟩ w1 (by omega) (by omega)).mono ?_
    rw [HO.out]
    rintro e w2 ⟨rfl, hb3⟩
    have hb4 := hb2.trans (hb3.mono hb2.size)
    have hsz2 := hb3.size
    replace k0 := (hb3.cell (p := ⟨w.heap.size, 0, none⟩) (by dsimp only; omega)).trans k0
    replace k1 := (hb3.cell (p := ⟨w.heap.size, 1, none⟩) (by dsimp only; omega)).trans k1
    replace k2 := (hb3.cell (p := ⟨w.heap.size, 2, none⟩) (by dsimp only; omega)).trans k2
    obtain ⟨bA, oA, za', rfl, hbA, hza', hcA⟩ := (HX.out.below hb4).at_ hi
    rw [hza] at hza'
    obtain rfl : za = za' := by injection hza'
    clear hza'
    have HZA := hide hza; have HZB := hide hzb; have HIJ := hide hij
    clear hza hzb hij
    go_wp2_with fail
    go_quiet (fail)
    go_wp2_with fail
    have hb5 : Below w.heap.size w (w2.drewN nq) := bdn hb4 nq
    have e0 : (w2.drewN nq).cell? ⟨w.heap.size, 0, none⟩ = _ := k0
    have e1 : (w2.drewN nq).cell? ⟨w.heap.size, 1, none⟩ = _ := k1
    have e2 : (w2.drewN nq).cell? ⟨w.heap.size, 2, none⟩ = _ := k2
    have hszq : w.heap.size + 1 ≤ (w2.drewN nq).heap.size := by show _ ≤ w2.heap.size; omega
    clear k0 k1 k2 hcA
    generalize w2.drewN nq = wq at *
    refine (cloneI_any zs _ cA wq hs ((HX.out.below hb5).more hb5.size)).mono ?_
    rintro e w3 ⟨A3, c3, rfl, ho3, hb6⟩
    obtain ⟨g, rfl, hgb, hgs⟩ := own_pos' ho3 (by omega)
    have hb7 := hb5.trans (hb6.mono hb5.size)
    replace e0 := (hb6.cell (p := ⟨w.heap.size, 0, none⟩) (by dsimp only; omega)).trans e0
    replace e1 := (hb6.cell (p := ⟨w.heap.size, 1, none⟩) (by dsimp only; omega)).trans e1
    replace e2 := (hb6.cell (p := ⟨w.heap.size, 2, none⟩) (by dsimp only; omega)).trans e2
    have hca := own_int_at ho3 HZA.out
    have hfa := ho3.frozenAt i
    have HO3 := hide ho3; clear ho3
    go_wp2_with fail
    go_still_tail 9, (by kernel_rfl)
    change wpList _ _ _ _ _ w3.drew
    have hb8 : Below w.heap.size w w3.drew := hb7.drew
    have HO4 : Hid (w3.drew.ownsRow wq.heap.size 2 1 (.slice (some ⟨g, 0, none⟩) zs.length c3) zs.length (zs.map (Value.int .i64))) := HO3.out
    have f0 : w3.drew.cell? ⟨w.heap.size, 0, none⟩ = _ := e0
    have f1 : w3.drew.cell? ⟨w.heap.size, 1, none⟩ = _ := e1
    have f2 : w3.drew.cell? ⟨w.heap.size, 2, none⟩ = _ := e2
    clear e0 e1 e2 hca hfa
    generalize w3.drew = wd at *
    have hca := own_int_at HO4.out HZA.out
    have hfa := HO4.out.frozenAt i
    have hs1 := own_int_set HO4.out i (za - mc)
    have HO5 := hide hs1.1
    have hb9 : Below w.heap.size w (wd.setCell ⟨g, i, none⟩ (.int .i64 (za - mc))) := hb8.setCell (by dsimp only; omega) _
    have hcb := own_int_at HO5.out (show (zs.set i (za - mc))[j]? = some zb by rw [List.getElem?_set_ne HIJ.out]; exact HZB.out)
    have hfb := HO5.out.frozenAt j
    have d0 := (World.cell?_setCell_other wd ⟨g, i, none⟩ ⟨w.heap.size, 0, none⟩ (.int .i64 (za - mc)) (fun e => by have := (Addr.mk.inj e).1; omega)).trans f0
    have d1 := (World.cell?_setCell_other wd ⟨g, i, none⟩ ⟨w.heap.size, 1, none⟩ (.int .i64 (za - mc)) (fun e => by have := (Addr.mk.inj e).1; omega)).trans f1
    have d2 := (World.cell?_setCell_other wd ⟨g, i, none⟩ ⟨w.heap.size, 2, none⟩ (.int .i64 (za - mc)) (fun e => by have := (Addr.mk.inj e).1; omega)).trans f2
    clear hs1
    go_wp2_with fail
    generalize wd.setCell ⟨g, i, none⟩ (.int .i64 (za - mc)) = we at *
    go_still_tail 9, (by kernel_rfl)
    change wpList _ _ _ _ _ we.drew
    have hb10 : Below w.heap.size w we.drew := hb9.drew
    have HO6 : Hid (we.drew.ownsRow wq.heap.size 2 1 (.slice (some ⟨g, 0, none⟩) zs.length c3) zs.length ((zs.set i (za - mc)).map (Value.int .i64))) := HO5.out
    clear hcb hfb f0 f1 f2 hca hfa d0 d1 d2
    generalize we.drew = wf at *
    have hcb := own_int_at HO6.out (show (zs.set i (za - mc))[j]? = some zb by rw [List.getElem?_set_ne HIJ.out]; exact HZB.out)
    have hfb := HO6.out.frozenAt j
    have hs2 := own_int_set HO6.out j (zb + mc)
    have HS2 := hide hs2
    clear hs2
    go_wp2_with fail
    go_ret2
    refine ⟨_, by rw [HR.out]; rfl, ?_, hb10.setCell (by dsimp only; omega) _⟩
    rw [HR.out]
    exact (O_int_of HS2.out.1 hs).widen hb5.size (Nat.le_refl _)
end Go.Proofs.Ytflbddfmhjlknaa
