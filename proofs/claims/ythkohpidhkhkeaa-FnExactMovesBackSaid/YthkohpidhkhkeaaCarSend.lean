/-
  Carriers are sent: one move, many moves; in the program and in the reference.
-/
import Derived.Test.YthkohpidhkhkeaaCarMove
namespace Go.Proofs.Ythkohpidhkhkeaa
open Go.RowKit

/-- One move: none if there are not enough carriers. -/
def send1 (zs : List Int) (m : T3) : Option (List Int) :=
  match zs[m.a.toNat]?, zs[m.b.toNat]? with
  | some za, some zb => if za < m.c then none else some ((zs.set m.a.toNat (za - m.c)).set m.b.toNat (zb + m.c))
  | _, _ => none
def sendCarriers (zs : List Int) (m : T3) : List Int × Int :=
  if vStock zs then (if okMove zs.length m then (match send1 zs m with | some r => (r, 0) | none => ([], 6)) else ([], 2)) else ([], 1)
def sendFrom : List Int → List T3 → Nat → List Int × Int
  | zs, [], _ => (zs, -1)
  | zs, m :: ms, k => match send1 zs m with | some zs' => sendFrom zs' ms (k + 1) | none => (zs, (k : Int))
def sendAll (zs : List Int) (ms : List T3) : List Int × Int × Int :=
  if vStock zs then (if vMoves zs.length ms then ((sendFrom zs ms 0).1, (sendFrom zs ms 0).2, 0) else ([], 0, 2)) else ([], 0, 1)
/-- What a stock of one's own keeps. -/
def StOk (zs : List Int) : Prop := (∀ z ∈ zs, 0 ≤ z) ∧ zs.sum ≤ 200
theorem le_sum {zs : List Int} (h : ∀ z ∈ zs, 0 ≤ z) : ∀ z ∈ zs, z ≤ zs.sum := by
  induction zs with
  | nil => intro z hz; cases hz
  | cons x xs ih =>
    intro z hz
    have h0 := h x (by simp)
    have hs : 0 ≤ xs.sum := by
      have hh : ∀ ys : List Int, (∀ y ∈ ys, 0 ≤ y) → 0 ≤ ys.sum := by
        intro ys; induction ys with
        | nil => intro _; simp
        | cons y ys ih => intro hy; have := ih (fun z hz => hy z (by simp [hz])); have := hy y (by simp); simp only [List.sum_cons]; omega
      exact hh xs (fun y hy => h y (by simp [hy]))
    rcases List.mem_cons.1 hz with rfl | hz
    · simp only [List.sum_cons]; omega
    · have := ih (fun y hy => h y (by simp [hy])) z hz; simp only [List.sum_cons]; omega
theorem sum_set {zs : List Int} : ∀ {i : Nat} {z v : Int}, zs[i]? = some z → (zs.set i v).sum = zs.sum - z + v := by
  induction zs with
  | nil => intro i z v h; simp at h
  | cons x xs ih =>
    intro i z v h
    cases i with
    | zero => simp at h; subst h; simp only [List.set_cons_zero, List.sum_cons]; omega
    | succ i => simp only [List.set_cons_succ, List.sum_cons]; rw [ih (by simpa using h)]; omega
theorem stOk_of {zs : List Int} (h : vStock zs = true) : StOk zs ∧ 2 ≤ zs.length ∧ zs.length ≤ 10 := by
  simp only [vStock, Bool.and_eq_true, List.all_eq_true, inB_iff, decide_eq_true_eq] at h
  exact ⟨⟨fun z hz => (h.1 z hz).1, h.2.2⟩, by omega, by omega⟩
theorem stOk_bd {zs : List Int} (h : StOk zs) {i : Nat} {z : Int} (hz : zs[i]? = some z) : 0 ≤ z ∧ z ≤ 200 := by
  have hm := List.mem_of_getElem? hz
  exact ⟨h.1 z hm, by have := le_sum h.1 z hm; have := h.2; omega⟩
theorem stOk_send {zs : List Int} {i j : Nat} {za zb c : Int} (h : StOk zs) (hza : zs[i]? = some za) (hzb : zs[j]? = some zb) (hij : i ≠ j) (hc : 1 ≤ c) (hle : c ≤ za) :
    StOk ((zs.set i (za - c)).set j (zb + c)) := by
  have h2 : (zs.set i (za - c))[j]? = some zb := by rw [List.getElem?_set_ne hij]; exact hzb
  refine ⟨fun z hz => ?_, by rw [sum_set h2, sum_set hza]; have := h.2; omega⟩
  have := (stOk_bd h hzb).1
  rcases List.mem_or_eq_of_mem_set hz with hz | rfl
  · rcases List.mem_or_eq_of_mem_set hz with hz | rfl
    · exact h.1 z hz
    · omega
  · omega
theorem send1_at {zs : List Int} {i j : Nat} {c za zb : Int} (hza : zs[i]? = some za) (hzb : zs[j]? = some zb) :
    send1 zs ⟨i, j, c⟩ = if za < c then none else some ((zs.set i (za - c)).set j (zb + c)) := by
  simp only [send1, Int.toNat_natCast, hza, hzb]
/-- A move's stations are places of the stock. -/
theorem move_at {zs : List Int} {m : T3} (h : okMove zs.length m = true) : ∃ (i j : Nat) (za zb : Int), m = ⟨i, j, m.c⟩ ∧ zs[i]? = some za ∧ zs[j]? = some zb ∧ i ≠ j ∧ 1 ≤ m.c ∧ m.c ≤ 200 := by
  obtain ⟨a, b, c⟩ := m
  rw [okMove_iff] at h
  obtain ⟨⟨h1, h2⟩, ⟨h3, h4⟩, h5, h6, h7⟩ := h
  dsimp only at *
  obtain ⟨i, rfl⟩ := Int.eq_ofNat_of_zero_le h1
  obtain ⟨j, rfl⟩ := Int.eq_ofNat_of_zero_le h3
  have hi : i < zs.length := by omega
  have hj : j < zs.length := by omega
  exact ⟨i, j, zs[i], zs[j], rfl, List.getElem?_eq_getElem hi, List.getElem?_eq_getElem hj, fun e => h5 (by rw [e]), h6, h7⟩
theorem O_int_of {w : World} {lo : Nat} {v : Value} {n : Nat} {zs : List Int} (h : w.ownsRow lo 2 1 v n (zs.map (Value.int .i64))) (hn : n ≤ 1048576) : O_Int64S w lo w.heap.size v zs := by
  have hl := h.1
  simp only [List.length_map, Nat.mul_one] at hl
  subst hl
  exact OwnV.of_row h hn
theorem own_len {w : World} {lo : Nat} {e : TypeId} {v : Value} {n m : Nat} {xs : List Value} (h : w.ownsRow lo e 1 v n xs) (hn : n = m) : w.ownsRow lo e 1 v m xs := by subst hn; exact h

end Go.Proofs.Ythkohpidhkhkeaa
