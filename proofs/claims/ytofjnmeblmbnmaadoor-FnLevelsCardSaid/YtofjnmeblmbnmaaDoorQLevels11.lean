/-
  Drawn moves.
  Contracts: a stock is valid, in the program and in the reference.
  Drawn stocks of carriers.
  Drawn arguments of SendCarriers.
  Stocks: the contracts of the reference and of the program in the laws' words.
  Moves of carriers: which moves are valid; one carrier's way is sent; in the program and in the reference.
  Carriers are sent: one move, many moves; in the program and in the reference.
  Costs between stations, and what moves cost; in the program and in the reference.
  Drawn costs between stations.
  What is wanted at stations is drawn; a stock and what is wanted.
  A stock and what is wanted, and what goes with them, are drawn.
  Zones: ticks, zones, levels and ways are drawn.
  Zones: changes are drawn and spoilt.
-/
import Derived.Test.YtofjnmeblmbnmaaDoorQLevels8
import Derived.Test.YtofjnmeblmbnmaaDoorQLevels0
import Derived.Test.YtofjnmeblmbnmaaDoorQLevels1
import Derived.Test.YtofjnmeblmbnmaaDoorQLevels7
import Derived.Deep.DeepCutAuto
import Derived.Deep.RegionHeld3
import Derived.Test.YtofjnmeblmbnmaaDoorQLevels10
namespace Go.Proofs.YtofjnmeblmbnmaaDoor
open Go.RowKit
theorem BoxN.c3 {w : World} {b : Nat} {x y z : Value} {e : TypeId} (h : BoxN w b #[x, y, z] e) : w.cell? ⟨b, 0, none⟩ = some x ∧ w.cell? ⟨b, 1, none⟩ = some y ∧ w.cell? ⟨b, 2, none⟩ = some z := ⟨h.cell 0, h.cell 1, h.cell 2⟩
def MvOk (n : Int) (m : T3) : Prop := (0 ≤ m.a ∧ m.a < n) ∧ (-1 ≤ m.b ∧ m.b ≤ n) ∧ -1 ≤ m.c ∧ m.c ≤ 201
theorem l00MaxM_any (a b : Int) (w : World) : Calls Tryd.prog 81 #[.int .i64 a, .int .i64 b] w fun e w' => e = .returned (.int .i64 (max a b)) ∧ w = w' := by
  by_cases h : b < a
  · have e := Int.max_eq_left (Int.le_of_lt h)
    rw [e]; clear e
    go_enter Tryd.func81, Tryd.ntmps81
    go_wp2
    go_ret
    exact ⟨rfl, rfl⟩
  · have e := Int.max_eq_right (Int.not_lt.1 h)
    rw [e]; clear e
    go_enter Tryd.func81, Tryd.ntmps81
    go_wp2
    go_ret
    exact ⟨rfl, rfl⟩
end Go.Proofs.YtofjnmeblmbnmaaDoor
namespace Go.Proofs.YtofjnmeblmbnmaaDoor
open Go.RowKit

/-- A valid stock. -/
def vStock (zs : List Int) : Bool := zs.all (inB 0 200) && (inB 2 10 zs.length && decide (zs.sum ≤ 200))

end Go.Proofs.YtofjnmeblmbnmaaDoor
namespace Go.Proofs.YtofjnmeblmbnmaaDoor
open Go.RowKit
theorem sum_le {xs : List Int} {B : Int} : (∀ z ∈ xs, 0 ≤ z ∧ z ≤ B) → 0 ≤ xs.sum ∧ xs.sum ≤ B * xs.length := by
  induction xs with
  | nil => intro _; simp
  | cons x xs ih =>
    intro h
    have h1 := h x (List.mem_cons_self ..)
    have h2 := ih fun z hz => h z (List.mem_cons_of_mem _ hz)
    rw [List.sum_cons, List.length_cons]
    have e : B * ((xs.length + 1 : Nat) : Int) = B * xs.length + B := by rw [Int.natCast_add, Int.mul_add]; simp
    omega
end Go.Proofs.YtofjnmeblmbnmaaDoor
namespace Go.Proofs.YtofjnmeblmbnmaaDoor
open Go.RowKit
end Go.Proofs.YtofjnmeblmbnmaaDoor
namespace Go.Proofs.YtofjnmeblmbnmaaDoor
open Go.RowKit

end Go.Proofs.YtofjnmeblmbnmaaDoor
namespace Go.Proofs.YtofjnmeblmbnmaaDoor
open Go.RowKit

def okMove (n : Int) (m : T3) : Bool := inB 0 (n - 1) m.a && (inB 0 (n - 1) m.b && (!decide (m.a = m.b) && inB 1 200 m.c))
theorem okMove_iff {n : Int} {m : T3} : okMove n m = true ↔ (0 ≤ m.a ∧ m.a ≤ n - 1) ∧ (0 ≤ m.b ∧ m.b ≤ n - 1) ∧ m.a ≠ m.b ∧ (1 ≤ m.c ∧ m.c ≤ 200) := by
  simp [okMove, inB]
def vMoves (n : Int) (ms : List T3) : Bool := ms.all (okMove n) && decide (ms.length ≤ 40)

set_option maxRecDepth 100000 in
set_option maxHeartbeats 1000000 in
theorem l00Own_any (xs : List Int) (A : Option Addr) (c : Nat) (w : World) (hx : xs.length ≤ 1048576) (h1 : RdI w w.heap.size A xs) :
    Calls Tryd.prog 113 #[.slice A xs.length c] w fun e w' => ∃ A' c', e = .returned (.slice A' xs.length c') ∧ w'.ownsRow w.heap.size 2 1 (.slice A' xs.length c') xs.length (xs.map (Value.int .i64)) ∧ Below w.heap.size w w' := by
  obtain ⟨i0, hi0, hz0, hs0, hb0⟩ := info_parts int64_info
  have HX := hide h1; clear h1
  go_enter Tryd.func113, Tryd.ntmps113
  have ho0 := own_new0 w w.heap.size 2 1 (Nat.le_refl _)
  have hb1 : Below w.heap.size w (w.alloc (.cells #[] 2)) := (Below.refl _ _).alloc (Nat.le_refl _) _
  have HR := hide (Rd.below HX.out hb1)
  go_wp2_with (at_builtin; go_must (refine wp_app _ rfl _ _ 44 rfl w.heap.size 2 i0 (.int .i64 0) 1 8 Tryd.underlying44 hi0 hz0 hs0 hb0 rfl (by decide) _ _ _ rfl ho0 _ _ xs.length c _ rfl (by simp) HR.out (ints_one _) (by omega) (by decide) (by simp) ?_); intro v' w1 hown' hgrow hat)
  go_ret
  simp only [Nat.zero_add, List.nil_append] at hown'
  obtain ⟨A', c', rfl, _⟩ := own_shape hown'
  exact ⟨A', c', rfl, hown', app_below hb1 ho0 hgrow (Nat.le_refl _) (by simp)⟩
theorem own_pos' {w : World} {base : Nat} {e : TypeId} {size n c : Nat} {A : Option Addr} {xs : List Value} (h : w.ownsRow base e size (.slice A n c) n xs) (hn : 0 < n) : ∃ g, A = some ⟨g, 0, none⟩ ∧ base ≤ g ∧ g < w.heap.size := by
  rcases own_block h with ⟨_, h0, _⟩ | ⟨g, hA, h1, h2⟩
  · omega
  · exact ⟨g, hA, h1, h2⟩
theorem own_int_at {w : World} {base : Nat} {e : TypeId} {n c g : Nat} {zs : List Int} (h : w.ownsRow base e 1 (.slice (some ⟨g, 0, none⟩) n c) n (zs.map (Value.int .i64))) {i : Nat} {z : Int} (hz : zs[i]? = some z) : w.cell? ⟨g, i, none⟩ = some (.int .i64 z) := by
  have hl := h.1
  have hi := lt_of_get hz
  simp only [List.length_map, Nat.mul_one] at hl
  rw [h.cellAt i (by omega), List.getElem?_map, hz]; rfl
theorem own_int_set {w : World} {base : Nat} {e : TypeId} {n c g : Nat} {zs : List Int} (h : w.ownsRow base e 1 (.slice (some ⟨g, 0, none⟩) n c) n (zs.map (Value.int .i64))) (i : Nat) (z : Int) :
    (w.setCell ⟨g, i, none⟩ (.int .i64 z)).ownsRow base e 1 (.slice (some ⟨g, 0, none⟩) n c) n ((zs.set i z).map (Value.int .i64)) ∧ w.grownBy (w.setCell ⟨g, i, none⟩ (.int .i64 z)) (some g) := by
  have := h.stored i (.int .i64 z)
  rw [← List.map_set] at this
  exact this
end Go.Proofs.YtofjnmeblmbnmaaDoor
namespace Go.Proofs.YtofjnmeblmbnmaaDoor
open Go.RowKit

/-- One move: none if there are not enough carriers. -/
def send1 (zs : List Int) (m : T3) : Option (List Int) :=
  match zs[m.a.toNat]?, zs[m.b.toNat]? with
  | some za, some zb => if za < m.c then none else some ((zs.set m.a.toNat (za - m.c)).set m.b.toNat (zb + m.c))
  | _, _ => none
def sendCarriers (zs : List Int) (m : T3) : List Int × Int :=
  if vStock zs then (if okMove zs.length m then (match send1 zs m with | some r => (r, 0) | none => ([], 6)) else ([], 2)) else ([], 1)
def sendFrom : List Int → List T3 → Nat → List Int × Int
  | zs, [], _ => (zs, -1)
  | zs, m :: ms, k => match send1 zs m with | some zs' => sendFrom zs' ms (k + 1) | none => (zs, (k : Int))
def sendAll (zs : List Int) (ms : List T3) : List Int × Int × Int :=
  if vStock zs then (if vMoves zs.length ms then ((sendFrom zs ms 0).1, (sendFrom zs ms 0).2, 0) else ([], 0, 2)) else ([], 0, 1)
/-- What a stock of one's own keeps. -/
def StOk (zs : List Int) : Prop := (∀ z ∈ zs, 0 ≤ z) ∧ zs.sum ≤ 200
theorem le_sum {zs : List Int} (h : ∀ z ∈ zs, 0 ≤ z) : ∀ z ∈ zs, z ≤ zs.sum := by
  induction zs with
  | nil => intro z hz; cases hz
  | cons x xs ih =>
    intro z hz
    have h0 := h x (by simp)
    have hs : 0 ≤ xs.sum := by
      have hh : ∀ ys : List Int, (∀ y ∈ ys, 0 ≤ y) → 0 ≤ ys.sum := by
        intro ys; induction ys with
        | nil => intro _; simp
        | cons y ys ih => intro hy; have := ih (fun z hz => hy z (by simp [hz])); have := hy y (by simp); simp only [List.sum_cons]; omega
      exact hh xs (fun y hy => h y (by simp [hy]))
    rcases List.mem_cons.1 hz with rfl | hz
    · simp only [List.sum_cons]; omega
    · have := ih (fun y hy => h y (by simp [hy])) z hz; simp only [List.sum_cons]; omega
theorem sum_set {zs : List Int} : ∀ {i : Nat} {z v : Int}, zs[i]? = some z → (zs.set i v).sum = zs.sum - z + v := by
  induction zs with
  | nil => intro i z v h; simp at h
  | cons x xs ih =>
    intro i z v h
    cases i with
    | zero => simp at h; subst h; simp only [List.set_cons_zero, List.sum_cons]; omega
    | succ i => simp only [List.set_cons_succ, List.sum_cons]; rw [ih (by simpa using h)]; omega
theorem stOk_of {zs : List Int} (h : vStock zs = true) : StOk zs ∧ 2 ≤ zs.length ∧ zs.length ≤ 10 := by
  simp only [vStock, Bool.and_eq_true, List.all_eq_true, inB_iff, decide_eq_true_eq] at h
  exact ⟨⟨fun z hz => (h.1 z hz).1, h.2.2⟩, by omega, by omega⟩
theorem stOk_bd {zs : List Int} (h : StOk zs) {i : Nat} {z : Int} (hz : zs[i]? = some z) : 0 ≤ z ∧ z ≤ 200 := by
  have hm := List.mem_of_getElem? hz
  exact ⟨h.1 z hm, by have := le_sum h.1 z hm; have := h.2; omega⟩
theorem stOk_send {zs : List Int} {i j : Nat} {za zb c : Int} (h : StOk zs) (hza : zs[i]? = some za) (hzb : zs[j]? = some zb) (hij : i ≠ j) (hc : 1 ≤ c) (hle : c ≤ za) :
    StOk ((zs.set i (za - c)).set j (zb + c)) := by
  have h2 : (zs.set i (za - c))[j]? = some zb := by rw [List.getElem?_set_ne hij]; exact hzb
  refine ⟨fun z hz => ?_, by rw [sum_set h2, sum_set hza]; have := h.2; omega⟩
  have := (stOk_bd h hzb).1
  rcases List.mem_or_eq_of_mem_set hz with hz | rfl
  · rcases List.mem_or_eq_of_mem_set hz with hz | rfl
    · exact h.1 z hz
    · omega
  · omega
theorem send1_at {zs : List Int} {i j : Nat} {c za zb : Int} (hza : zs[i]? = some za) (hzb : zs[j]? = some zb) :
    send1 zs ⟨i, j, c⟩ = if za < c then none else some ((zs.set i (za - c)).set j (zb + c)) := by
  simp only [send1, Int.toNat_natCast, hza, hzb]
/-- A move's stations are places of the stock. -/
theorem move_at {zs : List Int} {m : T3} (h : okMove zs.length m = true) : ∃ (i j : Nat) (za zb : Int), m = ⟨i, j, m.c⟩ ∧ zs[i]? = some za ∧ zs[j]? = some zb ∧ i ≠ j ∧ 1 ≤ m.c ∧ m.c ≤ 200 := by
  obtain ⟨a, b, c⟩ := m
  rw [okMove_iff] at h
  obtain ⟨⟨h1, h2⟩, ⟨h3, h4⟩, h5, h6, h7⟩ := h
  dsimp only at *
  obtain ⟨i, rfl⟩ := Int.eq_ofNat_of_zero_le h1
  obtain ⟨j, rfl⟩ := Int.eq_ofNat_of_zero_le h3
  have hi : i < zs.length := by omega
  have hj : j < zs.length := by omega
  exact ⟨i, j, zs[i], zs[j], rfl, List.getElem?_eq_getElem hi, List.getElem?_eq_getElem hj, fun e => h5 (by rw [e]), h6, h7⟩
theorem O_int_of {w : World} {lo : Nat} {v : Value} {n : Nat} {zs : List Int} (h : w.ownsRow lo 2 1 v n (zs.map (Value.int .i64))) (hn : n ≤ 1048576) : O_Int64S w lo w.heap.size v zs := by
  have hl := h.1
  simp only [List.length_map, Nat.mul_one] at hl
  subst hl
  exact OwnV.of_row h hn
theorem own_len {w : World} {lo : Nat} {e : TypeId} {v : Value} {n m : Nat} {xs : List Value} (h : w.ownsRow lo e 1 v n xs) (hn : n = m) : w.ownsRow lo e 1 v m xs := by subst hn; exact h

end Go.Proofs.YtofjnmeblmbnmaaDoor
namespace Go.Proofs.YtofjnmeblmbnmaaDoor
open Go.RowKit

def costRow (n : Int) (z : TN) : Bool := decide ((z.way.length : Int) = n) && z.way.all (inB 0 1000)
def vCosts (n : Int) (l : List TN) : Bool := decide ((l.length : Int) = n) && l.all (costRow n)
theorem costRow_iff {n : Int} {z : TN} : costRow n z = true ↔ (z.way.length : Int) = n ∧ ∀ u ∈ z.way, 0 ≤ u ∧ u ≤ 1000 := by
  unfold costRow
  rw [Bool.and_eq_true, decide_eq_true_eq, List.all_eq_true]
  constructor
  · intro h; exact ⟨h.1, fun u hu => inB_iff.1 (h.2 u hu)⟩
  · intro h; exact ⟨h.1, fun u hu => inB_iff.2 (h.2 u hu)⟩
theorem vCosts_iff {n : Int} {l : List TN} : vCosts n l = true ↔ (l.length : Int) = n ∧ ∀ z ∈ l, (z.way.length : Int) = n ∧ ∀ u ∈ z.way, 0 ≤ u ∧ u ≤ 1000 := by
  unfold vCosts
  rw [Bool.and_eq_true, decide_eq_true_eq, List.all_eq_true]
  constructor
  · intro h; exact ⟨h.1, fun u hu => costRow_iff.1 (h.2 u hu)⟩
  · intro h; exact ⟨h.1, fun u hu => costRow_iff.2 (h.2 u hu)⟩
def costAt (l : List TN) (i j : Int) : Int := (((l[i.toNat]?).map fun e => e.way).getD [])[j.toNat]?.getD 0
def coGo (l : List TN) : List T3 → Int → Int
  | [], s => s
  | m :: r, s => coGo l r (s + m.c * costAt l m.a m.b)
def costOfMoves (ms : List T3) (l : List TN) : Int × Int :=
  if inB 2 10 l.length = true ∧ vCosts l.length l = true then (if vMoves l.length ms = true then (coGo l ms 0, 0) else (0, 2)) else (0, 1)
theorem coGo_drop {l : List TN} {xs : List T3} {k : Nat} {m : T3} (h : xs[k]? = some m) (s : Int) : coGo l (xs.drop k) s = coGo l (xs.drop (k + 1)) (s + m.c * costAt l m.a m.b) := by rw [drop_cons h, coGo]
end Go.Proofs.YtofjnmeblmbnmaaDoor
namespace Go.Proofs.YtofjnmeblmbnmaaDoor
open Go.RowKit
theorem own_posN' {w : World} {base : Nat} {e : TypeId} {size n c : Nat} {A : Option Addr} {xs : List Value} (h : w.ownsRow base e size (.slice A n c) n xs) (hn : 0 < n) : ∃ g, A = some ⟨g, 0, none⟩ ∧ base ≤ g ∧ g < w.heap.size := by
  rcases own_block h with ⟨_, h0, _⟩ | ⟨g, hA, h1, h2⟩
  · omega
  · exact ⟨g, hA, h1, h2⟩
theorem Rd.drop' {w : World} {B b o : Nat} {xs : List Value} (h : Rd w B (some ⟨b, o, none⟩) xs) (k : Nat) : Rd w B (some ⟨b, o + k, none⟩) (xs.drop k) := fun hn => by
  have hl : k < xs.length := by
    rcases Nat.lt_or_ge k xs.length with h | h
    · exact h
    · rw [List.drop_eq_nil_of_le h] at hn; exact (hn rfl).elim
  obtain ⟨b', o', hA, hb, hc⟩ := h (by intro e; rw [e] at hl; simp at hl)
  cases hA
  refine ⟨b, o + k, rfl, hb, fun j v hj => ?_⟩
  rw [List.getElem?_drop] at hj
  rw [Nat.add_assoc]
  exact hc (k + j) v hj
/-- Rows of costs as they are drawn. -/
def CoRow (n : Nat) (e : TN) : Prop := e.way.length ≤ n ∧ (∀ z ∈ e.way, -1 ≤ z ∧ z ≤ 1001) ∧ e.p = 0 ∧ e.q = 0
theorem CoRow.fits {n : Nat} {e : TN} (h : CoRow n e) : e.Fits := ⟨fun z hz => by have := h.2.1 z hz; omega, by rw [h.2.2.1]; omega, by rw [h.2.2.2]; omega⟩
theorem co_small {n : Nat} (hn : n ≤ 11) : ∀ {l : List TN}, (∀ e ∈ l, CoRow n e) → (l.map fun e => e.way.length).sum ≤ 11 * l.length := by
  intro l
  induction l with
  | nil => intro _; simp
  | cons e l ih =>
    intro h
    rw [List.map_cons, List.sum_cons, List.length_cons]
    have h1 := (h e (List.mem_cons_self ..)).1
    have h2 := ih fun x hx => h x (List.mem_cons_of_mem _ hx)
    omega
end Go.Proofs.YtofjnmeblmbnmaaDoor
namespace Go.Proofs.YtofjnmeblmbnmaaDoor
open Go.RowKit
end Go.Proofs.YtofjnmeblmbnmaaDoor
namespace Go.Proofs.YtofjnmeblmbnmaaDoor
open Go.RowKit
theorem rdI_new {w W : World} {b : Nat} {xs : List Int} (hb : b < w.heap.size) (hW : Only b (b + 1) (w.alloc (.cells (xs.map (Value.int .i64)).toArray 2)) W) : RdI W W.heap.size (some ⟨w.heap.size, 0, none⟩) xs := fun _ => by
  have X := (BoxN.new w (xs.map (Value.int .i64)).toArray 2).only hW (.inr hb)
  refine ⟨w.heap.size, 0, rfl, X.lt, fun j u hj => ?_⟩
  rw [Nat.zero_add, X.cell]
  simpa using hj
theorem only_refl (lo hi : Nat) (w : World) : Only lo hi w w := only_of_below (Below.refl _ _)
end Go.Proofs.YtofjnmeblmbnmaaDoor
namespace Go.Proofs.YtofjnmeblmbnmaaDoor
open Go.RowKit
set_option maxRecDepth 100000 in
set_option maxHeartbeats 4000000 in
theorem drawTick_any (b : Nat) (bs : List Int) (N : Int) (w : World) (hbs : BsOk bs) (hN : N ≤ 1099509000000) (h : SrcAt b bs N w) :
    Calls Tryd.prog 72 #[.pointer (some ⟨b, 0, none⟩)] w fun e w' => ∃ z, e = .returned (.int .i64 z) ∧ (-9223372036854775808 ≤ z ∧ z ≤ 10001) ∧ SrcAt b bs (N + 4) w' ∧ Only b (b + 1) w w' := by
  have hbl := h.lt
  have HP := hide fun M n W (hM : M ≤ 1099511000000) (hW : SrcAt b bs M W) => pick_any b bs M n W hbs hM hW
  have HO1 := hide fun M n W (hM : M ≤ 1099511000000) (hW : SrcAt b bs M W) => one_any b bs M n W hbs hM hW
  have HAM := hide fun M g o c xs W (hM : M ≤ 1099511000000) (hW : SrcAt b bs M W) => among_any b bs M g o c xs W hbs hM hW
  have H0 := hide h
  clear h
  go_enter Tryd.func72, Tryd.ntmps72
  go_upto_if 4 with (go_at_call 56; (with_reducible refine (HO1.out N 10 _ (by omega) H0.out).mono ?_); rintro e w1 ⟨v, rfl, hs1, ho1⟩)
  have S1 := hide hs1
  have O1 := hide ho1
  have hz1 := ho1.size
  clear hs1 ho1 H0
  cases v
  · have HC := hide (HP.out (N + 2) 70 _ (by omega) S1.out)
    go_wp2_with (go_at_call 58; (with_reducible refine (HC.out).mono ?_); rintro e w2 ⟨z, rfl, ⟨hz0, hz1', _⟩, hs2, ho2⟩)
    go_ret
    have := hz1' (by omega)
    exact ⟨z, rfl, ⟨by omega, by omega⟩, hs2.more (by omega), only_trans O1.out ho2⟩
  · have S2 := hide (S1.out.alloc (.cells #[.int .i64 (-1), .int .i64 0, .int .i64 10000, .int .i64 10001, .int .i64 (-9223372036854775808)] 2))
    have ham : Calls Tryd.prog 57 #[.pointer (some ⟨b, 0, none⟩), .slice (some ⟨w1.heap.size, 0, none⟩) 5 5] (w1.alloc (.cells #[.int .i64 (-1), .int .i64 0, .int .i64 10000, .int .i64 10001, .int .i64 (-9223372036854775808)] 2)) fun e w' => ∃ z, e = .returned (.int .i64 z) ∧ z ∈ ([(-1), 0, 10000, 10001, (-9223372036854775808)] : List Int) ∧ SrcAt b bs (N + 2 + 2) w' ∧ Only b (b + 1) (w1.alloc (.cells #[.int .i64 (-1), .int .i64 0, .int .i64 10000, .int .i64 10001, .int .i64 (-9223372036854775808)] 2)) w' := HAM.out (N + 2) w1.heap.size 0 5 ([(-1), 0, 10000, 10001, (-9223372036854775808)] : List Int) _ (by omega) S2.out (by omega) (by simp) (by simp) (by simp) (fun j z hj => by
        match j, hj with
        | 0, hj => simp at hj; subst hj; simp [go_sem]
        | 1, hj => simp at hj; subst hj; simp [go_sem]
        | 2, hj => simp at hj; subst hj; simp [go_sem]
        | 3, hj => simp at hj; subst hj; simp [go_sem]
        | 4, hj => simp at hj; subst hj; simp [go_sem]
        | j + 5, hj => simp at hj)
    have H2 := hide ham
    clear ham
    have O2 := hide (only_alloc O1.out (.cells #[.int .i64 (-1), .int .i64 0, .int .i64 10000, .int .i64 10001, .int .i64 (-9223372036854775808)] 2))
    go_wp2_with (go_at_call 57; (with_reducible refine (H2.out).mono ?_); rintro e w2 ⟨z, rfl, hz, hs2, ho2⟩)
    go_ret
    have hzb : -9223372036854775808 ≤ z ∧ z ≤ 10001 := by simp at hz; omega
    exact ⟨z, rfl, hzb, hs2.more (by omega), only_trans O2.out ho2⟩
set_option maxRecDepth 100000 in
set_option maxHeartbeats 4000000 in
theorem drawLeast_any (b : Nat) (bs : List Int) (N : Int) (w : World) (hbs : BsOk bs) (hN : N ≤ 1099509000000) (h : SrcAt b bs N w) :
    Calls Tryd.prog 77 #[.pointer (some ⟨b, 0, none⟩)] w fun e w' => ∃ z, e = .returned (.int .i64 z) ∧ (-101 ≤ z ∧ z ≤ 101) ∧ SrcAt b bs (N + 4) w' ∧ Only b (b + 1) w w' := by
  have hbl := h.lt
  have HP := hide fun M n W (hM : M ≤ 1099511000000) (hW : SrcAt b bs M W) => pick_any b bs M n W hbs hM hW
  have HO1 := hide fun M n W (hM : M ≤ 1099511000000) (hW : SrcAt b bs M W) => one_any b bs M n W hbs hM hW
  have HAM := hide fun M g o c xs W (hM : M ≤ 1099511000000) (hW : SrcAt b bs M W) => among_any b bs M g o c xs W hbs hM hW
  have H0 := hide h
  clear h
  go_enter Tryd.func77, Tryd.ntmps77
  go_upto_if 4 with (go_at_call 56; (with_reducible refine (HO1.out N 10 _ (by omega) H0.out).mono ?_); rintro e w1 ⟨v, rfl, hs1, ho1⟩)
  have S1 := hide hs1
  have O1 := hide ho1
  have hz1 := ho1.size
  clear hs1 ho1 H0
  cases v
  · have HC := hide (HP.out (N + 2) 6 _ (by omega) S1.out)
    go_wp2_with (go_at_call 58; (with_reducible refine (HC.out).mono ?_); rintro e w2 ⟨z, rfl, ⟨hz0, hz1', _⟩, hs2, ho2⟩; have hz5 := hz1' (by omega); have hw1 : IntKind.i64.wrap (z - 2) = z - 2 := (by rw [IntKind.wrap_i64] <;> omega); have hw2 : IntKind.i64.wrap (10 * (z - 2)) = 10 * (z - 2) := (by rw [IntKind.wrap_i64] <;> omega); clear hz1')
    go_ret
    exact ⟨10 * (z - 2), rfl, ⟨by omega, by omega⟩, hs2.more (by omega), only_trans O1.out ho2⟩
  · have S2 := hide (S1.out.alloc (.cells #[.int .i64 (-101), .int .i64 (-100), .int .i64 100, .int .i64 101] 2))
    have ham : Calls Tryd.prog 57 #[.pointer (some ⟨b, 0, none⟩), .slice (some ⟨w1.heap.size, 0, none⟩) 4 4] (w1.alloc (.cells #[.int .i64 (-101), .int .i64 (-100), .int .i64 100, .int .i64 101] 2)) fun e w' => ∃ z, e = .returned (.int .i64 z) ∧ z ∈ ([(-101), (-100), 100, 101] : List Int) ∧ SrcAt b bs (N + 2 + 2) w' ∧ Only b (b + 1) (w1.alloc (.cells #[.int .i64 (-101), .int .i64 (-100), .int .i64 100, .int .i64 101] 2)) w' := HAM.out (N + 2) w1.heap.size 0 4 ([(-101), (-100), 100, 101] : List Int) _ (by omega) S2.out (by omega) (by simp) (by simp) (by simp) (fun j z hj => by
        match j, hj with
        | 0, hj => simp at hj; subst hj; simp [go_sem]
        | 1, hj => simp at hj; subst hj; simp [go_sem]
        | 2, hj => simp at hj; subst hj; simp [go_sem]
        | 3, hj => simp at hj; subst hj; simp [go_sem]
        | j + 4, hj => simp at hj)
    have H2 := hide ham
    clear ham
    have O2 := hide (only_alloc O1.out (.cells #[.int .i64 (-101), .int .i64 (-100), .int .i64 100, .int .i64 101] 2))
    go_wp2_with (go_at_call 57; (with_reducible refine (H2.out).mono ?_); rintro e w2 ⟨z, rfl, hz, hs2, ho2⟩)
    go_ret
    have hzb : -101 ≤ z ∧ z ≤ 101 := by simp at hz; omega
    exact ⟨z, rfl, hzb, hs2.more (by omega), only_trans O2.out ho2⟩
set_option maxRecDepth 100000 in
set_option maxHeartbeats 4000000 in
theorem drawZone_any (b : Nat) (bs : List Int) (N : Int) (zz : Int) (s1 s2 : Value) (bz : Nat) (w : World) (hbs : BsOk bs) (hN : N ≤ 1099509000000) (h : SrcAt b bs N w) (hx : BoxN w bz #[.int .i64 zz, s1, s2] 47) (hbz : bz ≠ b) (hzz : -1 ≤ zz ∧ zz ≤ 9) :
    Calls Tryd.prog 71 #[.pointer (some ⟨b, 0, none⟩), .pointer (some ⟨bz, 0, none⟩)] w fun e w' => ∃ z, e = .returned (.int .i64 z) ∧ (-1 ≤ z ∧ z ≤ 9) ∧ SrcAt b bs (N + 4) w' ∧ Only b (b + 1) w w' := by
  have hbl := h.lt
  have HP := hide fun M n W (hM : M ≤ 1099511000000) (hW : SrcAt b bs M W) => pick_any b bs M n W hbs hM hW
  have HO1 := hide fun M n W (hM : M ≤ 1099511000000) (hW : SrcAt b bs M W) => one_any b bs M n W hbs hM hW
  have HAM := hide fun M g o c xs W (hM : M ≤ 1099511000000) (hW : SrcAt b bs M W) => among_any b bs M g o c xs W hbs hM hW
  have H0 := hide h
  have X0 := hide hx
  obtain ⟨hzz0, hzz1⟩ := hzz
  have hxl := hx.lt
  clear h hx
  go_enter Tryd.func71, Tryd.ntmps71
  go_upto_if 6 with (go_at_call 56; (with_reducible refine (HO1.out N 12 _ (by omega) H0.out).mono ?_); rintro e w1 ⟨v, rfl, hs1, ho1⟩)
  have S1 := hide hs1
  have O1 := hide ho1
  have hz1 := ho1.size
  have X1 := hide (X0.out.only ho1 (by omega))
  have x1 : w1.cell? ⟨bz, 0, none⟩ = some (.int .i64 zz) := X1.out.cell 0
  clear hs1 ho1 H0 X0
  cases v
  · have HMX := hide fun W => l00MaxM_any 1 zz W
    have HC := hide (HP.out (N + 2) (max 1 zz) _ (by omega) S1.out)
    have hmx0 : 1 ≤ max 1 zz := by omega
    have hmx1 : max 1 zz ≤ 9 := by omega
    generalize max 1 zz = mx at *
    go_wp2_with (first | (go_at_call 81; (with_reducible refine (HMX.out _).mono ?_); rintro e w' ⟨rfl, rfl⟩) | (go_at_call 58; (with_reducible refine (HC.out).mono ?_); rintro e w2 ⟨z, rfl, ⟨hz0, hz1', _⟩, hs2, ho2⟩))
    go_ret
    have := hz1' hmx0
    exact ⟨z, rfl, ⟨by omega, by omega⟩, hs2.more (by omega), only_trans O1.out ho2⟩
  · have S2 := hide (S1.out.alloc (.cells #[.int .i64 (-1), .int .i64 zz] 2))
    have ham : Calls Tryd.prog 57 #[.pointer (some ⟨b, 0, none⟩), .slice (some ⟨w1.heap.size, 0, none⟩) 2 2] (w1.alloc (.cells #[.int .i64 (-1), .int .i64 zz] 2)) fun e w' => ∃ z, e = .returned (.int .i64 z) ∧ z ∈ ([(-1), zz] : List Int) ∧ SrcAt b bs (N + 2 + 2) w' ∧ Only b (b + 1) (w1.alloc (.cells #[.int .i64 (-1), .int .i64 zz] 2)) w' := HAM.out (N + 2) w1.heap.size 0 2 ([(-1), zz] : List Int) _ (by omega) S2.out (by omega) (by simp) (by simp) (by simp) (fun j z hj => by
        match j, hj with
        | 0, hj => simp at hj; subst hj; simp [go_sem]
        | 1, hj => simp at hj; subst hj; simp [go_sem]
        | j + 2, hj => simp at hj)
    have H2 := hide ham
    clear ham
    have O2 := hide (only_alloc O1.out (.cells #[.int .i64 (-1), .int .i64 zz] 2))
    go_wp2_with (go_at_call 57; (with_reducible refine (H2.out).mono ?_); rintro e w2 ⟨z, rfl, hz, hs2, ho2⟩)
    go_ret
    have hzb : -1 ≤ z ∧ z ≤ 9 := by simp at hz; omega
    exact ⟨z, rfl, hzb, hs2.more (by omega), only_trans O2.out ho2⟩
end Go.Proofs.YtofjnmeblmbnmaaDoor
namespace Go.Proofs.YtofjnmeblmbnmaaDoor
open Go.RowKit
theorem flatMap_atZ {xs : List T3} {j q : Nat} {m : T3} (h : xs[j]? = some m) (hq : q < 3) : (xs.flatMap T3.cells)[j * 3 + q]? = (T3.cells m)[q]? := by
  induction xs generalizing j with
  | nil => simp at h
  | cons x xs ih =>
    rw [List.flatMap_cons]
    cases j with
    | zero =>
      simp at h; subst h
      rw [List.getElem?_append_left (by show 0 * 3 + q < 3; omega), Nat.zero_mul, Nat.zero_add]
    | succ j =>
      rw [List.getElem?_append_right (by show 3 ≤ (j + 1) * 3 + q; omega)]
      rw [show (j + 1) * 3 + q - (T3.cells x).length = j * 3 + q by show (j + 1) * 3 + q - 3 = _; omega]
      exact ih (by simpa using h)
/-- A change as it is drawn. -/
def CDr (t : T3) : Prop := -9223372036854775808 ≤ t.a ∧ t.a ≤ 10001 ∧ -1 ≤ t.b ∧ t.b ≤ 10 ∧ -101 ≤ t.c ∧ t.c ≤ 101
theorem CDr.fits {t : T3} (h : CDr t) : t.Fits := by unfold CDr at h; exact ⟨⟨by omega, by omega⟩, ⟨by omega, by omega⟩, by omega, by omega⟩
set_option maxRecDepth 100000 in
set_option maxHeartbeats 4000000 in
theorem drawChange_any (b : Nat) (bs : List Int) (N : Int) (n : Int) (w : World) (hbs : BsOk bs) (hN : N ≤ 1099509000000) (h : SrcAt b bs N w) (hn : 1 ≤ n) (hn2 : n ≤ 10) :
    Calls Tryd.prog 80 #[.pointer (some ⟨b, 0, none⟩), .int .i64 n] w fun e w' => ∃ t : T3, e = .returned (.agg #[.int .i64 t.a, .int .i64 t.b, .int .i64 t.c]) ∧ CDr t ∧ SrcAt b bs (N + 6) w' ∧ Only b (b + 1) w w' := by
  have hbl := h.lt
  have HP := hide fun M n W (hM : M ≤ 1099511000000) (hW : SrcAt b bs M W) => pick_any b bs M n W hbs hM hW
  have HO1 := hide fun M n W (hM : M ≤ 1099511000000) (hW : SrcAt b bs M W) => one_any b bs M n W hbs hM hW
  have HAM := hide fun M g o c xs W (hM : M ≤ 1099511000000) (hW : SrcAt b bs M W) => among_any b bs M g o c xs W hbs hM hW
  have X0 := hide (BoxN.new w #[.int .i64 0, .int .i64 0, .int .i64 0] 41)
  have S0 := hide (h.alloc (.cells #[.int .i64 0, .int .i64 0, .int .i64 0] 41))
  have O0 := hide (only_alloc (only_refl b (b + 1) w) (.cells #[.int .i64 0, .int .i64 0, .int .i64 0] 41))
  have z0 : w.heap.size < (w.alloc (.cells #[.int .i64 0, .int .i64 0, .int .i64 0] 41)).heap.size := by simp
  have K0 := hide (HP.out N 60 _ (by omega) S0.out)
  clear h
  go_enter Tryd.func80, Tryd.ntmps80
  go_upto_region 2 with (first | (go_at_call 58; (with_reducible refine (K0.out).mono ?_); rintro e w1 ⟨a, rfl, ⟨ha0, ha1', _⟩, hs1, ho1⟩; have ha1 := ha1' (by omega); have X1 := hide (X0.out.only ho1 (.inr (by omega))); have z1 := ho1.size; have O1 := hide (only_trans O0.out ho1); have K1 := hide (HP.out (N + 2) n _ (by omega) hs1); clear hs1 ho1 K0 X0 S0 O0 ha1') | (go_at_call 58; (with_reducible refine (K1.out).mono ?_); rintro e w2 ⟨c, rfl, ⟨hc0, hc1', _⟩, hs2, ho2⟩; have hc1 := hc1' hn; have X2 := hide (X1.out.only ho2 (.inr (by omega))); have z2 := ho2.size; have O2 := hide (only_trans O1.out ho2); have S2 := hide hs2; clear hs2 ho2 K1 X1 O1 hc1'))
  have X3 := hide (X2.out.alloc (.cells #[.int .i64 a, .int .i64 c, .int .i64 0] 41))
  have Y3 := hide (BoxN.new w2 #[.int .i64 a, .int .i64 c, .int .i64 0] 41)
  have S3 := hide (S2.out.alloc (.cells #[.int .i64 a, .int .i64 c, .int .i64 0] 41))
  have O3 := hide (only_alloc O2.out (.cells #[.int .i64 a, .int .i64 c, .int .i64 0] 41))
  have z3 : w2.heap.size + 1 ≤ (w2.alloc (.cells #[.int .i64 a, .int .i64 c, .int .i64 0] 41)).heap.size := by simp
  have zz : w.heap.size < w2.heap.size := by omega
  have K3 := hide (HP.out (N + 2 + 2) 7 _ (by omega) S3.out)
  clear X2 S2 O2 S3
  go_upto_region 3 with (go_at_call 58; (with_reducible refine (K3.out).mono ?_); rintro e w4 ⟨d, rfl, ⟨hd0, hd1', _⟩, hs4, ho4⟩; have hd1 := hd1' (by omega); have X4 := hide (X3.out.only ho4 (.inr (by omega))); have Y4 := hide (Y3.out.only ho4 (.inr (by omega))); have S4 := hide hs4; have O4 := hide (only_trans O3.out ho4); have z4 := ho4.size; have y4 := Y4.out.cell 2; have f4 := Y4.out.fro 2; have hw1 : IntKind.i64.wrap (d - 2) = d - 2 := (by rw [IntKind.wrap_i64] <;> omega); have hw2 : IntKind.i64.wrap (10 * (d - 2)) = 10 * (d - 2) := (by rw [IntKind.wrap_i64] <;> omega); clear hs4 ho4 hd1')
  have X5 := hide (X4.out.other (b' := w2.heap.size) (by omega) 2 (.int .i64 (10 * (d - 2))))
  have Y5 : Hid (BoxN (w4.setCell ⟨w2.heap.size, 2, none⟩ (.int .i64 (10 * (d - 2)))) w2.heap.size #[.int .i64 a, .int .i64 c, .int .i64 (10 * (d - 2))] 41) := Y4.out.set 2 (.int .i64 (10 * (d - 2)))
  have S5 := hide (S4.out.set ⟨w2.heap.size, 2, none⟩ (.int .i64 (10 * (d - 2))) (by dsimp only; omega))
  have O5 := hide (only_setNew O4.out ⟨w2.heap.size, 2, none⟩ (.int .i64 (10 * (d - 2))) (by dsimp only; omega))
  clear X3 Y3 O3 K3 X4 Y4 y4 f4 S4 O4
  generalize w4.setCell ⟨w2.heap.size, 2, none⟩ (.int .i64 (10 * (d - 2))) = w9 at *
  have l0 : w9.cell? ⟨w2.heap.size, 0, none⟩ = some (.int .i64 a) := Y5.out.cell 0
  have l1 : w9.cell? ⟨w2.heap.size, 1, none⟩ = some (.int .i64 c) := Y5.out.cell 1
  have l2 : w9.cell? ⟨w2.heap.size, 2, none⟩ = some (.int .i64 (10 * (d - 2))) := Y5.out.cell 2
  obtain ⟨z, hz⟩ : ∃ z, z = 10 * (d - 2) := ⟨_, rfl⟩
  rw [← hz] at l2
  have hzb : -20 ≤ z ∧ z ≤ 40 := by omega
  clear hz hw1 hw2
  have T0 := hide (X5.out.set 0 (.int .i64 a))
  have T1 := hide (T0.out.set 1 (.int .i64 c))
  have T2 := hide (T1.out.set 2 (.int .i64 z))
  have m0 : w9.cell? ⟨w.heap.size, 0, none⟩ = some (.int .i64 0) := X5.out.cell 0
  have n0 := X5.out.fro 0
  have m1 : (w9.setCell ⟨w.heap.size, 0, none⟩ (.int .i64 a)).cell? ⟨w.heap.size, 1, none⟩ = some (.int .i64 0) := T0.out.cell 1
  have n1 := T0.out.fro 1
  have m2 : ((w9.setCell ⟨w.heap.size, 0, none⟩ (.int .i64 a)).setCell ⟨w.heap.size, 1, none⟩ (.int .i64 c)).cell? ⟨w.heap.size, 2, none⟩ = some (.int .i64 0) := T1.out.cell 2
  have n2 := T1.out.fro 2
  go_wp2_with fail
  have q0 : (((w9.setCell ⟨w.heap.size, 0, none⟩ (.int .i64 a)).setCell ⟨w.heap.size, 1, none⟩ (.int .i64 c)).setCell ⟨w.heap.size, 2, none⟩ (.int .i64 z)).cell? ⟨w.heap.size, 0, none⟩ = some (.int .i64 a) := T2.out.cell 0
  have q1 : (((w9.setCell ⟨w.heap.size, 0, none⟩ (.int .i64 a)).setCell ⟨w.heap.size, 1, none⟩ (.int .i64 c)).setCell ⟨w.heap.size, 2, none⟩ (.int .i64 z)).cell? ⟨w.heap.size, 1, none⟩ = some (.int .i64 c) := T2.out.cell 1
  have q2 : (((w9.setCell ⟨w.heap.size, 0, none⟩ (.int .i64 a)).setCell ⟨w.heap.size, 1, none⟩ (.int .i64 c)).setCell ⟨w.heap.size, 2, none⟩ (.int .i64 z)).cell? ⟨w.heap.size, 2, none⟩ = some (.int .i64 z) := T2.out.cell 2
  refine bodyPost_ret (v := .agg #[.int .i64 a, .int .i64 c, .int .i64 z]) (by simp [results, Tryd.results80, go_sem, q0, q1, q2]) rfl ⟨⟨a, c, z⟩, rfl, ⟨by dsimp only; omega, by dsimp only; omega, by dsimp only; omega, by dsimp only; omega, by dsimp only; omega, by dsimp only; omega⟩, ?_, ?_⟩
  · exact (((S5.out.set ⟨w.heap.size, 0, none⟩ (.int .i64 a) hbl).set ⟨w.heap.size, 1, none⟩ (.int .i64 c) hbl).set ⟨w.heap.size, 2, none⟩ (.int .i64 z) hbl).more (by omega)
  · exact only_setNew (only_setNew (only_setNew O5.out ⟨w.heap.size, 0, none⟩ (.int .i64 a) (Nat.le_refl _)) ⟨w.heap.size, 1, none⟩ (.int .i64 c) (Nat.le_refl _)) ⟨w.heap.size, 2, none⟩ (.int .i64 z) (Nat.le_refl _)
set_option maxRecDepth 100000 in
set_option maxHeartbeats 4000000 in
theorem spoil_any (b : Nat) (bs : List Int) (N : Int) (g k n c base : Nat) (cs : List T3) (w : World) (hbs : BsOk bs) (hN : N ≤ 1099509000000) (h : SrcAt b bs N w) (hb : b + 1 ≤ base) (hk : k < n) (hl : cs.length = n) (hrow : w.ownsRow base 41 3 (.slice (some ⟨g, 0, none⟩) n c) n (cs.flatMap T3.cells)) :
    Calls Tryd.prog 82 #[.pointer (some ⟨b, 0, none⟩), .pointer (some ⟨g, k * 3, none⟩)] w fun e w' => e = .returned (.tuple #[]) ∧ ∃ (w1 : World) (j : Nat) (z : Int), ((j = 0 ∧ -9223372036854775808 ≤ z ∧ z ≤ 10001) ∨ (j = 1 ∧ -1 ≤ z ∧ z ≤ 8) ∨ (j = 2 ∧ -101 ≤ z ∧ z ≤ 101)) ∧ SrcAt b bs (N + 4) w1 ∧ Only b (b + 1) w w1 ∧ w' = w1.setCell ⟨g, k * 3 + j, none⟩ (.int .i64 z) := by
  have hbl := h.lt
  have HP := hide fun M n W (hM : M ≤ 1099511000000) (hW : SrcAt b bs M W) => pick_any b bs M n W hbs hM hW
  have HO1 := hide fun M n W (hM : M ≤ 1099511000000) (hW : SrcAt b bs M W) => one_any b bs M n W hbs hM hW
  have HAM := hide fun M g o c xs W (hM : M ≤ 1099511000000) (hW : SrcAt b bs M W) => among_any b bs M g o c xs W hbs hM hW
  have H0 := hide h
  have R0 := hide hrow
  clear h hrow
  obtain ⟨t, ht⟩ : ∃ t, cs[k]? = some t := ⟨_, List.getElem?_eq_getElem (by omega)⟩
  have HT := hide ht
  clear ht
  go_enter Tryd.func82, Tryd.ntmps82
  have HC := hide (HP.out N 3 w (by omega) H0.out)
  go_upto_region 1 with (go_at_call 58; (with_reducible refine (HC.out).mono ?_); rintro e w1 ⟨v, rfl, ⟨hv0, hv1', _⟩, hs1, ho1⟩)
  have hv1 := hv1' (by omega)
  have S1 := hide hs1
  have O1 := hide ho1
  have R1 := hide (row_only R0.out ho1 hb)
  have hz1 := ho1.size
  clear hs1 ho1 hv1' HC H0 R0
  have hcase : v = 0 ∨ v = 1 ∨ v = 2 := by omega
  rcases hcase with hv | hv | hv
  · subst hv
    have S2 := hide (S1.out.alloc (.cells #[.int .i64 (-1), .int .i64 0, .int .i64 10000, .int .i64 10001, .int .i64 (-9223372036854775808)] 2))
    have ham : Calls Tryd.prog 57 #[.pointer (some ⟨b, 0, none⟩), .slice (some ⟨w1.heap.size, 0, none⟩) 5 5] (w1.alloc (.cells #[.int .i64 (-1), .int .i64 0, .int .i64 10000, .int .i64 10001, .int .i64 (-9223372036854775808)] 2)) fun e w' => ∃ z, e = .returned (.int .i64 z) ∧ z ∈ ([(-1), 0, 10000, 10001, (-9223372036854775808)] : List Int) ∧ SrcAt b bs (N + 2 + 2) w' ∧ Only b (b + 1) (w1.alloc (.cells #[.int .i64 (-1), .int .i64 0, .int .i64 10000, .int .i64 10001, .int .i64 (-9223372036854775808)] 2)) w' := HAM.out (N + 2) w1.heap.size 0 5 ([(-1), 0, 10000, 10001, (-9223372036854775808)] : List Int) _ (by omega) S2.out (by omega) (by simp) (by simp) (by simp) (fun j z hj => by
        match j, hj with
        | 0, hj => simp at hj; subst hj; simp [go_sem]
        | 1, hj => simp at hj; subst hj; simp [go_sem]
        | 2, hj => simp at hj; subst hj; simp [go_sem]
        | 3, hj => simp at hj; subst hj; simp [go_sem]
        | 4, hj => simp at hj; subst hj; simp [go_sem]
        | j + 5, hj => simp at hj)
    have H2 := hide ham
    clear ham
    have O2 := hide (only_alloc O1.out (.cells #[.int .i64 (-1), .int .i64 0, .int .i64 10000, .int .i64 10001, .int .i64 (-9223372036854775808)] 2))
    have R2 := hide (R1.out.alloc (.cells #[.int .i64 (-1), .int .i64 0, .int .i64 10000, .int .i64 10001, .int .i64 (-9223372036854775808)] 2))
    go_wp2_with (go_at_call 57; (with_reducible refine (H2.out).mono ?_); rintro e w3 ⟨z, rfl, hz, hs3, ho3⟩; have R3 := hide (row_only R2.out ho3 hb); have e3 : w3.cell? ⟨g, k * 3, none⟩ = some (.int .i64 t.a) := (R3.out.cellAt (k * 3 + 0) (by omega)).trans (flatMap_atZ HT.out (show 0 < 3 by omega)); have f3 : w3.frozen? ⟨g, k * 3, none⟩ = false := R3.out.frozenAt (k * 3 + 0))
    have hzb : -9223372036854775808 ≤ z ∧ z ≤ 10001 := by simp at hz; omega
    (try simp only [Exit.inBlock, Exit.then]); refine bodyPost_end (results_none rfl _ _ _) rfl ?_
    exact ⟨rfl, w3, 0, z, .inl ⟨rfl, hzb⟩, hs3.more (by omega), only_trans O2.out ho3, rfl⟩
  · subst hv
    have S2 := hide (S1.out.alloc (.cells #[.int .i64 (-1), .int .i64 0, .int .i64 7, .int .i64 8] 2))
    have ham : Calls Tryd.prog 57 #[.pointer (some ⟨b, 0, none⟩), .slice (some ⟨w1.heap.size, 0, none⟩) 4 4] (w1.alloc (.cells #[.int .i64 (-1), .int .i64 0, .int .i64 7, .int .i64 8] 2)) fun e w' => ∃ z, e = .returned (.int .i64 z) ∧ z ∈ ([(-1), 0, 7, 8] : List Int) ∧ SrcAt b bs (N + 2 + 2) w' ∧ Only b (b + 1) (w1.alloc (.cells #[.int .i64 (-1), .int .i64 0, .int .i64 7, .int .i64 8] 2)) w' := HAM.out (N + 2) w1.heap.size 0 4 ([(-1), 0, 7, 8] : List Int) _ (by omega) S2.out (by omega) (by simp) (by simp) (by simp) (fun j z hj => by
        match j, hj with
        | 0, hj => simp at hj; subst hj; simp [go_sem]
        | 1, hj => simp at hj; subst hj; simp [go_sem]
        | 2, hj => simp at hj; subst hj; simp [go_sem]
        | 3, hj => simp at hj; subst hj; simp [go_sem]
        | j + 4, hj => simp at hj)
    have H2 := hide ham
    clear ham
    have O2 := hide (only_alloc O1.out (.cells #[.int .i64 (-1), .int .i64 0, .int .i64 7, .int .i64 8] 2))
    have R2 := hide (R1.out.alloc (.cells #[.int .i64 (-1), .int .i64 0, .int .i64 7, .int .i64 8] 2))
    go_wp2_with (go_at_call 57; (with_reducible refine (H2.out).mono ?_); rintro e w3 ⟨z, rfl, hz, hs3, ho3⟩; have R3 := hide (row_only R2.out ho3 hb); have e3 : w3.cell? ⟨g, k * 3 + 1, none⟩ = some (.int .i64 t.b) := (R3.out.cellAt (k * 3 + 1) (by omega)).trans (flatMap_atZ HT.out (show 1 < 3 by omega)); have f3 : w3.frozen? ⟨g, k * 3 + 1, none⟩ = false := R3.out.frozenAt (k * 3 + 1))
    have hzb : -1 ≤ z ∧ z ≤ 8 := by simp at hz; omega
    (try simp only [Exit.inBlock, Exit.then]); refine bodyPost_end (results_none rfl _ _ _) rfl ?_
    exact ⟨rfl, w3, 1, z, .inr (.inl ⟨rfl, hzb⟩), hs3.more (by omega), only_trans O2.out ho3, rfl⟩
  · subst hv
    have S2 := hide (S1.out.alloc (.cells #[.int .i64 (-101), .int .i64 (-100), .int .i64 100, .int .i64 101] 2))
    have ham : Calls Tryd.prog 57 #[.pointer (some ⟨b, 0, none⟩), .slice (some ⟨w1.heap.size, 0, none⟩) 4 4] (w1.alloc (.cells #[.int .i64 (-101), .int .i64 (-100), .int .i64 100, .int .i64 101] 2)) fun e w' => ∃ z, e = .returned (.int .i64 z) ∧ z ∈ ([(-101), (-100), 100, 101] : List Int) ∧ SrcAt b bs (N + 2 + 2) w' ∧ Only b (b + 1) (w1.alloc (.cells #[.int .i64 (-101), .int .i64 (-100), .int .i64 100, .int .i64 101] 2)) w' := HAM.out (N + 2) w1.heap.size 0 4 ([(-101), (-100), 100, 101] : List Int) _ (by omega) S2.out (by omega) (by simp) (by simp) (by simp) (fun j z hj => by
        match j, hj with
        | 0, hj => simp at hj; subst hj; simp [go_sem]
        | 1, hj => simp at hj; subst hj; simp [go_sem]
        | 2, hj => simp at hj; subst hj; simp [go_sem]
        | 3, hj => simp at hj; subst hj; simp [go_sem]
        | j + 4, hj => simp at hj)
    have H2 := hide ham
    clear ham
    have O2 := hide (only_alloc O1.out (.cells #[.int .i64 (-101), .int .i64 (-100), .int .i64 100, .int .i64 101] 2))
    have R2 := hide (R1.out.alloc (.cells #[.int .i64 (-101), .int .i64 (-100), .int .i64 100, .int .i64 101] 2))
    go_wp2_with (go_at_call 57; (with_reducible refine (H2.out).mono ?_); rintro e w3 ⟨z, rfl, hz, hs3, ho3⟩; have R3 := hide (row_only R2.out ho3 hb); have e3 : w3.cell? ⟨g, k * 3 + 2, none⟩ = some (.int .i64 t.c) := (R3.out.cellAt (k * 3 + 2) (by omega)).trans (flatMap_atZ HT.out (show 2 < 3 by omega)); have f3 : w3.frozen? ⟨g, k * 3 + 2, none⟩ = false := R3.out.frozenAt (k * 3 + 2))
    have hzb : -101 ≤ z ∧ z ≤ 101 := by simp at hz; omega
    (try simp only [Exit.inBlock, Exit.then]); refine bodyPost_end (results_none rfl _ _ _) rfl ?_
    exact ⟨rfl, w3, 2, z, .inr (.inr ⟨rfl, hzb⟩), hs3.more (by omega), only_trans O2.out ho3, rfl⟩
end Go.Proofs.YtofjnmeblmbnmaaDoor
