/-
  Orders of wishes: the codes; in the program and in the reference.
  Networks in the program: strong ones, stations that are reached, tubes from a station, the least length.
  Drawn times and wishes, off bytes; small helpers of the laws.
  Drawn runs.
  The spans of a run and the earliest start; in the program.
  The spans of a run, and whether a run fits; in the reference.
  Helpers of the laws on runs: a number off bytes; the spans of a run by the reference.
  A run meets none of some others: the law's own helper.
  The earliest start; in the reference.
  The plan of wishes by an order; in the reference.
  The plan of wishes by an order; in the program.
  The plan by an order, and the sum of delays; in the program and in the reference.
  The sum of delays; in the program and in the reference.
  The ends of runs, the last end, the late wishes; in the program and in the reference.
  The end of a drawn run, and rising lists.
-/
import Derived.Test.YtlkccijlbeibjaaQTurns5
import Derived.Test.YtlkccijlbeibjaaQTurns2
import Derived.Test.YtlkccijlbeibjaaRows
import Derived.ProofKit
namespace Go.Proofs.Ytlkccijlbeibjaa
open Go.RowKit

def hasI (xs : List Int) (v : Int) : Bool := xs.any fun z => decide (z = v)
def ordGo (n : Int) : List Int → List Int → Bool
  | _, [] => true
  | pre, k :: r => inB 0 (n - 1) k && (!hasI pre k && ordGo n (pre ++ [k]) r)
def ordOk (n : Nat) (order : List Int) : Bool := ordGo n [] order && decide (order.length = n)
def codeO (ts : List Int) (l : List TN) (order : List Int) : Int := if vWishes ts l = true then (if ordOk l.length order = true then 0 else 2) else 1
theorem ordGo_drop {n : Int} {xs : List Int} {k : Nat} {z : Int} (h : xs[k]? = some z) : ordGo n (xs.take k) (xs.drop k) = (inB 0 (n - 1) z && (!hasI (xs.take k) z && ordGo n (xs.take (k + 1)) (xs.drop (k + 1)))) := by
  obtain ⟨hl, he⟩ := List.getElem?_eq_some_iff.1 h
  rw [drop_cons h, ordGo, List.take_succ_eq_append_getElem hl, he]
theorem cap_of {e : TypeId} {s : Nat} {w : World} {lo hi : Nat} {v : Value} {n : Nat} {xs : List Value} (h : OwnV e s w lo hi v n xs) : ∀ A m c, v = .slice A m c → m ≤ c := by
  intro A m c hv
  rcases h.2.2 with ⟨h0, _⟩ | ⟨ho, _⟩
  · obtain ⟨A', c', he⟩ := h.1
    rw [hv] at he
    simp only [Value.slice.injEq] at he
    omega
  · obtain ⟨A', c', he, hle, _⟩ := own_shape ho
    rw [hv] at he
    simp only [Value.slice.injEq] at he
    omega
theorem RdI.take {w : World} {B : Nat} {A : Option Addr} {xs : List Int} (h : RdI w B A xs) (k : Nat) : RdI w B A (xs.take k) := fun hn => by
  obtain ⟨b, o, hA, hb, hc⟩ := h (by intro e; apply hn; rw [List.map_eq_nil_iff] at e; rw [e]; simp)
  refine ⟨b, o, hA, hb, fun j u hu => hc j u ?_⟩
  rw [List.getElem?_map] at hu ⊢
  by_cases hj : j < k
  · rw [List.getElem?_take_of_lt hj] at hu; exact hu
  · rw [List.getElem?_eq_none (by rw [List.length_take]; omega)] at hu; cases hu
set_option maxRecDepth 100000 in
set_option maxHeartbeats 4000000 in
theorem l00Has_any (xs : List Int) (v : Int) (A : Option Addr) (c : Nat) (w : World) (hx : xs.length ≤ 1048576) (h1 : RdI w w.heap.size A xs) :
    Calls Try.prog 95 #[.slice A xs.length c, .int .i64 v] w fun e w' => e = .returned (.bool (hasI xs v)) ∧ w = w' := by
  have HX := hide h1; clear h1
  go_enter Try.func95, Try.ntmps95
  go_wp2_with fail
  go_loopg [5] xs.length (fun g i wr => ∃ k : Nat, k ≤ xs.length ∧ Hid (g = xs.length - k) ∧ i = .int .i64 k ∧ Hid (hasI xs v = hasI (xs.drop k) v) ∧ w = wr)
  case atStart => exact ⟨0, by omega, by simp [Hid], rfl, by simp [Hid], rfl⟩
  case round =>
    obtain ⟨k, hk, hg, rfl, HS, rfl⟩ := hrel
    by_cases hlt : k < xs.length
    · obtain ⟨b1, o1, z1, rfl, _, hz1, hca⟩ := HX.out.at_ hlt
      have HS' := HS.out
      rw [drop_cons hz1, hasI, hasI, List.any_cons] at HS'
      have HQ : Hid (hasI xs v = (decide (z1 = v) || hasI (xs.drop (k + 1)) v)) := HS'
      clear HS' HS hz1
      by_cases he : z1 = v
      · have hB : (z1 == v) = true := by simp [he]
        have HN := hide (show hasI xs v = true by rw [HQ.out, decide_eq_true he]; rfl)
        clear he
        go_wp2_with fail
        go_ret
        exact ⟨ret_b HN.out.symm, rfl⟩
      · have hB : (z1 == v) = false := by simp [he]
        have HN := hide (show hasI xs v = hasI (xs.drop (k + 1)) v by rw [HQ.out, decide_eq_false he]; rfl)
        clear he
        go_wp2_with fail
        go_roundg (xs.length - (k + 1))
        case measure => have := hg.out; omega
        case rel => exact ⟨k + 1, by omega, rfl, by go_num, HN, rfl⟩
    · have HN := hide (HS.out.trans (by rw [List.drop_eq_nil_of_le (by omega)]; rfl : _ = false))
      go_wp2_with fail
      go_ret
      exact ⟨ret_b HN.out.symm, rfl⟩
set_option maxRecDepth 100000 in
set_option maxHeartbeats 4000000 in
theorem indexI_any (xs : List Int) (v : Int) (A : Option Addr) (c : Nat) (w : World) (hx : xs.length ≤ 1048576) (h1 : RdI w w.heap.size A xs) :
    Calls Try.prog 168 #[.slice A xs.length c, .int .i64 v] w fun e w' => e = .returned (.int .i64 (firstI (fun z => decide (z = v)) xs 0)) ∧ Below w.heap.size w w' := by
  have HX := hide h1; clear h1
  go_enter Try.func168, Try.ntmps168
  go_wp2_with fail
  go_loopg [8] xs.length (fun g i wr => ∃ k : Nat, k ≤ xs.length ∧ Hid (g = xs.length - k) ∧ i = .int .i64 k ∧ Hid (firstI (fun z => decide (z = v)) xs 0 = firstI (fun z => decide (z = v)) (xs.drop k) k) ∧ Below w.heap.size w wr)
  case atStart => exact ⟨0, by omega, by simp [Hid], rfl, by simp [Hid], Below.refl _ _⟩
  case round =>
    obtain ⟨k, hk, hg, rfl, HS, hb⟩ := hrel
    by_cases hlt : k < xs.length
    · obtain ⟨b1, o1, z1, rfl, _, hz1, hca⟩ := (HX.out.below hb).at_ hlt
      have HS' := HS.out
      rw [drop_cons hz1, firstI] at HS'
      have HQ := hide HS'
      clear HS' HS hz1
      by_cases he : z1 = v
      · have hB : (v == z1) = true := by simp [he]
        have HN := hide (show firstI (fun z => decide (z = v)) xs 0 = k by rw [HQ.out, if_pos (decide_eq_true he)])
        clear he
        go_wp2_with fail
        go_ret
        exact ⟨ret_i HN.out.symm, hb⟩
      · have hB : (v == z1) = false := by simp; exact fun e => he e.symm
        have HN := hide (show firstI (fun z => decide (z = v)) xs 0 = firstI (fun z => decide (z = v)) (xs.drop (k + 1)) (k + 1) by rw [HQ.out, if_neg (by simp [he])])
        clear he
        go_wp2_with fail
        go_roundg (xs.length - (k + 1))
        case measure => have := hg.out; omega
        case rel => exact ⟨k + 1, by omega, rfl, by go_num, HN, hb⟩
    · have HN := hide (HS.out.trans (by rw [List.drop_eq_nil_of_le (by omega), firstI] : _ = (-1 : Int)))
      go_wp2_with fail
      go_ret
      exact ⟨ret_i HN.out.symm, hb⟩
set_option maxRecDepth 100000 in
set_option maxHeartbeats 4000000 in
theorem containsI_any (xs : List Int) (v : Int) (A : Option Addr) (c : Nat) (w : World) (hx : xs.length ≤ 1048576) (h1 : RdI w w.heap.size A xs) :
    Calls Try.prog 146 #[.slice A xs.length c, .int .i64 v] w fun e w' => e = .returned (.bool (hasI xs v)) ∧ Below w.heap.size w w' := by
  have HC := hide (indexI_any xs v A c w hx h1)
  have HE := hide (firstI_ge (fun z => decide (z = v)) xs 0)
  clear h1
  go_enter Try.func146, Try.ntmps146
  go_wp2_with (go_at_call 168; refine (HC.out).mono ?_; rintro e w1 ⟨rfl, hb1⟩)
  go_ret
  exact ⟨ret_b HE.out, hb1⟩
end Go.Proofs.Ytlkccijlbeibjaa
namespace Go.Proofs.Ytlkccijlbeibjaa
open Go.RowKit

def noGap (n : Nat) (tb : List T3) (wo : Int) (k : Nat) : Bool := !hasI (dist n tb k wo) (-1)
def strongB (n : Nat) (tb : List T3) (wo : Int) : Bool := (List.range n).all (noGap n tb wo)
def reachP (n : Nat) (tb : List T3) (s : Int) (k : Nat) : Bool := decide (0 ≤ dAt (dist n tb k (-1)) s)
def reachL (n : Nat) (tb : List T3) (s : Int) : List Int := idxFrom (reachP n tb s) (List.range n) 0
def tubesL (tb : List T3) (s : Int) : List Int := idxFrom (fun t : T3 => t.a == s) tb 0
theorem range_get {n k : Nat} (h : k < n) : (List.range n)[k]? = some k := by rw [List.getElem?_range h]
end Go.Proofs.Ytlkccijlbeibjaa
namespace Go.Proofs.Ytlkccijlbeibjaa
open Go.RowKit

theorem small_drawn {n : Nat} : ∀ {l : List TN}, (∀ e ∈ l, WDrawn n e) → (l.map fun e => e.way.length).sum ≤ 4 * l.length := by
  intro l
  induction l with
  | nil => intro _; simp
  | cons e l ih =>
    intro h
    rw [List.map_cons, List.sum_cons, List.length_cons]
    have h1 := (h e (List.mem_cons_self ..)).1.1.2
    have h2 := ih fun x hx => h x (List.mem_cons_of_mem _ hx)
    omega
theorem below_of_src {w w1 w2 : World} (h : Below w.heap.size w w1) (k : Only w.heap.size (w.heap.size + 1) w1 w2) : Below w.heap.size w w2 := h.trans (k.below (Nat.le_refl _) h.size)
set_option maxRecDepth 100000 in
set_option maxHeartbeats 1000000 in
theorem a2Long_any (n m : Nat) (A A2 : Option Addr) (c c2 : Nat) (w : World) (hn : n ≤ 9223372036854775807) (hm : m ≤ 9223372036854775807) :
    Calls Try.prog 15 #[.slice A n c, .slice A2 m c2] w fun e w' => e = .returned (.bool (decide (3000 < n ∨ 3000 < m))) ∧ w = w' := by
  by_cases h1 : 3000 < n
  · have hR : decide (3000 < n ∨ 3000 < m) = true := decide_eq_true (.inl h1)
    have HR := hide hR
    have h1' : (3000 : Int) < (n : Int) := by omega
    clear hR
    go_enter Try.func15, Try.ntmps15
    go_wp2_with fail
    go_ret
    exact ⟨ret_b HR.out.symm, rfl⟩
  by_cases h2 : 3000 < m
  · have hR : decide (3000 < n ∨ 3000 < m) = true := decide_eq_true (.inr h2)
    have HR := hide hR
    have h1' : decide ((3000 : Int) < (n : Int)) = false := decide_eq_false (by omega)
    have h2' : decide ((3000 : Int) < (m : Int)) = true := decide_eq_true (by omega)
    clear hR
    go_enter Try.func15, Try.ntmps15
    go_wp2_with fail
    go_ret
    exact ⟨ret_b HR.out.symm, rfl⟩
  · have hR : decide (3000 < n ∨ 3000 < m) = false := decide_eq_false (by omega)
    have HR := hide hR
    have h1' : decide ((3000 : Int) < (n : Int)) = false := decide_eq_false (by omega)
    have h2' : decide ((3000 : Int) < (m : Int)) = false := decide_eq_false (by omega)
    clear hR
    go_enter Try.func15, Try.ntmps15
    go_wp2_with fail
    go_ret
    exact ⟨ret_b HR.out.symm, rfl⟩
end Go.Proofs.Ytlkccijlbeibjaa
namespace Go.Proofs.Ytlkccijlbeibjaa
open Go.RowKit

/-- A drawn run, for n tubes. -/
def RDrawn (n : Nat) (e : TN) : Prop := ((1 ≤ e.way.length ∧ e.way.length ≤ 4) ∧ ∀ z ∈ e.way, 0 ≤ z ∧ z ≤ (n : Int) - 1) ∧ (0 ≤ e.p ∧ e.p ≤ 49) ∧ e.q = 0
theorem small_runs {n : Nat} : ∀ {l : List TN}, (∀ e ∈ l, RDrawn n e) → (l.map fun e => e.way.length).sum ≤ 4 * l.length := by
  intro l
  induction l with
  | nil => intro _; simp
  | cons e l ih =>
    intro h
    rw [List.map_cons, List.sum_cons, List.length_cons]
    have h1 := (h e (List.mem_cons_self ..)).1.1.2
    have h2 := ih fun x hx => h x (List.mem_cons_of_mem _ hx)
    omega
end Go.Proofs.Ytlkccijlbeibjaa
namespace Go.Proofs.Ytlkccijlbeibjaa
open Go.RowKit

/-- The spans of a run of a list. -/
def spansR (ts : List Int) (e : TN) : List T3 := spGo ts e.p e.way
def takenOf (ts : List Int) (x : List TN) : List T3 := x.flatMap (spansR ts)
def OkPlan (ts : List Int) (x : List TN) : Prop := x.length ≤ 12 ∧ ∀ e ∈ x, OkWay ts e.way ∧ 0 ≤ e.p ∧ e.p ≤ 1000000
theorem tm_get {ts : List Int} {n : Nat} {z : Int} (h : ts[n]? = some z) : tmOf ts (n : Int) = z := by simp [tmOf, h]
theorem spGo_drop {ts way : List Int} {k : Nat} {t : Int} (h : way[k]? = some t) (f : Int) : spGo ts f (way.drop k) = ⟨t, f, f + tmOf ts t⟩ :: spGo ts (f + tmOf ts t) (way.drop (k + 1)) := by rw [drop_cons h, spGo]
theorem taken_bd {ts : List Int} (hts : OkTimes ts) {x : List TN} (h : OkPlan ts x) : ∀ o ∈ takenOf ts x, 0 ≤ o.b ∧ o.b < o.c ∧ o.c ≤ 1012000 := by
  intro o ho
  obtain ⟨e, he, hoe⟩ := List.mem_flatMap.1 ho
  obtain ⟨⟨h1, h2⟩, h3, h4⟩ := h.2 e he
  have := spGo_ge hts h2 o hoe
  omega
theorem taken_len {ts : List Int} {x : List TN} (h : ∀ e ∈ x, e.way.length ≤ 12) : (takenOf ts x).length ≤ 12 * x.length := by
  unfold takenOf
  induction x with
  | nil => simp
  | cons e x ih =>
    rw [List.flatMap_cons, List.length_append, List.length_cons]
    have h1 := h e (List.mem_cons_self ..)
    have h2 := ih fun d hd => h d (List.mem_cons_of_mem _ hd)
    have h3 : (spansR ts e).length = e.way.length := spGo_len _ _ _
    omega
theorem waitIn_drop {s : T3} {tk : List T3} {j : Nat} {o : T3} {w : Int} (h : tk[j]? = some o) : waitIn s (tk.drop j) w = waitIn s (tk.drop (j + 1)) (if meet s o then max w (o.c - s.b) else w) := by rw [drop_cons h, waitIn]
theorem waitOf_drop {tk ss : List T3} {j : Nat} {s : T3} {w : Int} (h : ss[j]? = some s) : waitOf tk (ss.drop j) w = waitOf tk (ss.drop (j + 1)) (waitIn s tk w) := by rw [drop_cons h, waitOf]
theorem lastC_bd {ts : List Int} (hts : OkTimes ts) {x : List TN} (h : OkPlan ts x) {f : Int} (hf : f ≤ 1000000) : lastC (takenOf ts x) f ≤ 1012000 := by
  rcases (lastC_spec (takenOf ts x) f).2.2 with h1 | ⟨o, ho, h1⟩
  · omega
  · have := taken_bd hts h o ho; omega
end Go.Proofs.Ytlkccijlbeibjaa
namespace Go.Proofs.Ytlkccijlbeibjaa
open Go.RowKit

def spTN (s : T3) : TN := ⟨[s.a, s.b, s.c], 0, 0⟩
theorem spans_at {w : World} {B : Nat} {A : Option Addr} {ss : List T3} (h : RN 0 w B A (ss.map spTN)) {k : Nat} (hk : k < ss.length) : ∃ b o s b' o' c', A = some ⟨b, o, none⟩ ∧ b < B ∧ b' < B ∧ ss[k]? = some s ∧ w.cell? ⟨b, o + k, none⟩ = some (.slice (some ⟨b', o', none⟩) 3 c') ∧
    w.cell? ⟨b', o', none⟩ = some (.int .i64 s.a) ∧ w.cell? ⟨b', o' + 1, none⟩ = some (.int .i64 s.b) ∧ w.cell? ⟨b', o' + 2, none⟩ = some (.int .i64 s.c) := by
  obtain ⟨b, o, e, Aw, cw, hA, hb, he, hr, hc, _, _⟩ := h.at_ (by omega) (k := k) (by simpa using hk)
  rw [List.getElem?_map, List.getElem?_eq_getElem hk] at he
  have he' := Option.some.inj he
  subst he'
  obtain ⟨b', o', z0, hA', hb', h0, g0⟩ := hr.at_ (k := 0) (by simp [spTN])
  obtain ⟨_, _, z1, hA1, _, h1, g1⟩ := hr.at_ (k := 1) (by simp [spTN])
  obtain ⟨_, _, z2, hA2, _, h2, g2⟩ := hr.at_ (k := 2) (by simp [spTN])
  subst hA'
  cases hA1; cases hA2
  simp only [spTN, List.getElem?_cons_zero, List.getElem?_cons_succ, Option.some.injEq] at h0 h1 h2
  subst h0 h1 h2
  exact ⟨b, o, ss[k], b', o', cw, hA, hb, hb', List.getElem?_eq_getElem hk, by rw [show o + k = o + k * (0 + 1) by omega]; exact hc, g0, g1, g2⟩
theorem sp_small {ss : List T3} (h : ss.length ≤ 1000) : SmallN (ss.map spTN) := by
  unfold SmallN
  rw [List.length_map, List.map_map]
  have : (ss.map ((fun e : TN => e.way.length) ∘ spTN)).sum = 3 * ss.length := by
    clear h
    induction ss with
    | nil => rfl
    | cons s ss ih => rw [List.map_cons, List.sum_cons, List.length_cons, ih]; simp [spTN]; omega
  rw [this]; omega
theorem sp_get {ts way : List Int} {f : Int} {k : Nat} (h : k < (spGo ts f way).length) : ∃ s, (spGo ts f way)[k]? = some s := ⟨_, List.getElem?_eq_getElem h⟩
def meetAt (ss tt : List T3) : Int := firstI (fun s => tt.any (meet s)) ss 0
end Go.Proofs.Ytlkccijlbeibjaa
namespace Go.Proofs.Ytlkccijlbeibjaa
open Go.RowKit

set_option maxRecDepth 100000 in
set_option maxHeartbeats 4000000 in
theorem a2At_any (bs : List Int) (A : Option Addr) (c : Nat) (k : Nat) (n : Int) (w : World) (hbs : BsOk bs) (h1 : RdB w w.heap.size A bs) :
    Calls Try.prog 18 #[.slice A bs.length c, .int .i64 k, .int .i64 n] w fun e w' => ∃ z, e = .returned (.int .i64 z) ∧ (0 ≤ z ∧ (1 ≤ n → z < n)) ∧ w = w' := by
  by_cases hk : k < bs.length
  · by_cases hn : n < 1
    · have hkl : decide ((bs.length : Int) ≤ (k : Int)) = false := decide_eq_false (by omega)
      have hkn : decide (bs.length ≤ k) = false := decide_eq_false (by omega)
      clear h1
      go_enter Try.func18, Try.ntmps18
      go_wp2_with fail
      go_ret
      exact ⟨0, rfl, ⟨by omega, by omega⟩, rfl⟩
    · obtain ⟨b1, o1, z, rfl, _, hz, hc⟩ := h1.at_ hk
      obtain ⟨hz0, hz1⟩ := hbs.2 z (List.mem_of_getElem? hz)
      have hkl : decide ((bs.length : Int) ≤ (k : Int)) = false := decide_eq_false (by omega)
      have hkn : decide (bs.length ≤ k) = false := decide_eq_false (by omega)
      have hki : (k : Int) < bs.length := by omega
      have hk0 : (0 : Int) ≤ (k : Int) := by omega
      clear h1 hz
      go_enter Try.func18, Try.ntmps18
      go_wp2_with fail
      have hm0 := Int.emod_nonneg z (show n ≠ 0 by omega)
      have hm1 := Int.emod_lt_of_pos z (show 0 < n by omega)
      go_ret
      exact ⟨z % n, rfl, ⟨hm0, by first | exact hm1 | exact fun _ => hm1⟩, rfl⟩
  · have hkl : decide ((bs.length : Int) ≤ (k : Int)) = true := decide_eq_true (by omega)
    have hkn : decide (bs.length ≤ k) = true := decide_eq_true (by omega)
    clear h1
    go_enter Try.func18, Try.ntmps18
    go_wp2_with fail
    go_ret
    exact ⟨0, rfl, ⟨by omega, by omega⟩, rfl⟩
end Go.Proofs.Ytlkccijlbeibjaa
namespace Go.Proofs.Ytlkccijlbeibjaa
open Go.RowKit

def aloneB (ts : List Int) (ss : List T3) (x : List TN) : Bool := x.all fun e => !(ss.any fun s => (spGo ts e.p e.way).any (meet s))
theorem alone_fits (ts : List Int) (x : List TN) (way : List Int) (f : Int) : aloneB ts (spGo ts f way) x = fits ts (takenOf ts x) way f := by
  rw [Bool.eq_iff_iff, fits_iff]
  unfold aloneB takenOf
  simp only [List.all_eq_true, Bool.not_eq_true', List.any_eq_false, List.mem_flatMap, spansR]
  constructor
  · rintro h s hs o ⟨e, he, ho⟩
    have := h e he s hs
    simp only [Bool.not_eq_true, List.any_eq_false] at this
    simpa using this o ho
  · intro h e he s hs
    simp only [Bool.not_eq_true, List.any_eq_false]
    intro o ho
    simpa using h s hs o ⟨e, he, ho⟩
end Go.Proofs.Ytlkccijlbeibjaa
namespace Go.Proofs.Ytlkccijlbeibjaa
open Go.RowKit

theorem meetAt_ge (ss tt : List T3) : decide (0 ≤ meetAt ss tt) = ss.any fun s => tt.any (meet s) := firstI_ge _ _ _
theorem fits_runs (ts way : List Int) (x : List TN) (f : Int) : fits ts (takenOf ts x) way f = x.all fun e => !decide (0 ≤ meetAt (spGo ts f way) (spansR ts e)) := by
  rw [Bool.eq_iff_iff, fits_iff, List.all_eq_true]
  constructor
  · intro h e he
    rw [meetAt_ge]
    simp only [Bool.not_eq_true']
    refine Bool.eq_false_iff.2 fun hc => ?_
    obtain ⟨s, hs, hs2⟩ := List.any_eq_true.1 hc
    obtain ⟨o, ho, ho2⟩ := List.any_eq_true.1 hs2
    have := h s hs o (List.mem_flatMap.2 ⟨e, he, ho⟩)
    rw [this] at ho2; cases ho2
  · intro h s hs o ho
    obtain ⟨e, he, hoe⟩ := List.mem_flatMap.1 ho
    have h2 := h e he
    rw [meetAt_ge] at h2
    cases hm : meet s o
    · rfl
    · rw [show (spGo ts f way).any (fun s => (spansR ts e).any (meet s)) = true from List.any_eq_true.2 ⟨s, hs, List.any_eq_true.2 ⟨o, hoe, hm⟩⟩] at h2
      cases h2
theorem candJ_drop {ts way : List Int} {o : T3} {j : Nat} {t bf : Int} (h : way[j]? = some t) : candJ ts o bf (way.drop j) = if t = o.a then (o.c - bf) :: candJ ts o (bf + tmOf ts t) (way.drop (j + 1)) else candJ ts o (bf + tmOf ts t) (way.drop (j + 1)) := by rw [drop_cons h, candJ]
def cands (ts way : List Int) (tk : List T3) : List Int := tk.flatMap fun o => candJ ts o 0 way
theorem cands_run (ts way : List Int) (z : TN) (l : List TN) : cands ts way (takenOf ts (z :: l)) = cands ts way (spGo ts z.p z.way) ++ cands ts way (takenOf ts l) := by
  unfold cands takenOf
  rw [List.flatMap_cons, List.flatMap_append]; rfl
theorem cands_cons (ts way : List Int) (s : T3) (ss : List T3) : cands ts way (s :: ss) = candJ ts s 0 way ++ cands ts way ss := by
  unfold cands
  rw [List.flatMap_cons]
end Go.Proofs.Ytlkccijlbeibjaa
namespace Go.Proofs.Ytlkccijlbeibjaa
open Go.RowKit

def wishAt (l : List TN) (k : Int) : TN := (l[k.toNat]?).getD ⟨[], 0, 0⟩
def startOf (ts : List Int) (l done : List TN) (k : Int) : Int := estOf ts (takenOf ts done) (wishAt l k).way (wishAt l k).p
def planGo (ts : List Int) (l : List TN) : List Int → List TN → List Int → List Int
  | [], _, out => out
  | k :: r, done, out => planGo ts l r (done ++ [⟨(wishAt l k).way, startOf ts l done k, 0⟩]) (out.set k.toNat (startOf ts l done k))
def planRGo (ts : List Int) (l : List TN) : List Int → List TN → List TN → List TN
  | [], _, out => out
  | k :: r, done, out => planRGo ts l r (done ++ [⟨(wishAt l k).way, startOf ts l done k, 0⟩]) (out.set k.toNat ⟨(wishAt l k).way, startOf ts l done k, 0⟩)
def plan (ts : List Int) (l : List TN) (order : List Int) : List Int := planGo ts l order [] (List.replicate l.length 0)
def planR (ts : List Int) (l : List TN) (order : List Int) : List TN := planRGo ts l order [] (List.replicate l.length ⟨[], 0, 0⟩)
theorem planR_p (ts : List Int) (l : List TN) : ∀ (order : List Int) (done out : List TN), (planRGo ts l order done out).map (·.p) = planGo ts l order done (out.map (·.p)) := by
  intro order
  induction order with
  | nil => intro done out; rfl
  | cons k r ih => intro done out; rw [planRGo, planGo, ih, List.map_set]
theorem plan_p (ts : List Int) (l : List TN) (order : List Int) : (planR ts l order).map (·.p) = plan ts l order := by
  unfold planR plan; rw [planR_p, List.map_replicate]
theorem planGo_len (ts : List Int) (l : List TN) : ∀ (order : List Int) (done : List TN) (out : List Int), (planGo ts l order done out).length = out.length := by
  intro order
  induction order with
  | nil => intro done out; rfl
  | cons k r ih => intro done out; rw [planGo, ih, List.length_set]
theorem plan_len (ts : List Int) (l : List TN) (order : List Int) : (plan ts l order).length = l.length := by
  unfold plan; rw [planGo_len, List.length_replicate]
def DoneOk (ts : List Int) (n : Nat) (done : List TN) : Prop := done.length = n ∧ ∀ e ∈ done, OkWay ts e.way ∧ 0 ≤ e.p ∧ e.p ≤ 10000 + 12000 * (n : Int)
theorem DoneOk.plan {ts : List Int} {n : Nat} {done : List TN} (h : DoneOk ts n done) (hn : n ≤ 6) : OkPlan ts done :=
  ⟨by rw [h.1]; omega, fun e he => by obtain ⟨h1, h2, h3⟩ := h.2 e he; exact ⟨h1, h2, by omega⟩⟩
theorem start_bd {ts : List Int} (hts : OkTimes ts) {n : Nat} {done : List TN} (h : DoneOk ts n done) {way : List Int} {f : Int} (hw : OkWay ts way) (hf : 0 ≤ f) (hf' : f ≤ 10000) : 0 ≤ estOf ts (takenOf ts done) way f ∧ estOf ts (takenOf ts done) way f ≤ 10000 + 12000 * ((n : Int) + 1) := by
  obtain ⟨h1, h2, _, _⟩ := est_spec (tk := takenOf ts done) hts hw.2 f
  refine ⟨by omega, ?_⟩
  rcases (lastC_spec (takenOf ts done) f).2.2 with h3 | ⟨o, ho, h3⟩
  · omega
  · obtain ⟨e, he, hoe⟩ := List.mem_flatMap.1 ho
    obtain ⟨⟨k1, k2⟩, k3, k4⟩ := h.2 e he
    have := spGo_ge hts k2 o hoe
    omega
theorem DoneOk.next {ts : List Int} (hts : OkTimes ts) {n : Nat} {done : List TN} (h : DoneOk ts n done) {way : List Int} {f : Int} (hw : OkWay ts way) (hf : 0 ≤ f) (hf' : f ≤ 10000) : DoneOk ts (n + 1) (done ++ [⟨way, estOf ts (takenOf ts done) way f, 0⟩]) := by
  obtain ⟨b1, b2⟩ := start_bd hts h hw hf hf'
  refine ⟨by rw [List.length_append, h.1]; rfl, fun e he => ?_⟩
  rcases List.mem_append.1 he with he | he
  · obtain ⟨k1, k2, k3⟩ := h.2 e he; exact ⟨k1, k2, by omega⟩
  · simp only [List.mem_singleton] at he; subst he; exact ⟨hw, b1, by dsimp only; omega⟩
theorem ordGo_in {n : Int} : ∀ {r pre : List Int}, ordGo n pre r = true → ∀ k ∈ r, 0 ≤ k ∧ k ≤ n - 1 := by
  intro r
  induction r with
  | nil => intro pre _ k hk; cases hk
  | cons a r ih =>
    intro pre h k hk
    rw [ordGo] at h
    simp only [Bool.and_eq_true] at h
    rcases List.mem_cons.1 hk with rfl | hk
    · exact inB_iff.1 h.1
    · exact ih h.2.2 k hk
theorem codeO_ok {ts : List Int} {l : List TN} {order : List Int} (h : codeO ts l order = 0) : (OkTimes ts ∧ l.length ≤ 6 ∧ ∀ e ∈ l, OkWish ts e) ∧ order.length = l.length ∧ ∀ k ∈ order, 0 ≤ k ∧ k ≤ (l.length : Int) - 1 := by
  unfold codeO at h
  split at h
  · rename_i hv
    split at h
    · rename_i ho
      unfold ordOk at ho
      simp only [Bool.and_eq_true, decide_eq_true_eq] at ho
      exact ⟨vWishes_iff.1 hv, ho.2, ordGo_in ho.1⟩
    · omega
  · omega
theorem planGo_drop {ts : List Int} {l : List TN} {order : List Int} {k : Nat} {z : Int} (h : order[k]? = some z) (done : List TN) (out : List Int) : planGo ts l (order.drop k) done out = planGo ts l (order.drop (k + 1)) (done ++ [⟨(wishAt l z).way, startOf ts l done z, 0⟩]) (out.set z.toNat (startOf ts l done z)) := by rw [drop_cons h, planGo]
theorem planRGo_drop {ts : List Int} {l : List TN} {order : List Int} {k : Nat} {z : Int} (h : order[k]? = some z) (done out : List TN) : planRGo ts l (order.drop k) done out = planRGo ts l (order.drop (k + 1)) (done ++ [⟨(wishAt l z).way, startOf ts l done z, 0⟩]) (out.set z.toNat ⟨(wishAt l z).way, startOf ts l done z, 0⟩) := by rw [drop_cons h, planRGo]
theorem wishAt_get {l : List TN} {n : Nat} {e : TN} (h : l[n]? = some e) : wishAt l (n : Int) = e := by simp [wishAt, h]
theorem own_atI {w : World} {base : Nat} {e : TypeId} {n c g : Nat} {zs : List Int} (h : w.ownsRow base e 1 (.slice (some ⟨g, 0, none⟩) n c) n (zs.map (Value.int .i64))) {i : Nat} {z : Int} (hz : zs[i]? = some z) : w.cell? ⟨g, i, none⟩ = some (.int .i64 z) := by
  have hl := h.1
  have hi := lt_of_get hz
  simp only [List.length_map, Nat.mul_one] at hl
  rw [h.cellAt i (by omega), List.getElem?_map, hz]; rfl
theorem own_setI {w : World} {base : Nat} {e : TypeId} {n c g : Nat} {zs : List Int} (h : w.ownsRow base e 1 (.slice (some ⟨g, 0, none⟩) n c) n (zs.map (Value.int .i64))) (i : Nat) (z : Int) :
    (w.setCell ⟨g, i, none⟩ (.int .i64 z)).ownsRow base e 1 (.slice (some ⟨g, 0, none⟩) n c) n ((zs.set i z).map (Value.int .i64)) ∧ w.grownBy (w.setCell ⟨g, i, none⟩ (.int .i64 z)) (some g) := by
  have := h.stored i (.int .i64 z)
  rw [← List.map_set] at this
  exact this
end Go.Proofs.Ytlkccijlbeibjaa
namespace Go.Proofs.Ytlkccijlbeibjaa
open Go.RowKit

theorem replicate_get_zp {n i : Nat} (h : i < n) : (List.replicate n zp)[i]? = some zp := by rw [List.getElem?_replicate, if_pos h]
theorem wayAt_zp (w : World) (B : Nat) : WayAt w B zp := ⟨none, 0, rfl, Rd.nil _ _ _⟩
end Go.Proofs.Ytlkccijlbeibjaa
namespace Go.Proofs.Ytlkccijlbeibjaa
open Go.RowKit

theorem own_posN {w : World} {base : Nat} {e : TypeId} {size n c : Nat} {A : Option Addr} {xs : List Value} (h : w.ownsRow base e size (.slice A n c) n xs) (hn : 0 < n) : ∃ g, A = some ⟨g, 0, none⟩ ∧ base ≤ g ∧ g < w.heap.size := by
  rcases own_block h with ⟨_, h0, _⟩ | ⟨g, hA, h1, h2⟩
  · omega
  · exact ⟨g, hA, h1, h2⟩
theorem planGo_bd {ts : List Int} {l : List TN} (hts : OkTimes ts) (hlo : ∀ e ∈ l, OkWish ts e) : ∀ (order : List Int) (n : Nat) (done : List TN) (out : List Int), (∀ k ∈ order, 0 ≤ k ∧ k ≤ (l.length : Int) - 1) → n + order.length ≤ 6 → DoneOk ts n done → (∀ z ∈ out, 0 ≤ z ∧ z ≤ 100000) → ∀ z ∈ planGo ts l order done out, 0 ≤ z ∧ z ≤ 100000 := by
  intro order
  induction order with
  | nil => intro n done out _ _ _ h; exact h
  | cons k r ih =>
    intro n done out hk hn hd h
    rw [List.length_cons] at hn
    obtain ⟨m, rfl⟩ := Int.eq_ofNat_of_zero_le (hk k (List.mem_cons_self ..)).1
    have hml : m < l.length := by have := (hk _ (List.mem_cons_self ..)).2; omega
    have he : l[m]? = some l[m] := List.getElem?_eq_getElem hml
    obtain ⟨hw, hp, _⟩ := hlo l[m] (List.getElem_mem _)
    have hb := start_bd hts hd hw hp.1 hp.2
    rw [planGo, startOf, wishAt_get he]
    refine ih (n + 1) _ _ (fun k' hk' => hk k' (List.mem_cons_of_mem _ hk')) (by omega) (hd.next hts hw hp.1 hp.2) fun z hz => ?_
    rcases List.mem_or_eq_of_mem_set hz with hz | hz
    · exact h z hz
    · subst hz; omega
theorem plan_bd {ts : List Int} {l : List TN} {order : List Int} (h : codeO ts l order = 0) : ∀ z ∈ plan ts l order, 0 ≤ z ∧ z ≤ 100000 := by
  obtain ⟨⟨hts, hl6, hlo⟩, hol, hoi⟩ := codeO_ok h
  exact planGo_bd hts hlo order 0 [] _ hoi (by omega) ⟨rfl, fun e he => by cases he⟩ fun z hz => by obtain ⟨_, rfl⟩ := List.mem_replicate.1 hz; omega
theorem planR_get {ts : List Int} {l : List TN} {order : List Int} {i : Nat} {e : TN} (h : (planR ts l order)[i]? = some e) : (plan ts l order)[i]? = some e.p := by
  rw [← plan_p, List.getElem?_map, h]; rfl
theorem planR_len (ts : List Int) (l : List TN) (order : List Int) : (planR ts l order).length = l.length := by
  rw [← plan_len ts l order, ← plan_p, List.length_map]
def planByOrder (ts : List Int) (l : List TN) (order : List Int) : List Int × Int := if codeO ts l order = 0 then (plan ts l order, 0) else ([], codeO ts l order)
/-- The sum of what is later than ready. -/
def dlGo (l : List TN) : List Int → Nat → Int
  | [], _ => 0
  | s :: r, i => s - (wishAt l i).p + dlGo l r (i + 1)
def sumOfDelays (ts : List Int) (l : List TN) (order : List Int) : Int × Int := if codeO ts l order = 0 then (dlGo l (plan ts l order) 0, 0) else (0, codeO ts l order)
end Go.Proofs.Ytlkccijlbeibjaa
namespace Go.Proofs.Ytlkccijlbeibjaa
open Go.RowKit

theorem dlGo_drop {l : List TN} {xs : List Int} {k : Nat} {z : Int} (h : xs[k]? = some z) : dlGo l (xs.drop k) k = z - (wishAt l k).p + dlGo l (xs.drop (k + 1)) (k + 1) := by rw [drop_cons h, dlGo]
end Go.Proofs.Ytlkccijlbeibjaa
namespace Go.Proofs.Ytlkccijlbeibjaa
open Go.RowKit

def endGo (ts : List Int) : Int → List Int → Int
  | f, [] => f
  | f, t :: r => endGo ts (f + tmOf ts t) r
theorem endGo_bd {ts : List Int} (hts : OkTimes ts) : ∀ {way : List Int} {f : Int}, (∀ t ∈ way, 0 ≤ t ∧ t ≤ (ts.length : Int) - 1) → f ≤ endGo ts f way ∧ endGo ts f way ≤ f + 1000 * way.length := by
  intro way
  induction way with
  | nil => intro f _; simp [endGo]
  | cons t r ih =>
    intro f h
    have h1 := tmOf_bd hts (h t (List.mem_cons_self ..))
    have h2 := ih (f := f + tmOf ts t) fun t ht => h t (List.mem_cons_of_mem _ ht)
    rw [endGo, List.length_cons]; omega
theorem endGo_drop {ts way : List Int} {k : Nat} {t : Int} (h : way[k]? = some t) (f : Int) : endGo ts f (way.drop k) = endGo ts (f + tmOf ts t) (way.drop (k + 1)) := by rw [drop_cons h, endGo]
theorem ordGo_nodup {n : Int} : ∀ {r pre : List Int}, ordGo n pre r = true → r.Nodup ∧ ∀ k ∈ r, k ∉ pre := by
  intro r
  induction r with
  | nil => intro pre _; exact ⟨List.nodup_nil, fun k hk => by cases hk⟩
  | cons a r ih =>
    intro pre h
    rw [ordGo] at h
    simp only [Bool.and_eq_true, Bool.not_eq_true'] at h
    obtain ⟨i1, i2⟩ := ih h.2.2
    have ha : a ∉ pre := fun hm => by
      have := h.2.1
      rw [show hasI pre a = true from List.any_eq_true.2 ⟨a, hm, by simp⟩] at this
      cases this
    refine ⟨List.nodup_cons.2 ⟨fun hm => i2 a hm (List.mem_append.2 (.inr (List.mem_singleton.2 rfl))), i1⟩, fun k hk => ?_⟩
    rcases List.mem_cons.1 hk with rfl | hk
    · exact ha
    · exact fun hm => i2 k hk (List.mem_append.2 (.inl hm))
theorem order_all {ts : List Int} {l : List TN} {order : List Int} (h : codeO ts l order = 0) {i : Nat} (hi : i < l.length) : (i : Int) ∈ order := by
  obtain ⟨_, hol, hoi⟩ := codeO_ok h
  have hnd : order.Nodup := by
    unfold codeO at h
    split at h
    · split at h
      · rename_i ho
        unfold ordOk at ho
        simp only [Bool.and_eq_true] at ho
        exact (ordGo_nodup ho.1).1
      · omega
    · omega
  refine Classical.byContradiction fun hne => ?_
  have h1 : ((i : Int) :: order).Nodup := List.nodup_cons.2 ⟨hne, hnd⟩
  have h2 := h1.length_le_of_subset (l₂ := (List.range l.length).map fun (j : Nat) => (j : Int)) fun z hz => by
    rcases List.mem_cons.1 hz with rfl | hz
    · exact List.mem_map.2 ⟨i, List.mem_range.2 hi, rfl⟩
    · have := hoi z hz
      exact List.mem_map.2 ⟨z.toNat, List.mem_range.2 (by omega), by omega⟩
  rw [List.length_cons, List.length_map, List.length_range] at h2
  omega
theorem planRGo_way (ts : List Int) (l : List TN) : ∀ (order : List Int) (done out : List TN) (i : Nat) (e : TN), (∀ k ∈ order, 0 ≤ k) → (planRGo ts l order done out)[i]? = some e → ((i : Int) ∈ order ∨ ∃ e0, out[i]? = some e0 ∧ e0.way = (wishAt l i).way) → e.way = (wishAt l i).way := by
  intro order
  induction order with
  | nil =>
    intro done out i e _ he h
    rcases h with h | ⟨e0, h1, h2⟩
    · cases h
    · rw [planRGo] at he; rw [h1] at he; cases he; exact h2
  | cons k r ih =>
    intro done out i e hk he h
    rw [planRGo] at he
    have hk0 := hk k (List.mem_cons_self ..)
    refine ih _ _ i e (fun k' hk' => hk k' (List.mem_cons_of_mem _ hk')) he ?_
    by_cases hik : (i : Int) = k
    · by_cases hl : i < out.length
      · right
        refine ⟨_, by rw [show k.toNat = i by omega]; exact List.getElem?_set_self hl, by rw [hik]⟩
      · exfalso
        have hlen : ∀ (order : List Int) (done out : List TN), (planRGo ts l order done out).length = out.length := by
          intro order
          induction order with
          | nil => intro done out; rfl
          | cons k r ih => intro done out; rw [planRGo, ih, List.length_set]
        have := lt_of_get he
        rw [hlen, List.length_set] at this
        omega
    · rcases h with h | ⟨e0, h1, h2⟩
      · rcases List.mem_cons.1 h with h | h
        · exact absurd h hik
        · exact .inl h
      · right
        exact ⟨e0, by rw [List.getElem?_set_ne (by omega)]; exact h1, h2⟩
theorem planR_way {ts : List Int} {l : List TN} {order : List Int} (h : codeO ts l order = 0) {i : Nat} {e : TN} (he : (planR ts l order)[i]? = some e) : e.way = (wishAt l i).way := by
  have hil : i < l.length := by have := lt_of_get he; rw [planR_len] at this; exact this
  exact planRGo_way ts l order _ _ i e (fun k hk => ((codeO_ok h).2.2 k hk).1) he (.inl (order_all h hil))
set_option maxRecDepth 100000 in
theorem l00MaxR_any (a b : Int) (w : World) : Calls Try.prog 105 #[.int .i64 a, .int .i64 b] w fun e w' => e = .returned (.int .i64 (max a b)) ∧ w = w' := by
  by_cases h : b < a
  · have HR := hide (Int.max_eq_left (show b ≤ a by omega))
    go_enter Try.func105, Try.ntmps105
    go_wp2_with fail
    go_ret
    exact ⟨ret_i HR.out.symm, rfl⟩
  · have HR := hide (Int.max_eq_right (show a ≤ b by omega))
    go_enter Try.func105, Try.ntmps105
    go_wp2_with fail
    go_ret
    exact ⟨ret_i HR.out.symm, rfl⟩
/-- The last end, and the late wishes, of these starts from a wish on. -/
def leGo (ts : List Int) (l : List TN) : List Int → Nat → Int → Int
  | [], _, m => m
  | s :: r, i, m => leGo ts l r (i + 1) (max m (endGo ts s (wishAt l i).way))
def laGo (ts : List Int) (l : List TN) : List Int → Nat → List Int
  | [], _ => []
  | s :: r, i => if (wishAt l i).q < endGo ts s (wishAt l i).way then (i : Int) :: laGo ts l r (i + 1) else laGo ts l r (i + 1)
theorem leGo_drop {ts : List Int} {l : List TN} {xs : List Int} {k : Nat} {z : Int} (h : xs[k]? = some z) (m : Int) : leGo ts l (xs.drop k) k m = leGo ts l (xs.drop (k + 1)) (k + 1) (max m (endGo ts z (wishAt l k).way)) := by rw [drop_cons h, leGo]
theorem laGo_drop {ts : List Int} {l : List TN} {xs : List Int} {k : Nat} {z : Int} (h : xs[k]? = some z) : laGo ts l (xs.drop k) k = if (wishAt l k).q < endGo ts z (wishAt l k).way then (k : Int) :: laGo ts l (xs.drop (k + 1)) (k + 1) else laGo ts l (xs.drop (k + 1)) (k + 1) := by rw [drop_cons h, laGo]
def lastEnd (ts : List Int) (l : List TN) (order : List Int) : Int × Int := if codeO ts l order = 0 then (leGo ts l (plan ts l order) 0 0, 0) else (0, codeO ts l order)
def lateWishes (ts : List Int) (l : List TN) (order : List Int) : List Int × Int := if codeO ts l order = 0 then (laGo ts l (plan ts l order) 0, 0) else ([], codeO ts l order)
end Go.Proofs.Ytlkccijlbeibjaa
namespace Go.Proofs.Ytlkccijlbeibjaa
open Go.ChangeShapes Go.WideShapes Go.ChangeAt Go.RowKit

def Rises (xs : List Int) (n : Int) : Prop := (∀ z ∈ xs, 0 ≤ z ∧ z < n) ∧ ∀ k a b, xs[k]? = some a → xs[k + 1]? = some b → a < b
end Go.Proofs.Ytlkccijlbeibjaa
