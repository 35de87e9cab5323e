/-
  The plan of wishes by an order; in the reference.
  The plan of wishes by an order; in the program.
  The plan by an order, and the sum of delays; in the program and in the reference.
  The sum of delays; in the program and in the reference.
  The ends of runs, the last end, the late wishes; in the program and in the reference.
  The end of a drawn run, and rising lists.
  The order by ascending numbers; in the reference.
  The order that the laws draw: an order of n things.
  Drawing: one of some numbers, and yes once in so many times.
  Drawn seals.
  Draws of carriers: a fleet and which of them runs; lists of numbers compared.
  A drawn move.
-/
import Derived.Test.YtofjnmeblmbnmaaDoorQLevels7
import Derived.Test.YtofjnmeblmbnmaaDoorQLevels1
import Derived.Test.YtofjnmeblmbnmaaDoorRows
import Derived.ProofKit
import Derived.Test.YtofjnmeblmbnmaaDoorQLevels0
import Derived.Test.YtofjnmeblmbnmaaDoorQLevels5
import Derived.Deep.DeepCutAuto
namespace Go.Proofs.YtofjnmeblmbnmaaDoor
open Go.RowKit

def wishAt (l : List TN) (k : Int) : TN := (l[k.toNat]?).getD ⟨[], 0, 0⟩
def startOf (ts : List Int) (l done : List TN) (k : Int) : Int := estOf ts (takenOf ts done) (wishAt l k).way (wishAt l k).p
def planGo (ts : List Int) (l : List TN) : List Int → List TN → List Int → List Int
  | [], _, out => out
  | k :: r, done, out => planGo ts l r (done ++ [⟨(wishAt l k).way, startOf ts l done k, 0⟩]) (out.set k.toNat (startOf ts l done k))
def planRGo (ts : List Int) (l : List TN) : List Int → List TN → List TN → List TN
  | [], _, out => out
  | k :: r, done, out => planRGo ts l r (done ++ [⟨(wishAt l k).way, startOf ts l done k, 0⟩]) (out.set k.toNat ⟨(wishAt l k).way, startOf ts l done k, 0⟩)
def plan (ts : List Int) (l : List TN) (order : List Int) : List Int := planGo ts l order [] (List.replicate l.length 0)
def planR (ts : List Int) (l : List TN) (order : List Int) : List TN := planRGo ts l order [] (List.replicate l.length ⟨[], 0, 0⟩)
theorem planR_p (ts : List Int) (l : List TN) : ∀ (order : List Int) (done out : List TN), (planRGo ts l order done out).map (·.p) = planGo ts l order done (out.map (·.p)) := by
  intro order
  induction order with
  | nil => intro done out; rfl
  | cons k r ih => intro done out; rw [planRGo, planGo, ih, List.map_set]
theorem plan_p (ts : List Int) (l : List TN) (order : List Int) : (planR ts l order).map (·.p) = plan ts l order := by
  unfold planR plan; rw [planR_p, List.map_replicate]
theorem planGo_len (ts : List Int) (l : List TN) : ∀ (order : List Int) (done : List TN) (out : List Int), (planGo ts l order done out).length = out.length := by
  intro order
  induction order with
  | nil => intro done out; rfl
  | cons k r ih => intro done out; rw [planGo, ih, List.length_set]
theorem plan_len (ts : List Int) (l : List TN) (order : List Int) : (plan ts l order).length = l.length := by
  unfold plan; rw [planGo_len, List.length_replicate]
def DoneOk (ts : List Int) (n : Nat) (done : List TN) : Prop := done.length = n ∧ ∀ e ∈ done, OkWay ts e.way ∧ 0 ≤ e.p ∧ e.p ≤ 10000 + 12000 * (n : Int)
theorem DoneOk.plan {ts : List Int} {n : Nat} {done : List TN} (h : DoneOk ts n done) (hn : n ≤ 6) : OkPlan ts done :=
  ⟨by rw [h.1]; omega, fun e he => by obtain ⟨h1, h2, h3⟩ := h.2 e he; exact ⟨h1, h2, by omega⟩⟩
theorem start_bd {ts : List Int} (hts : OkTimes ts) {n : Nat} {done : List TN} (h : DoneOk ts n done) {way : List Int} {f : Int} (hw : OkWay ts way) (hf : 0 ≤ f) (hf' : f ≤ 10000) : 0 ≤ estOf ts (takenOf ts done) way f ∧ estOf ts (takenOf ts done) way f ≤ 10000 + 12000 * ((n : Int) + 1) := by
  obtain ⟨h1, h2, _, _⟩ := est_spec (tk := takenOf ts done) hts hw.2 f
  refine ⟨by omega, ?_⟩
  rcases (lastC_spec (takenOf ts done) f).2.2 with h3 | ⟨o, ho, h3⟩
  · omega
  · obtain ⟨e, he, hoe⟩ := List.mem_flatMap.1 ho
    obtain ⟨⟨k1, k2⟩, k3, k4⟩ := h.2 e he
    have := spGo_ge hts k2 o hoe
    omega
theorem DoneOk.next {ts : List Int} (hts : OkTimes ts) {n : Nat} {done : List TN} (h : DoneOk ts n done) {way : List Int} {f : Int} (hw : OkWay ts way) (hf : 0 ≤ f) (hf' : f ≤ 10000) : DoneOk ts (n + 1) (done ++ [⟨way, estOf ts (takenOf ts done) way f, 0⟩]) := by
  obtain ⟨b1, b2⟩ := start_bd hts h hw hf hf'
  refine ⟨by rw [List.length_append, h.1]; rfl, fun e he => ?_⟩
  rcases List.mem_append.1 he with he | he
  · obtain ⟨k1, k2, k3⟩ := h.2 e he; exact ⟨k1, k2, by omega⟩
  · simp only [List.mem_singleton] at he; subst he; exact ⟨hw, b1, by dsimp only; omega⟩
theorem ordGo_in {n : Int} : ∀ {r pre : List Int}, ordGo n pre r = true → ∀ k ∈ r, 0 ≤ k ∧ k ≤ n - 1 := by
  intro r
  induction r with
  | nil => intro pre _ k hk; cases hk
  | cons a r ih =>
    intro pre h k hk
    rw [ordGo] at h
    simp only [Bool.and_eq_true] at h
    rcases List.mem_cons.1 hk with rfl | hk
    · exact inB_iff.1 h.1
    · exact ih h.2.2 k hk
theorem codeO_ok {ts : List Int} {l : List TN} {order : List Int} (h : codeO ts l order = 0) : (OkTimes ts ∧ l.length ≤ 6 ∧ ∀ e ∈ l, OkWish ts e) ∧ order.length = l.length ∧ ∀ k ∈ order, 0 ≤ k ∧ k ≤ (l.length : Int) - 1 := by
  unfold codeO at h
  split at h
  · rename_i hv
    split at h
    · rename_i ho
      unfold ordOk at ho
      simp only [Bool.and_eq_true, decide_eq_true_eq] at ho
      exact ⟨vWishes_iff.1 hv, ho.2, ordGo_in ho.1⟩
    · omega
  · omega
theorem planGo_drop {ts : List Int} {l : List TN} {order : List Int} {k : Nat} {z : Int} (h : order[k]? = some z) (done : List TN) (out : List Int) : planGo ts l (order.drop k) done out = planGo ts l (order.drop (k + 1)) (done ++ [⟨(wishAt l z).way, startOf ts l done z, 0⟩]) (out.set z.toNat (startOf ts l done z)) := by rw [drop_cons h, planGo]
theorem planRGo_drop {ts : List Int} {l : List TN} {order : List Int} {k : Nat} {z : Int} (h : order[k]? = some z) (done out : List TN) : planRGo ts l (order.drop k) done out = planRGo ts l (order.drop (k + 1)) (done ++ [⟨(wishAt l z).way, startOf ts l done z, 0⟩]) (out.set z.toNat ⟨(wishAt l z).way, startOf ts l done z, 0⟩) := by rw [drop_cons h, planRGo]
theorem wishAt_get {l : List TN} {n : Nat} {e : TN} (h : l[n]? = some e) : wishAt l (n : Int) = e := by simp [wishAt, h]
theorem own_atI {w : World} {base : Nat} {e : TypeId} {n c g : Nat} {zs : List Int} (h : w.ownsRow base e 1 (.slice (some ⟨g, 0, none⟩) n c) n (zs.map (Value.int .i64))) {i : Nat} {z : Int} (hz : zs[i]? = some z) : w.cell? ⟨g, i, none⟩ = some (.int .i64 z) := by
  have hl := h.1
  have hi := lt_of_get hz
  simp only [List.length_map, Nat.mul_one] at hl
  rw [h.cellAt i (by omega), List.getElem?_map, hz]; rfl
theorem own_setI {w : World} {base : Nat} {e : TypeId} {n c g : Nat} {zs : List Int} (h : w.ownsRow base e 1 (.slice (some ⟨g, 0, none⟩) n c) n (zs.map (Value.int .i64))) (i : Nat) (z : Int) :
    (w.setCell ⟨g, i, none⟩ (.int .i64 z)).ownsRow base e 1 (.slice (some ⟨g, 0, none⟩) n c) n ((zs.set i z).map (Value.int .i64)) ∧ w.grownBy (w.setCell ⟨g, i, none⟩ (.int .i64 z)) (some g) := by
  have := h.stored i (.int .i64 z)
  rw [← List.map_set] at this
  exact this
end Go.Proofs.YtofjnmeblmbnmaaDoor
namespace Go.Proofs.YtofjnmeblmbnmaaDoor
open Go.RowKit

theorem replicate_get_zp {n i : Nat} (h : i < n) : (List.replicate n zp)[i]? = some zp := by rw [List.getElem?_replicate, if_pos h]
theorem wayAt_zp (w : World) (B : Nat) : WayAt w B zp := ⟨none, 0, rfl, Rd.nil _ _ _⟩
end Go.Proofs.YtofjnmeblmbnmaaDoor
namespace Go.Proofs.YtofjnmeblmbnmaaDoor
open Go.RowKit

theorem own_posN {w : World} {base : Nat} {e : TypeId} {size n c : Nat} {A : Option Addr} {xs : List Value} (h : w.ownsRow base e size (.slice A n c) n xs) (hn : 0 < n) : ∃ g, A = some ⟨g, 0, none⟩ ∧ base ≤ g ∧ g < w.heap.size := by
  rcases own_block h with ⟨_, h0, _⟩ | ⟨g, hA, h1, h2⟩
  · omega
  · exact ⟨g, hA, h1, h2⟩
theorem planGo_bd {ts : List Int} {l : List TN} (hts : OkTimes ts) (hlo : ∀ e ∈ l, OkWish ts e) : ∀ (order : List Int) (n : Nat) (done : List TN) (out : List Int), (∀ k ∈ order, 0 ≤ k ∧ k ≤ (l.length : Int) - 1) → n + order.length ≤ 6 → DoneOk ts n done → (∀ z ∈ out, 0 ≤ z ∧ z ≤ 100000) → ∀ z ∈ planGo ts l order done out, 0 ≤ z ∧ z ≤ 100000 := by
  intro order
  induction order with
  | nil => intro n done out _ _ _ h; exact h
  | cons k r ih =>
    intro n done out hk hn hd h
    rw [List.length_cons] at hn
    obtain ⟨m, rfl⟩ := Int.eq_ofNat_of_zero_le (hk k (List.mem_cons_self ..)).1
    have hml : m < l.length := by have := (hk _ (List.mem_cons_self ..)).2; omega
    have he : l[m]? = some l[m] := List.getElem?_eq_getElem hml
    obtain ⟨hw, hp, _⟩ := hlo l[m] (List.getElem_mem _)
    have hb := start_bd hts hd hw hp.1 hp.2
    rw [planGo, startOf, wishAt_get he]
    refine ih (n + 1) _ _ (fun k' hk' => hk k' (List.mem_cons_of_mem _ hk')) (by omega) (hd.next hts hw hp.1 hp.2) fun z hz => ?_
    rcases List.mem_or_eq_of_mem_set hz with hz | hz
    · exact h z hz
    · subst hz; omega
theorem plan_bd {ts : List Int} {l : List TN} {order : List Int} (h : codeO ts l order = 0) : ∀ z ∈ plan ts l order, 0 ≤ z ∧ z ≤ 100000 := by
  obtain ⟨⟨hts, hl6, hlo⟩, hol, hoi⟩ := codeO_ok h
  exact planGo_bd hts hlo order 0 [] _ hoi (by omega) ⟨rfl, fun e he => by cases he⟩ fun z hz => by obtain ⟨_, rfl⟩ := List.mem_replicate.1 hz; omega
theorem planR_get {ts : List Int} {l : List TN} {order : List Int} {i : Nat} {e : TN} (h : (planR ts l order)[i]? = some e) : (plan ts l order)[i]? = some e.p := by
  rw [← plan_p, List.getElem?_map, h]; rfl
theorem planR_len (ts : List Int) (l : List TN) (order : List Int) : (planR ts l order).length = l.length := by
  rw [← plan_len ts l order, ← plan_p, List.length_map]
def planByOrder (ts : List Int) (l : List TN) (order : List Int) : List Int × Int := if codeO ts l order = 0 then (plan ts l order, 0) else ([], codeO ts l order)
/-- The sum of what is later than ready. -/
def dlGo (l : List TN) : List Int → Nat → Int
  | [], _ => 0
  | s :: r, i => s - (wishAt l i).p + dlGo l r (i + 1)
def sumOfDelays (ts : List Int) (l : List TN) (order : List Int) : Int × Int := if codeO ts l order = 0 then (dlGo l (plan ts l order) 0, 0) else (0, codeO ts l order)
end Go.Proofs.YtofjnmeblmbnmaaDoor
namespace Go.Proofs.YtofjnmeblmbnmaaDoor
open Go.RowKit

theorem dlGo_drop {l : List TN} {xs : List Int} {k : Nat} {z : Int} (h : xs[k]? = some z) : dlGo l (xs.drop k) k = z - (wishAt l k).p + dlGo l (xs.drop (k + 1)) (k + 1) := by rw [drop_cons h, dlGo]
end Go.Proofs.YtofjnmeblmbnmaaDoor
namespace Go.Proofs.YtofjnmeblmbnmaaDoor
open Go.RowKit

def endGo (ts : List Int) : Int → List Int → Int
  | f, [] => f
  | f, t :: r => endGo ts (f + tmOf ts t) r
theorem endGo_bd {ts : List Int} (hts : OkTimes ts) : ∀ {way : List Int} {f : Int}, (∀ t ∈ way, 0 ≤ t ∧ t ≤ (ts.length : Int) - 1) → f ≤ endGo ts f way ∧ endGo ts f way ≤ f + 1000 * way.length := by
  intro way
  induction way with
  | nil => intro f _; simp [endGo]
  | cons t r ih =>
    intro f h
    have h1 := tmOf_bd hts (h t (List.mem_cons_self ..))
    have h2 := ih (f := f + tmOf ts t) fun t ht => h t (List.mem_cons_of_mem _ ht)
    rw [endGo, List.length_cons]; omega
theorem endGo_drop {ts way : List Int} {k : Nat} {t : Int} (h : way[k]? = some t) (f : Int) : endGo ts f (way.drop k) = endGo ts (f + tmOf ts t) (way.drop (k + 1)) := by rw [drop_cons h, endGo]
theorem ordGo_nodup {n : Int} : ∀ {r pre : List Int}, ordGo n pre r = true → r.Nodup ∧ ∀ k ∈ r, k ∉ pre := by
  intro r
  induction r with
  | nil => intro pre _; exact ⟨List.nodup_nil, fun k hk => by cases hk⟩
  | cons a r ih =>
    intro pre h
    rw [ordGo] at h
    simp only [Bool.and_eq_true, Bool.not_eq_true'] at h
    obtain ⟨i1, i2⟩ := ih h.2.2
    have ha : a ∉ pre := fun hm => by
      have := h.2.1
      rw [show hasI pre a = true from List.any_eq_true.2 ⟨a, hm, by simp⟩] at this
      cases this
    refine ⟨List.nodup_cons.2 ⟨fun hm => i2 a hm (List.mem_append.2 (.inr (List.mem_singleton.2 rfl))), i1⟩, fun k hk => ?_⟩
    rcases List.mem_cons.1 hk with rfl | hk
    · exact ha
    · exact fun hm => i2 k hk (List.mem_append.2 (.inl hm))
theorem order_all {ts : List Int} {l : List TN} {order : List Int} (h : codeO ts l order = 0) {i : Nat} (hi : i < l.length) : (i : Int) ∈ order := by
  obtain ⟨_, hol, hoi⟩ := codeO_ok h
  have hnd : order.Nodup := by
    unfold codeO at h
    split at h
    · split at h
      · rename_i ho
        unfold ordOk at ho
        simp only [Bool.and_eq_true] at ho
        exact (ordGo_nodup ho.1).1
      · omega
    · omega
  refine Classical.byContradiction fun hne => ?_
  have h1 : ((i : Int) :: order).Nodup := List.nodup_cons.2 ⟨hne, hnd⟩
  have h2 := h1.length_le_of_subset (l₂ := (List.range l.length).map fun (j : Nat) => (j : Int)) fun z hz => by
    rcases List.mem_cons.1 hz with rfl | hz
    · exact List.mem_map.2 ⟨i, List.mem_range.2 hi, rfl⟩
    · have := hoi z hz
      exact List.mem_map.2 ⟨z.toNat, List.mem_range.2 (by omega), by omega⟩
  rw [List.length_cons, List.length_map, List.length_range] at h2
  omega
theorem planRGo_way (ts : List Int) (l : List TN) : ∀ (order : List Int) (done out : List TN) (i : Nat) (e : TN), (∀ k ∈ order, 0 ≤ k) → (planRGo ts l order done out)[i]? = some e → ((i : Int) ∈ order ∨ ∃ e0, out[i]? = some e0 ∧ e0.way = (wishAt l i).way) → e.way = (wishAt l i).way := by
  intro order
  induction order with
  | nil =>
    intro done out i e _ he h
    rcases h with h | ⟨e0, h1, h2⟩
    · cases h
    · rw [planRGo] at he; rw [h1] at he; cases he; exact h2
  | cons k r ih =>
    intro done out i e hk he h
    rw [planRGo] at he
    have hk0 := hk k (List.mem_cons_self ..)
    refine ih _ _ i e (fun k' hk' => hk k' (List.mem_cons_of_mem _ hk')) he ?_
    by_cases hik : (i : Int) = k
    · by_cases hl : i < out.length
      · right
        refine ⟨_, by rw [show k.toNat = i by omega]; exact List.getElem?_set_self hl, by rw [hik]⟩
      · exfalso
        have hlen : ∀ (order : List Int) (done out : List TN), (planRGo ts l order done out).length = out.length := by
          intro order
          induction order with
          | nil => intro done out; rfl
          | cons k r ih => intro done out; rw [planRGo, ih, List.length_set]
        have := lt_of_get he
        rw [hlen, List.length_set] at this
        omega
    · rcases h with h | ⟨e0, h1, h2⟩
      · rcases List.mem_cons.1 h with h | h
        · exact absurd h hik
        · exact .inl h
      · right
        exact ⟨e0, by rw [List.getElem?_set_ne (by omega)]; exact h1, h2⟩
theorem planR_way {ts : List Int} {l : List TN} {order : List Int} (h : codeO ts l order = 0) {i : Nat} {e : TN} (he : (planR ts l order)[i]? = some e) : e.way = (wishAt l i).way := by
  have hil : i < l.length := by have := lt_of_get he; rw [planR_len] at this; exact this
  exact planRGo_way ts l order _ _ i e (fun k hk => ((codeO_ok h).2.2 k hk).1) he (.inl (order_all h hil))
set_option maxRecDepth 100000 in
theorem l00MaxR_any (a b : Int) (w : World) : Calls Tryd.prog 81 #[.int .i64 a, .int .i64 b] w fun e w' => e = .returned (.int .i64 (max a b)) ∧ w = w' := by
  by_cases h : b < a
  · have HR := hide (Int.max_eq_left (show b ≤ a by omega))
    go_enter Tryd.func81, Tryd.ntmps81
    go_wp2_with fail
    go_ret
    exact ⟨ret_i HR.out.symm, rfl⟩
  · have HR := hide (Int.max_eq_right (show a ≤ b by omega))
    go_enter Tryd.func81, Tryd.ntmps81
    go_wp2_with fail
    go_ret
    exact ⟨ret_i HR.out.symm, rfl⟩
/-- The last end, and the late wishes, of these starts from a wish on. -/
def leGo (ts : List Int) (l : List TN) : List Int → Nat → Int → Int
  | [], _, m => m
  | s :: r, i, m => leGo ts l r (i + 1) (max m (endGo ts s (wishAt l i).way))
def laGo (ts : List Int) (l : List TN) : List Int → Nat → List Int
  | [], _ => []
  | s :: r, i => if (wishAt l i).q < endGo ts s (wishAt l i).way then (i : Int) :: laGo ts l r (i + 1) else laGo ts l r (i + 1)
theorem leGo_drop {ts : List Int} {l : List TN} {xs : List Int} {k : Nat} {z : Int} (h : xs[k]? = some z) (m : Int) : leGo ts l (xs.drop k) k m = leGo ts l (xs.drop (k + 1)) (k + 1) (max m (endGo ts z (wishAt l k).way)) := by rw [drop_cons h, leGo]
theorem laGo_drop {ts : List Int} {l : List TN} {xs : List Int} {k : Nat} {z : Int} (h : xs[k]? = some z) : laGo ts l (xs.drop k) k = if (wishAt l k).q < endGo ts z (wishAt l k).way then (k : Int) :: laGo ts l (xs.drop (k + 1)) (k + 1) else laGo ts l (xs.drop (k + 1)) (k + 1) := by rw [drop_cons h, laGo]
def lastEnd (ts : List Int) (l : List TN) (order : List Int) : Int × Int := if codeO ts l order = 0 then (leGo ts l (plan ts l order) 0 0, 0) else (0, codeO ts l order)
def lateWishes (ts : List Int) (l : List TN) (order : List Int) : List Int × Int := if codeO ts l order = 0 then (laGo ts l (plan ts l order) 0, 0) else ([], codeO ts l order)
end Go.Proofs.YtofjnmeblmbnmaaDoor
namespace Go.Proofs.YtofjnmeblmbnmaaDoor
open Go.ChangeShapes Go.WideShapes Go.ChangeAt Go.RowKit

def Rises (xs : List Int) (n : Int) : Prop := (∀ z ∈ xs, 0 ≤ z ∧ z < n) ∧ ∀ k a b, xs[k]? = some a → xs[k + 1]? = some b → a < b
end Go.Proofs.YtofjnmeblmbnmaaDoor
namespace Go.Proofs.YtofjnmeblmbnmaaDoor
open Go.RowKit

def keyOf (ks : List Int) (i : Int) : Int := (ks[i.toNat]?).getD 0
def outAt (out : List Int) (k : Nat) : Int := (out[k]?).getD 0
/-- Where a number is laid, seen from k downward. -/
def posGo (ks out : List Int) (i : Int) : Nat → Nat
  | 0 => 0
  | k + 1 => if keyOf ks i < keyOf ks (outAt out k) then posGo ks out i k else k + 1
def insK (ks out : List Int) (i : Int) : List Int := out.take (posGo ks out i out.length) ++ i :: out.drop (posGo ks out i out.length)
def sortK (ks : List Int) : Nat → List Int
  | 0 => []
  | n + 1 => insK ks (sortK ks n) n
theorem posGo_le (ks out : List Int) (i : Int) : ∀ k, posGo ks out i k ≤ k := by
  intro k
  induction k with
  | zero => exact Nat.le_refl _
  | succ k ih => rw [posGo]; split <;> omega
theorem insK_len (ks out : List Int) (i : Int) : (insK ks out i).length = out.length + 1 := by
  have := posGo_le ks out i out.length
  unfold insK; simp; omega
theorem sortK_len (ks : List Int) : ∀ n, (sortK ks n).length = n := by
  intro n
  induction n with
  | zero => rfl
  | succ n ih => rw [sortK, insK_len, ih]
theorem sortK_in (ks : List Int) : ∀ n, ∀ z ∈ sortK ks n, 0 ≤ z ∧ z < n := by
  intro n
  induction n with
  | zero => intro z hz; cases hz
  | succ n ih =>
    intro z hz
    rw [sortK, insK] at hz
    rcases List.mem_append.1 hz with hz | hz
    · have := ih z (List.mem_of_mem_take hz); omega
    · rcases List.mem_cons.1 hz with rfl | hz
      · omega
      · have := ih z (List.mem_of_mem_drop hz); omega
theorem key_get {ks : List Int} {n : Nat} {z : Int} (h : ks[n]? = some z) : keyOf ks (n : Int) = z := by simp [keyOf, h]
theorem RdI.drop {w : World} {B b o : Nat} {xs : List Int} (h : RdI w B (some ⟨b, o, none⟩) xs) (k : Nat) : RdI w B (some ⟨b, o + k, none⟩) (xs.drop k) := fun hn => by
  obtain ⟨b', o', hA, hb, hc⟩ := h (by intro e; apply hn; rw [List.map_eq_nil_iff] at e; rw [e]; simp)
  cases hA
  refine ⟨_, _, rfl, hb, fun j u hu => ?_⟩
  rw [List.getElem?_map, List.getElem?_drop, ← List.getElem?_map] at hu
  rw [Nat.add_assoc]
  exact hc _ _ hu
end Go.Proofs.YtofjnmeblmbnmaaDoor
namespace Go.Proofs.YtofjnmeblmbnmaaDoor
open Go.ChangeShapes Go.WideShapes Go.ChangeAt Go.RowKit

def GoodTo (k : Nat) (xs : List Int) : Prop := xs.length = k ∧ (∀ z ∈ xs, 0 ≤ z ∧ z < k) ∧ xs.Nodup
theorem GoodTo.insert {k : Nat} {xs : List Int} (h : GoodTo k xs) (j : Nat) : GoodTo (k + 1) (xs.take j ++ [(k : Int)] ++ xs.drop j) := by
  obtain ⟨h1, h2, h3⟩ := h
  have hp : (xs.take j ++ [(k : Int)] ++ xs.drop j).Perm ((k : Int) :: xs) := by
    have h : (xs.take j ++ ((k : Int) :: xs.drop j)).Perm ((k : Int) :: (xs.take j ++ xs.drop j)) := List.perm_middle
    rw [List.take_append_drop] at h
    rw [List.append_assoc]
    exact h
  refine ⟨by rw [hp.length_eq, List.length_cons, h1], fun z hz => ?_, hp.nodup_iff.2 (List.nodup_cons.2 ⟨fun hm => ?_, h3⟩)⟩
  · rcases List.mem_cons.1 (hp.mem_iff.1 hz) with rfl | hz
    · omega
    · have := h2 z hz; omega
  · have := h2 _ hm; omega
set_option maxRecDepth 100000 in
set_option maxHeartbeats 1000000 in
theorem own00_any (xs : List Int) (A : Option Addr) (c : Nat) (w : World) (hx : xs.length ≤ 1048576) (h1 : RdI w w.heap.size A xs) :
    Calls Tryd.prog 113 #[.slice A xs.length c] w fun e w' => ∃ A' c', e = .returned (.slice A' xs.length c') ∧ w'.ownsRow w.heap.size 2 1 (.slice A' xs.length c') xs.length (xs.map (Value.int .i64)) ∧ Below w.heap.size w w' := by
  obtain ⟨i0, hi0, hz0, hs0, hb0⟩ := info_parts int64_info
  have HX := hide h1; clear h1
  go_enter Tryd.func113, Tryd.ntmps113
  have ho0 := own_new0 w w.heap.size 2 1 (Nat.le_refl _)
  have hb1 : Below w.heap.size w (w.alloc (.cells #[] 2)) := (Below.refl _ _).alloc (Nat.le_refl _) _
  have HR := hide (Rd.below HX.out hb1)
  go_wp2_with (at_builtin; go_must (refine wp_app _ rfl _ _ 44 rfl w.heap.size 2 i0 (.int .i64 0) 1 8 Tryd.underlying44 hi0 hz0 hs0 hb0 rfl (by decide) _ _ _ rfl ho0 _ _ xs.length c _ rfl (by simp) HR.out (ints_one _) (by omega) (by decide) (by simp) ?_); intro v' w1 hown' hgrow hat)
  go_ret
  simp only [Nat.zero_add, List.nil_append] at hown'
  obtain ⟨A', c', rfl, _⟩ := own_shape hown'
  exact ⟨A', c', rfl, hown', app_below hb1 ho0 hgrow (Nat.le_refl _) (by simp)⟩
end Go.Proofs.YtofjnmeblmbnmaaDoor
namespace Go.Proofs.YtofjnmeblmbnmaaDoor
open Go.RowKit

theorem Only.cell' {lo hi : Nat} {w w' : World} (h : Only lo hi w w') {p : Addr} (h1 : p.block < w.heap.size) (h2 : p.block < lo ∨ hi ≤ p.block) : w'.cell? p = w.cell? p :=
  World.cell?_of_block (h.2.2.2.2 p.block h1 h2)
set_option maxRecDepth 100000 in
set_option maxHeartbeats 1000000 in
theorem one_any (b : Nat) (bs : List Int) (N n : Int) (w : World) (hbs : BsOk bs) (hN : N ≤ 1099511000000) (h : SrcAt b bs N w) :
    Calls Tryd.prog 56 #[.pointer (some ⟨b, 0, none⟩), .int .i64 n] w fun e w' => ∃ v, e = .returned (.bool v) ∧ SrcAt b bs (N + 2) w' ∧ Only b (b + 1) w w' := by
  have HC := hide (pick_any b bs N n w hbs hN h)
  clear h
  go_enter Tryd.func56, Tryd.ntmps56
  go_wp2_with (go_at_call 58; refine (HC.out).mono ?_; rintro e w1 ⟨z, rfl, _, hs1, ho1⟩)
  go_ret
  exact ⟨_, rfl, hs1, ho1⟩
set_option maxRecDepth 100000 in
set_option maxHeartbeats 1000000 in
theorem among_any (b : Nat) (bs : List Int) (N : Int) (g o c : Nat) (xs : List Int) (w : World) (hbs : BsOk bs) (hN : N ≤ 1099511000000) (h : SrcAt b bs N w) (hg : g ≠ b) (hgl : g < w.heap.size) (hx0 : 1 ≤ xs.length) (hx1 : xs.length ≤ 1000) (hr : ∀ j z, xs[j]? = some z → w.cell? ⟨g, o + j, none⟩ = some (.int .i64 z)) :
    Calls Tryd.prog 57 #[.pointer (some ⟨b, 0, none⟩), .slice (some ⟨g, o, none⟩) xs.length c] w fun e w' => ∃ z, e = .returned (.int .i64 z) ∧ z ∈ xs ∧ SrcAt b bs (N + 2) w' ∧ Only b (b + 1) w w' := by
  have HC := hide (pick_any b bs N (xs.length : Int) w hbs hN h)
  have HR := hide hr
  clear h hr
  go_enter Tryd.func57, Tryd.ntmps57
  go_wp2_with (go_at_call 58; refine (HC.out).mono ?_; rintro e w1 ⟨z, rfl, ⟨hz0, hz1, _⟩, hs1, ho1⟩; have hz9 := hz1 (by omega); obtain ⟨j, rfl⟩ := Int.eq_ofNat_of_zero_le hz0; have hj : j < xs.length := (by omega); have hej := List.getElem?_eq_getElem hj; have hcj := (ho1.cell' (p := ⟨g, o + j, none⟩) hgl (by dsimp only; omega)).trans (HR.out j _ hej); have HEJ := hide hej; clear hej)
  go_ret
  exact ⟨_, rfl, List.mem_of_getElem? HEJ.out, hs1, ho1⟩
end Go.Proofs.YtofjnmeblmbnmaaDoor
namespace Go.Proofs.YtofjnmeblmbnmaaDoor
open Go.RowKit

theorem grown_setC (w : World) (b j : Nat) (v : Value) : w.grownBy (w.setCell ⟨b, j, none⟩ v) (some b) :=
  ⟨rfl, rfl, rfl, by simp, fun k _ ho => heap_setCell_other w ⟨b, j, none⟩ _ v (fun e => ho (by rw [e]))⟩
theorem only_grown {lo hi : Nat} {w0 w w' : World} {row : Option Nat} (h : Only lo hi w0 w) (hg : w.grownBy w' row) (hr : ∀ g, row = some g → w0.heap.size ≤ g) : Only lo hi w0 w' :=
  ⟨hg.os.trans h.1, hg.tape.trans h.2.1, hg.output.trans h.2.2.1, Nat.le_trans h.size hg.size, fun i hi' ho' => (hg.block i (Nat.lt_of_lt_of_le hi' h.size) (fun e => by have := hr i e.symm; omega)).trans (h.2.2.2.2 i hi' ho')⟩
end Go.Proofs.YtofjnmeblmbnmaaDoor
namespace Go.Proofs.YtofjnmeblmbnmaaDoor
open Go.RowKit

set_option maxRecDepth 100000 in
set_option maxHeartbeats 1000000 in
theorem f6ints_any (xs ys : List Int) (A1 A2 : Option Addr) (c1 c2 : Nat) (w : World) (hx : xs.length ≤ 9223372036854775807) (hy : ys.length ≤ 9223372036854775807)
    (h1 : RdI w w.heap.size A1 xs) (h2 : RdI w w.heap.size A2 ys) :
    Calls Tryd.prog 38 #[.slice A1 xs.length c1, .slice A2 ys.length c2] w fun e w' => e = .returned (.bool (decide (xs = ys))) ∧ Below w.heap.size w w' := by
  by_cases hl : xs.length = ys.length
  · have hB : ((xs.length : Int) != ys.length) = false := by simp [hl]
    have HL := hide hl; clear hl
    go_enter Tryd.func38, Tryd.ntmps38
    go_wp2_with fail
    go_loopg [5] xs.length (fun g i wr => ∃ k : Nat, k ≤ xs.length ∧ g = xs.length - k ∧ i = .int .i64 k ∧ Below w.heap.size w wr ∧ Hid (xs = ys ↔ xs.drop k = ys.drop k))
    case atStart => exact ⟨0, by omega, by omega, rfl, Below.refl _ _, by simp [Hid]⟩
    case round =>
      obtain ⟨k, hk, hg, rfl, hb, HE⟩ := hrel
      by_cases hlt : k < xs.length
      · have hlt2 : k < ys.length := by have := HL.out; omega
        obtain ⟨b1, o1, z1, rfl, _, hz1, hc1⟩ := (h1.below hb).at_ hlt
        obtain ⟨b2, o2, z2, rfl, _, hz2, hc2⟩ := (h2.below hb).at_ hlt2
        have Z1 := hide hz1; have Z2 := hide hz2; clear hz1 hz2 h1 h2
        have HG := hide hg; clear hg
        by_cases he : z1 = z2
        · subst he
          go_wp2_with fail
          go_quiet (fail)
          go_wp2_with fail
          go_roundg (xs.length - (k + 1))
          case measure => have := HG.out; omega
          case rel =>
            refine ⟨k + 1, by omega, rfl, by go_num, bdn hb _, ?_⟩
            have h := HE.out
            rw [drop_cons Z1.out, drop_cons Z2.out] at h
            exact hide (by simpa using h)
        · have hd : (z1 != z2) = true := by simp [he]
          go_wp2_with fail
          go_quiet (fail)
          go_wp2_with fail
          go_ret
          refine ⟨ret_b ?_, bdn hb _⟩
          have h := HE.out
          rw [drop_cons Z1.out, drop_cons Z2.out] at h
          simp [he] at h
          simp [h]
      · go_wp2_with fail
        go_ret
        refine ⟨ret_b ?_, hb⟩
        have h := HE.out
        rw [List.drop_eq_nil_of_le (by omega), List.drop_eq_nil_of_le (by have := HL.out; omega)] at h
        simpa using h
  · have hB : ((xs.length : Int) != ys.length) = true := by simp; omega
    have HL := hide hl; clear hl
    go_enter Tryd.func38, Tryd.ntmps38
    go_wp2_with fail
    go_ret
    exact ⟨ret_b (by simp; intro e; exact HL.out (by rw [e])), Below.refl _ _⟩
theorem f6big_any (A : Option Addr) (n c : Nat) (w : World) (hn : n ≤ 4096) :
    Calls Tryd.prog 6 #[.slice A n c] w fun e w' => e = .returned (.bool false) ∧ w = w' := by
  have hD : decide ((4096 : Int) < (n : Int)) = false := decide_eq_false (by omega)
  go_enter Tryd.func6, Tryd.ntmps6
  go_wp2_with fail
  go_ret
  exact ⟨rfl, rfl⟩
theorem below_src' {w w1 w2 : World} (h : Below w.heap.size w w1) (k : Only w.heap.size (w.heap.size + 1) w1 w2) : Below w.heap.size w w2 := h.trans (k.below (Nat.le_refl _) h.size)
end Go.Proofs.YtofjnmeblmbnmaaDoor
namespace Go.Proofs.YtofjnmeblmbnmaaDoor
open Go.RowKit
end Go.Proofs.YtofjnmeblmbnmaaDoor
