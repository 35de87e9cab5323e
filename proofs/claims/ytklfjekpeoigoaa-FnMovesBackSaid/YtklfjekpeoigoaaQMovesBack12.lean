/-
  The plan of wishes by an order; in the reference.
  The plan of wishes by an order; in the program.
  The plan by an order, and the sum of delays; in the program and in the reference.
  The sum of delays; in the program and in the reference.
  The ends of runs, the last end, the late wishes; in the program and in the reference.
  The end of a drawn run, and rising lists.
  The order that the laws draw: an order of n things.
  The search for the cheapest moves, in the reference.
-/
import Derived.Test.YtklfjekpeoigoaaQMovesBack11
import Derived.Test.YtklfjekpeoigoaaQMovesBack9
import Derived.Test.YtklfjekpeoigoaaQMovesBack7
import Derived.Test.YtklfjekpeoigoaaQMovesBack3
import Derived.Test.YtklfjekpeoigoaaRows
import Derived.ProofKit
import Derived.Test.YtklfjekpeoigoaaQMovesBack10
import Derived.Deep.DeepCutAuto
import Derived.Deep.RegionHeld3
namespace Go.Proofs.Ytklfjekpeoigoaa
open Go.RowKit

def wishAt (l : List TN) (k : Int) : TN := (l[k.toNat]?).getD ⟨[], 0, 0⟩
def startOf (ts : List Int) (l done : List TN) (k : Int) : Int := estOf ts (takenOf ts done) (wishAt l k).way (wishAt l k).p
def planGo (ts : List Int) (l : List TN) : List Int → List TN → List Int → List Int
  | [], _, out => out
  | k :: r, done, out => planGo ts l r (done ++ [⟨(wishAt l k).way, startOf ts l done k, 0⟩]) (out.set k.toNat (startOf ts l done k))
def planRGo (ts : List Int) (l : List TN) : List Int → List TN → List TN → List TN
  | [], _, out => out
  | k :: r, done, out => planRGo ts l r (done ++ [⟨(wishAt l k).way, startOf ts l done k, 0⟩]) (out.set k.toNat ⟨(wishAt l k).way, startOf ts l done k, 0⟩)
def plan (ts : List Int) (l : List TN) (order : List Int) : List Int := planGo ts l order [] (List.replicate l.length 0)
def planR (ts : List Int) (l : List TN) (order : List Int) : List TN := planRGo ts l order [] (List.replicate l.length ⟨[], 0, 0⟩)
theorem planR_p (ts : List Int) (l : List TN) : ∀ (order : List Int) (done out : List TN), (planRGo ts l order done out).map (·.p) = planGo ts l order done (out.map (·.p)) := by
  intro order
  induction order with
  | nil => intro done out; rfl
  | cons k r ih => intro done out; rw [planRGo, planGo, ih, List.map_set]
theorem plan_p (ts : List Int) (l : List TN) (order : List Int) : (planR ts l order).map (·.p) = plan ts l order := by
  unfold planR plan; rw [planR_p, List.map_replicate]
theorem planGo_len (ts : List Int) (l : List TN) : ∀ (order : List Int) (done : List TN) (out : List Int), (planGo ts l order done out).length = out.length := by
  intro order
  induction order with
  | nil => intro done out; rfl
  | cons k r ih => intro done out; rw [planGo, ih, List.length_set]
theorem plan_len (ts : List Int) (l : List TN) (order : List Int) : (plan ts l order).length = l.length := by
  unfold plan; rw [planGo_len, List.length_replicate]
def DoneOk (ts : List Int) (n : Nat) (done : List TN) : Prop := done.length = n ∧ ∀ e ∈ done, OkWay ts e.way ∧ 0 ≤ e.p ∧ e.p ≤ 10000 + 12000 * (n : Int)
theorem DoneOk.plan {ts : List Int} {n : Nat} {done : List TN} (h : DoneOk ts n done) (hn : n ≤ 6) : OkPlan ts done :=
  ⟨by rw [h.1]; omega, fun e he => by obtain ⟨h1, h2, h3⟩ := h.2 e he; exact ⟨h1, h2, by omega⟩⟩
theorem start_bd {ts : List Int} (hts : OkTimes ts) {n : Nat} {done : List TN} (h : DoneOk ts n done) {way : List Int} {f : Int} (hw : OkWay ts way) (hf : 0 ≤ f) (hf' : f ≤ 10000) : 0 ≤ estOf ts (takenOf ts done) way f ∧ estOf ts (takenOf ts done) way f ≤ 10000 + 12000 * ((n : Int) + 1) := by
  obtain ⟨h1, h2, _, _⟩ := est_spec (tk := takenOf ts done) hts hw.2 f
  refine ⟨by omega, ?_⟩
  rcases (lastC_spec (takenOf ts done) f).2.2 with h3 | ⟨o, ho, h3⟩
  · omega
  · obtain ⟨e, he, hoe⟩ := List.mem_flatMap.1 ho
    obtain ⟨⟨k1, k2⟩, k3, k4⟩ := h.2 e he
    have := spGo_ge hts k2 o hoe
    omega
theorem DoneOk.next {ts : List Int} (hts : OkTimes ts) {n : Nat} {done : List TN} (h : DoneOk ts n done) {way : List Int} {f : Int} (hw : OkWay ts way) (hf : 0 ≤ f) (hf' : f ≤ 10000) : DoneOk ts (n + 1) (done ++ [⟨way, estOf ts (takenOf ts done) way f, 0⟩]) := by
  obtain ⟨b1, b2⟩ := start_bd hts h hw hf hf'
  refine ⟨by rw [List.length_append, h.1]; rfl, fun e he => ?_⟩
  rcases List.mem_append.1 he with he | he
  · obtain ⟨k1, k2, k3⟩ := h.2 e he; exact ⟨k1, k2, by omega⟩
  · simp only [List.mem_singleton] at he; subst he; exact ⟨hw, b1, by dsimp only; omega⟩
theorem ordGo_in {n : Int} : ∀ {r pre : List Int}, ordGo n pre r = true → ∀ k ∈ r, 0 ≤ k ∧ k ≤ n - 1 := by
  intro r
  induction r with
  | nil => intro pre _ k hk; cases hk
  | cons a r ih =>
    intro pre h k hk
    rw [ordGo] at h
    simp only [Bool.and_eq_true] at h
    rcases List.mem_cons.1 hk with rfl | hk
    · exact inB_iff.1 h.1
    · exact ih h.2.2 k hk
theorem codeO_ok {ts : List Int} {l : List TN} {order : List Int} (h : codeO ts l order = 0) : (OkTimes ts ∧ l.length ≤ 6 ∧ ∀ e ∈ l, OkWish ts e) ∧ order.length = l.length ∧ ∀ k ∈ order, 0 ≤ k ∧ k ≤ (l.length : Int) - 1 := by
  unfold codeO at h
  split at h
  · rename_i hv
    split at h
    · rename_i ho
      unfold ordOk at ho
      simp only [Bool.and_eq_true, decide_eq_true_eq] at ho
      exact ⟨vWishes_iff.1 hv, ho.2, ordGo_in ho.1⟩
    · omega
  · omega
theorem planGo_drop {ts : List Int} {l : List TN} {order : List Int} {k : Nat} {z : Int} (h : order[k]? = some z) (done : List TN) (out : List Int) : planGo ts l (order.drop k) done out = planGo ts l (order.drop (k + 1)) (done ++ [⟨(wishAt l z).way, startOf ts l done z, 0⟩]) (out.set z.toNat (startOf ts l done z)) := by rw [drop_cons h, planGo]
theorem planRGo_drop {ts : List Int} {l : List TN} {order : List Int} {k : Nat} {z : Int} (h : order[k]? = some z) (done out : List TN) : planRGo ts l (order.drop k) done out = planRGo ts l (order.drop (k + 1)) (done ++ [⟨(wishAt l z).way, startOf ts l done z, 0⟩]) (out.set z.toNat ⟨(wishAt l z).way, startOf ts l done z, 0⟩) := by rw [drop_cons h, planRGo]
theorem wishAt_get {l : List TN} {n : Nat} {e : TN} (h : l[n]? = some e) : wishAt l (n : Int) = e := by simp [wishAt, h]
theorem own_atI {w : World} {base : Nat} {e : TypeId} {n c g : Nat} {zs : List Int} (h : w.ownsRow base e 1 (.slice (some ⟨g, 0, none⟩) n c) n (zs.map (Value.int .i64))) {i : Nat} {z : Int} (hz : zs[i]? = some z) : w.cell? ⟨g, i, none⟩ = some (.int .i64 z) := by
  have hl := h.1
  have hi := lt_of_get hz
  simp only [List.length_map, Nat.mul_one] at hl
  rw [h.cellAt i (by omega), List.getElem?_map, hz]; rfl
theorem own_setI {w : World} {base : Nat} {e : TypeId} {n c g : Nat} {zs : List Int} (h : w.ownsRow base e 1 (.slice (some ⟨g, 0, none⟩) n c) n (zs.map (Value.int .i64))) (i : Nat) (z : Int) :
    (w.setCell ⟨g, i, none⟩ (.int .i64 z)).ownsRow base e 1 (.slice (some ⟨g, 0, none⟩) n c) n ((zs.set i z).map (Value.int .i64)) ∧ w.grownBy (w.setCell ⟨g, i, none⟩ (.int .i64 z)) (some g) := by
  have := h.stored i (.int .i64 z)
  rw [← List.map_set] at this
  exact this
end Go.Proofs.Ytklfjekpeoigoaa
namespace Go.Proofs.Ytklfjekpeoigoaa
open Go.RowKit

theorem replicate_get_zp {n i : Nat} (h : i < n) : (List.replicate n zp)[i]? = some zp := by rw [List.getElem?_replicate, if_pos h]
theorem wayAt_zp (w : World) (B : Nat) : WayAt w B zp := ⟨none, 0, rfl, Rd.nil _ _ _⟩
end Go.Proofs.Ytklfjekpeoigoaa
namespace Go.Proofs.Ytklfjekpeoigoaa
open Go.RowKit

theorem own_posN {w : World} {base : Nat} {e : TypeId} {size n c : Nat} {A : Option Addr} {xs : List Value} (h : w.ownsRow base e size (.slice A n c) n xs) (hn : 0 < n) : ∃ g, A = some ⟨g, 0, none⟩ ∧ base ≤ g ∧ g < w.heap.size := by
  rcases own_block h with ⟨_, h0, _⟩ | ⟨g, hA, h1, h2⟩
  · omega
  · exact ⟨g, hA, h1, h2⟩
theorem planGo_bd {ts : List Int} {l : List TN} (hts : OkTimes ts) (hlo : ∀ e ∈ l, OkWish ts e) : ∀ (order : List Int) (n : Nat) (done : List TN) (out : List Int), (∀ k ∈ order, 0 ≤ k ∧ k ≤ (l.length : Int) - 1) → n + order.length ≤ 6 → DoneOk ts n done → (∀ z ∈ out, 0 ≤ z ∧ z ≤ 100000) → ∀ z ∈ planGo ts l order done out, 0 ≤ z ∧ z ≤ 100000 := by
  intro order
  induction order with
  | nil => intro n done out _ _ _ h; exact h
  | cons k r ih =>
    intro n done out hk hn hd h
    rw [List.length_cons] at hn
    obtain ⟨m, rfl⟩ := Int.eq_ofNat_of_zero_le (hk k (List.mem_cons_self ..)).1
    have hml : m < l.length := by have := (hk _ (List.mem_cons_self ..)).2; omega
    have he : l[m]? = some l[m] := List.getElem?_eq_getElem hml
    obtain ⟨hw, hp, _⟩ := hlo l[m] (List.getElem_mem _)
    have hb := start_bd hts hd hw hp.1 hp.2
    rw [planGo, startOf, wishAt_get he]
    refine ih (n + 1) _ _ (fun k' hk' => hk k' (List.mem_cons_of_mem _ hk')) (by omega) (hd.next hts hw hp.1 hp.2) fun z hz => ?_
    rcases List.mem_or_eq_of_mem_set hz with hz | hz
    · exact h z hz
    · subst hz; omega
theorem plan_bd {ts : List Int} {l : List TN} {order : List Int} (h : codeO ts l order = 0) : ∀ z ∈ plan ts l order, 0 ≤ z ∧ z ≤ 100000 := by
  obtain ⟨⟨hts, hl6, hlo⟩, hol, hoi⟩ := codeO_ok h
  exact planGo_bd hts hlo order 0 [] _ hoi (by omega) ⟨rfl, fun e he => by cases he⟩ fun z hz => by obtain ⟨_, rfl⟩ := List.mem_replicate.1 hz; omega
theorem planR_get {ts : List Int} {l : List TN} {order : List Int} {i : Nat} {e : TN} (h : (planR ts l order)[i]? = some e) : (plan ts l order)[i]? = some e.p := by
  rw [← plan_p, List.getElem?_map, h]; rfl
theorem planR_len (ts : List Int) (l : List TN) (order : List Int) : (planR ts l order).length = l.length := by
  rw [← plan_len ts l order, ← plan_p, List.length_map]
def planByOrder (ts : List Int) (l : List TN) (order : List Int) : List Int × Int := if codeO ts l order = 0 then (plan ts l order, 0) else ([], codeO ts l order)
/-- The sum of what is later than ready. -/
def dlGo (l : List TN) : List Int → Nat → Int
  | [], _ => 0
  | s :: r, i => s - (wishAt l i).p + dlGo l r (i + 1)
def sumOfDelays (ts : List Int) (l : List TN) (order : List Int) : Int × Int := if codeO ts l order = 0 then (dlGo l (plan ts l order) 0, 0) else (0, codeO ts l order)
end Go.Proofs.Ytklfjekpeoigoaa
namespace Go.Proofs.Ytklfjekpeoigoaa
open Go.RowKit

theorem dlGo_drop {l : List TN} {xs : List Int} {k : Nat} {z : Int} (h : xs[k]? = some z) : dlGo l (xs.drop k) k = z - (wishAt l k).p + dlGo l (xs.drop (k + 1)) (k + 1) := by rw [drop_cons h, dlGo]
end Go.Proofs.Ytklfjekpeoigoaa
namespace Go.Proofs.Ytklfjekpeoigoaa
open Go.RowKit

def endGo (ts : List Int) : Int → List Int → Int
  | f, [] => f
  | f, t :: r => endGo ts (f + tmOf ts t) r
theorem endGo_bd {ts : List Int} (hts : OkTimes ts) : ∀ {way : List Int} {f : Int}, (∀ t ∈ way, 0 ≤ t ∧ t ≤ (ts.length : Int) - 1) → f ≤ endGo ts f way ∧ endGo ts f way ≤ f + 1000 * way.length := by
  intro way
  induction way with
  | nil => intro f _; simp [endGo]
  | cons t r ih =>
    intro f h
    have h1 := tmOf_bd hts (h t (List.mem_cons_self ..))
    have h2 := ih (f := f + tmOf ts t) fun t ht => h t (List.mem_cons_of_mem _ ht)
    rw [endGo, List.length_cons]; omega
theorem endGo_drop {ts way : List Int} {k : Nat} {t : Int} (h : way[k]? = some t) (f : Int) : endGo ts f (way.drop k) = endGo ts (f + tmOf ts t) (way.drop (k + 1)) := by rw [drop_cons h, endGo]
theorem ordGo_nodup {n : Int} : ∀ {r pre : List Int}, ordGo n pre r = true → r.Nodup ∧ ∀ k ∈ r, k ∉ pre := by
  intro r
  induction r with
  | nil => intro pre _; exact ⟨List.nodup_nil, fun k hk => by cases hk⟩
  | cons a r ih =>
    intro pre h
    rw [ordGo] at h
    simp only [Bool.and_eq_true, Bool.not_eq_true'] at h
    obtain ⟨i1, i2⟩ := ih h.2.2
    have ha : a ∉ pre := fun hm => by
      have := h.2.1
      rw [show hasI pre a = true from List.any_eq_true.2 ⟨a, hm, by simp⟩] at this
      cases this
    refine ⟨List.nodup_cons.2 ⟨fun hm => i2 a hm (List.mem_append.2 (.inr (List.mem_singleton.2 rfl))), i1⟩, fun k hk => ?_⟩
    rcases List.mem_cons.1 hk with rfl | hk
    · exact ha
    · exact fun hm => i2 k hk (List.mem_append.2 (.inl hm))
theorem order_all {ts : List Int} {l : List TN} {order : List Int} (h : codeO ts l order = 0) {i : Nat} (hi : i < l.length) : (i : Int) ∈ order := by
  obtain ⟨_, hol, hoi⟩ := codeO_ok h
  have hnd : order.Nodup := by
    unfold codeO at h
    split at h
    · split at h
      · rename_i ho
        unfold ordOk at ho
        simp only [Bool.and_eq_true] at ho
        exact (ordGo_nodup ho.1).1
      · omega
    · omega
  refine Classical.byContradiction fun hne => ?_
  have h1 : ((i : Int) :: order).Nodup := List.nodup_cons.2 ⟨hne, hnd⟩
  have h2 := h1.length_le_of_subset (l₂ := (List.range l.length).map fun (j : Nat) => (j : Int)) fun z hz => by
    rcases List.mem_cons.1 hz with rfl | hz
    · exact List.mem_map.2 ⟨i, List.mem_range.2 hi, rfl⟩
    · have := hoi z hz
      exact List.mem_map.2 ⟨z.toNat, List.mem_range.2 (by omega), by omega⟩
  rw [List.length_cons, List.length_map, List.length_range] at h2
  omega
theorem planRGo_way (ts : List Int) (l : List TN) : ∀ (order : List Int) (done out : List TN) (i : Nat) (e : TN), (∀ k ∈ order, 0 ≤ k) → (planRGo ts l order done out)[i]? = some e → ((i : Int) ∈ order ∨ ∃ e0, out[i]? = some e0 ∧ e0.way = (wishAt l i).way) → e.way = (wishAt l i).way := by
  intro order
  induction order with
  | nil =>
    intro done out i e _ he h
    rcases h with h | ⟨e0, h1, h2⟩
    · cases h
    · rw [planRGo] at he; rw [h1] at he; cases he; exact h2
  | cons k r ih =>
    intro done out i e hk he h
    rw [planRGo] at he
    have hk0 := hk k (List.mem_cons_self ..)
    refine ih _ _ i e (fun k' hk' => hk k' (List.mem_cons_of_mem _ hk')) he ?_
    by_cases hik : (i : Int) = k
    · by_cases hl : i < out.length
      · right
        refine ⟨_, by rw [show k.toNat = i by omega]; exact List.getElem?_set_self hl, by rw [hik]⟩
      · exfalso
        have hlen : ∀ (order : List Int) (done out : List TN), (planRGo ts l order done out).length = out.length := by
          intro order
          induction order with
          | nil => intro done out; rfl
          | cons k r ih => intro done out; rw [planRGo, ih, List.length_set]
        have := lt_of_get he
        rw [hlen, List.length_set] at this
        omega
    · rcases h with h | ⟨e0, h1, h2⟩
      · rcases List.mem_cons.1 h with h | h
        · exact absurd h hik
        · exact .inl h
      · right
        exact ⟨e0, by rw [List.getElem?_set_ne (by omega)]; exact h1, h2⟩
theorem planR_way {ts : List Int} {l : List TN} {order : List Int} (h : codeO ts l order = 0) {i : Nat} {e : TN} (he : (planR ts l order)[i]? = some e) : e.way = (wishAt l i).way := by
  have hil : i < l.length := by have := lt_of_get he; rw [planR_len] at this; exact this
  exact planRGo_way ts l order _ _ i e (fun k hk => ((codeO_ok h).2.2 k hk).1) he (.inl (order_all h hil))
set_option maxRecDepth 100000 in
theorem l00MaxR_any (a b : Int) (w : World) : Calls Try.prog 122 #[.int .i64 a, .int .i64 b] w fun e w' => e = .returned (.int .i64 (max a b)) ∧ w = w' := by
  by_cases h : b < a
  · have HR := hide (Int.max_eq_left (show b ≤ a by omega))
    go_enter Try.func122, Try.ntmps122
    go_wp2_with fail
    go_ret
    exact ⟨ret_i HR.out.symm, rfl⟩
  · have HR := hide (Int.max_eq_right (show a ≤ b by omega))
    go_enter Try.func122, Try.ntmps122
    go_wp2_with fail
    go_ret
    exact ⟨ret_i HR.out.symm, rfl⟩
/-- The last end, and the late wishes, of these starts from a wish on. -/
def leGo (ts : List Int) (l : List TN) : List Int → Nat → Int → Int
  | [], _, m => m
  | s :: r, i, m => leGo ts l r (i + 1) (max m (endGo ts s (wishAt l i).way))
def laGo (ts : List Int) (l : List TN) : List Int → Nat → List Int
  | [], _ => []
  | s :: r, i => if (wishAt l i).q < endGo ts s (wishAt l i).way then (i : Int) :: laGo ts l r (i + 1) else laGo ts l r (i + 1)
theorem leGo_drop {ts : List Int} {l : List TN} {xs : List Int} {k : Nat} {z : Int} (h : xs[k]? = some z) (m : Int) : leGo ts l (xs.drop k) k m = leGo ts l (xs.drop (k + 1)) (k + 1) (max m (endGo ts z (wishAt l k).way)) := by rw [drop_cons h, leGo]
theorem laGo_drop {ts : List Int} {l : List TN} {xs : List Int} {k : Nat} {z : Int} (h : xs[k]? = some z) : laGo ts l (xs.drop k) k = if (wishAt l k).q < endGo ts z (wishAt l k).way then (k : Int) :: laGo ts l (xs.drop (k + 1)) (k + 1) else laGo ts l (xs.drop (k + 1)) (k + 1) := by rw [drop_cons h, laGo]
def lastEnd (ts : List Int) (l : List TN) (order : List Int) : Int × Int := if codeO ts l order = 0 then (leGo ts l (plan ts l order) 0 0, 0) else (0, codeO ts l order)
def lateWishes (ts : List Int) (l : List TN) (order : List Int) : List Int × Int := if codeO ts l order = 0 then (laGo ts l (plan ts l order) 0, 0) else ([], codeO ts l order)
end Go.Proofs.Ytklfjekpeoigoaa
namespace Go.Proofs.Ytklfjekpeoigoaa
open Go.ChangeShapes Go.WideShapes Go.ChangeAt Go.RowKit

def Rises (xs : List Int) (n : Int) : Prop := (∀ z ∈ xs, 0 ≤ z ∧ z < n) ∧ ∀ k a b, xs[k]? = some a → xs[k + 1]? = some b → a < b
set_option maxRecDepth 100000 in
set_option maxHeartbeats 4000000 in
theorem a2Rises_any (xs : List Int) (n : Int) (A : Option Addr) (c : Nat) (w : World) (hx : xs.length ≤ 1048576) (hr : Rises xs n) (h1 : RdI w w.heap.size A xs) :
    Calls Try.prog 58 #[.slice A xs.length c, .int .i64 n] w fun e w' => e = .returned (.bool true) ∧ Below w.heap.size w w' := by
  have HX := hide h1
  have HR := hide hr
  clear h1 hr
  go_enter Try.func58, Try.ntmps58
  go_wp2_with fail
  go_loopg [5] xs.length (fun g i wr => ∃ k : Nat, k ≤ xs.length ∧ Hid (g = xs.length - k) ∧ i = .int .i64 k ∧ Below w.heap.size w wr)
  case atStart => exact ⟨0, by omega, by simp [Hid], rfl, Below.refl _ _⟩
  case round =>
    obtain ⟨k, hk, hg, rfl, hb0⟩ := hrel
    by_cases hlt : k < xs.length
    · obtain ⟨b, o, z, rfl, hb, hz, hc⟩ := (HX.out.below hb0).at_ hlt
      obtain ⟨hz0, hzn⟩ := HR.out.1 z (List.mem_of_getElem? hz)
      have hD1 : decide (z < 0) = false := decide_eq_false (by omega)
      have hD2 : decide (n ≤ z) = false := decide_eq_false (by omega)
      have hkl : (k : Int) < xs.length := by omega
      by_cases hk0 : k = 0
      · clear hz
        have hD0 : decide ((0 : Int) < (k : Int)) = false := decide_eq_false (by omega)
        have hD4 : decide (0 < k) = false := decide_eq_false (by omega)
        have hK := hide hk0
        clear hk0
        go_wp2_with fail
        go_quiet (fail)
        go_wp2_with fail
        go_roundg (xs.length - (k + 1))
        case measure => have := hg.out; omega
        case rel => exact ⟨k + 1, by omega, rfl, by go_num, bdn hb0 _⟩
      · obtain ⟨j, rfl⟩ : ∃ j, k = j + 1 := ⟨k - 1, by omega⟩
        obtain ⟨b', o', y, hA, _, hy, hc'⟩ := (HX.out.below hb0).at_ (k := j) (by omega)
        cases hA
        have hlt2 := HR.out.2 j y z hy hz
        have hD3 : decide (z ≤ y) = false := decide_eq_false (by omega)
        have hj0 : (0 : Int) ≤ (j : Int) := by omega
        clear hz hy
        have HWR := hide (show IntKind.i64.wrap (j : Int) = (j : Int) by rw [IntKind.wrap_i64] <;> omega)
        go_wp2_with fail
        have hwr := HWR.out
        go_quiet (fail)
        clear hwr
        go_wp2_with fail
        go_roundg (xs.length - (j + 1 + 1))
        case measure => have := hg.out; omega
        case rel => exact ⟨j + 1 + 1, by omega, rfl, by go_num, bdn hb0 _⟩
    · go_wp2_with fail
      go_ret
      exact ⟨rfl, hb0⟩
end Go.Proofs.Ytklfjekpeoigoaa
namespace Go.Proofs.Ytklfjekpeoigoaa
open Go.ChangeShapes Go.WideShapes Go.ChangeAt Go.RowKit

def GoodTo (k : Nat) (xs : List Int) : Prop := xs.length = k ∧ (∀ z ∈ xs, 0 ≤ z ∧ z < k) ∧ xs.Nodup
theorem GoodTo.insert {k : Nat} {xs : List Int} (h : GoodTo k xs) (j : Nat) : GoodTo (k + 1) (xs.take j ++ [(k : Int)] ++ xs.drop j) := by
  obtain ⟨h1, h2, h3⟩ := h
  have hp : (xs.take j ++ [(k : Int)] ++ xs.drop j).Perm ((k : Int) :: xs) := by
    have h : (xs.take j ++ ((k : Int) :: xs.drop j)).Perm ((k : Int) :: (xs.take j ++ xs.drop j)) := List.perm_middle
    rw [List.take_append_drop] at h
    rw [List.append_assoc]
    exact h
  refine ⟨by rw [hp.length_eq, List.length_cons, h1], fun z hz => ?_, hp.nodup_iff.2 (List.nodup_cons.2 ⟨fun hm => ?_, h3⟩)⟩
  · rcases List.mem_cons.1 (hp.mem_iff.1 hz) with rfl | hz
    · omega
    · have := h2 z hz; omega
  · have := h2 _ hm; omega
set_option maxRecDepth 100000 in
set_option maxHeartbeats 1000000 in
theorem own00_any (xs : List Int) (A : Option Addr) (c : Nat) (w : World) (hx : xs.length ≤ 1048576) (h1 : RdI w w.heap.size A xs) :
    Calls Try.prog 137 #[.slice A xs.length c] w fun e w' => ∃ A' c', e = .returned (.slice A' xs.length c') ∧ w'.ownsRow w.heap.size 2 1 (.slice A' xs.length c') xs.length (xs.map (Value.int .i64)) ∧ Below w.heap.size w w' := by
  obtain ⟨i0, hi0, hz0, hs0, hb0⟩ := info_parts int64_info
  have HX := hide h1; clear h1
  go_enter Try.func137, Try.ntmps137
  have ho0 := own_new0 w w.heap.size 2 1 (Nat.le_refl _)
  have hb1 : Below w.heap.size w (w.alloc (.cells #[] 2)) := (Below.refl _ _).alloc (Nat.le_refl _) _
  have HR := hide (Rd.below HX.out hb1)
  go_wp2_with (at_builtin; go_must (refine wp_app _ rfl _ _ 22 rfl w.heap.size 2 i0 (.int .i64 0) 1 8 Try.underlying22 hi0 hz0 hs0 hb0 rfl (by decide) _ _ _ rfl ho0 _ _ xs.length c _ rfl (by simp) HR.out (ints_one _) (by omega) (by decide) (by simp) ?_); intro v' w1 hown' hgrow hat)
  go_ret
  simp only [Nat.zero_add, List.nil_append] at hown'
  obtain ⟨A', c', rfl, _⟩ := own_shape hown'
  exact ⟨A', c', rfl, hown', app_below hb1 ho0 hgrow (Nat.le_refl _) (by simp)⟩
end Go.Proofs.Ytklfjekpeoigoaa
namespace Go.Proofs.Ytklfjekpeoigoaa
open Go.RowKit
set_option maxRecDepth 100000 in
set_option maxHeartbeats 8000000 in
theorem msWalk_any (w0 : World) (gp gm cm : Nat) (Ac Ag : Option Addr) (cc cg : Nat) (cs : List TN) (gs : List Int) (nm : Nat) (hok : OkS nm gs cs) : ∀ (r k fr : Nat) (cost : Int) (w : World) (more tk best : List Int) (At : Option Addr) (ct : Nat) (vb : Value) (least : Int),
    k + r = gs.length → tk.length = k → OkM nm more → (∀ z ∈ tk, 0 ≤ z ∧ z < nm) → (0 < r → fr = firstOf gs tk) → fr ≤ nm → (0 ≤ cost ∧ cost ≤ 1000 * (k : Int)) → (-1 ≤ least ∧ least ≤ 6000) → best.length ≤ 6 → SwI w0 gp gm cm Ac Ag cc cg cs gs w more tk best (.slice At tk.length ct) vb least →
    Calls Try.prog 123 #[.pointer (some ⟨gp, 0, none⟩), .int .i64 k, .int .i64 fr, .int .i64 cost] w fun e w' => e = .returned (.tuple #[]) ∧ ∃ (At' : Option Addr) (ct' : Nat) (best' : List Int) (vb' : Value) (least' : Int), (best', least') = srch gs cs nm r tk more cost (best, least) ∧ (-1 ≤ least' ∧ least' ≤ 6000) ∧ best'.length ≤ 6 ∧ SwI w0 gp gm cm Ac Ag cc cg cs gs w' more tk best' (.slice At' tk.length ct') vb' least' := by
  obtain ⟨i0, hi0, hz0, hs0, hb0⟩ := info_parts int64_info
  intro r
  induction r with
  | zero =>
    intro k fr cost w more tk best At ct vb least hk hT hM hTb hfr hfn hc hl hbl hI
    have hgl := hok.2.1
    have HI := hide hI
    have c5 : w.cell? ⟨gp, 5, none⟩ = some (.int .i64 least) := hI.box.cell 5
    have c2 : w.cell? ⟨gp, 2, none⟩ = some (.slice Ag gs.length cg) := hI.box.cell 2
    clear hI hfr hTb
    by_cases hp : 0 ≤ least ∧ least ≤ cost
    · obtain ⟨hp1, hp2⟩ := hp
      go_enter Try.func123, Try.ntmps123
      go_wp2_with fail
      (try simp only [Exit.inBlock, Exit.then]); refine bodyPost_ret (results_none rfl _ _ _) rfl ?_
      exact ⟨rfl, At, ct, best, vb, least, by rw [srch, if_pos ⟨hp1, hp2⟩], hl, hbl, HI.out⟩
    · have HP := hide hp
      have hq : least < 0 ∨ cost < least := by omega
      have hkI : ((k : Int) == (gs.length : Int)) = true := by simp; omega
      have f5 := HI.out.box.fro 5
      have I1 := hide (HI.out.setl cost)
      have c3 : (w.setCell ⟨gp, 5, none⟩ (.int .i64 cost)).cell? ⟨gp, 3, none⟩ = some (.slice At tk.length ct) := I1.out.box.cell 3
      have HCL := hide (own00_any tk At ct (w.setCell ⟨gp, 5, none⟩ (.int .i64 cost)) (by omega) (by have h := Rd.of_own I1.out.rt; exact h))
      have hcz : cost ≤ 6000 := by omega
      have HT6 := hide (show tk.length ≤ 6 by omega)
      clear hp hT hk
      have hcs : least < 0 ∨ (0 ≤ least ∧ cost < least) := by omega
      clear hq
      rcases hcs with hq | ⟨hq, hq2⟩
      all_goals (
        go_enter Try.func123, Try.ntmps123
        go_wp2_with (go_at_call 137; (with_reducible refine (HCL.out).mono ?_); rintro e w1 ⟨A1, c1', rfl, hown, b1⟩; have I2 := hide (I1.out.below b1); have d4 : w1.cell? ⟨gp, 4, none⟩ = some vb := I2.out.box.cell 4; have f4 := I2.out.box.fro 4)
        (try simp only [Exit.inBlock, Exit.then]); refine bodyPost_ret (results_none rfl _ _ _) rfl ?_
        have hne : ∀ g, g < (w.setCell ⟨gp, 5, none⟩ (.int .i64 cost)).heap.size → (Value.slice A1 tk.length c1').ownBlock ≠ some g := fun g hg e => by have := (hown.lt g e).1; omega
        have hI2 := I2.out.setb (b2 := tk) (own_base hown I1.out.bel.size) ⟨hne _ I1.out.box.lt, hne _ (I1.out.rm.lt gm rfl).2, fun g e => hne _ (I1.out.rt.lt g e).2⟩
        refine ⟨rfl, At, ct, tk, _, cost, ?_, by omega, HT6.out, hI2⟩
        rw [srch, if_neg HP.out])
  | succ r ih =>
    intro k fr cost w more tk best At ct vb least hk hT hM hTb hfr hfn hc hl hbl hI
    have hgl := hok.2.1
    have HI := hide hI
    have c5 : w.cell? ⟨gp, 5, none⟩ = some (.int .i64 least) := hI.box.cell 5
    have c2 : w.cell? ⟨gp, 2, none⟩ = some (.slice Ag gs.length cg) := hI.box.cell 2
    have hkl : k < gs.length := by omega
    clear hI
    by_cases hp : 0 ≤ least ∧ least ≤ cost
    · obtain ⟨hp1, hp2⟩ := hp
      go_enter Try.func123, Try.ntmps123
      go_wp2_with fail
      (try simp only [Exit.inBlock, Exit.then]); refine bodyPost_ret (results_none rfl _ _ _) rfl ?_
      exact ⟨rfl, At, ct, best, vb, least, by rw [srch, if_pos ⟨hp1, hp2⟩], hl, hbl, HI.out⟩
    have HP := hide hp
    have hq : least < 0 ∨ cost < least := by omega
    have hcz : cost ≤ 6000 := by omega
    have hkl' : (k : Int) < (gs.length : Int) := by omega
    have HTL := hide hT
    have HK := hide hk
    have hkI : ((k : Int) == (gs.length : Int)) = false := by simp; omega
    have hcs : least < 0 ∨ (0 ≤ least ∧ cost < least) := by omega
    obtain ⟨gk, hgk⟩ : ∃ z, gs[k]? = some z := ⟨_, List.getElem?_eq_getElem hkl⟩
    have HGK := hide hgk
    have HFR := hide (hfr (by omega))
    have HM := hide hM
    have hnm10 := hok.1
    have hmn : more.length ≤ nm := by have := hM.1; omega
    have hmn2 : nm ≤ more.length := by have := hM.1; omega
    have HTB := hide hTb
    have HLE := hide hl
    have hgkb := hok.2.2.1 gk (List.mem_of_getElem? HGK.out)
    obtain ⟨kn, rfl⟩ := Int.eq_ofNat_of_zero_le hgkb.1
    have hkn : kn < nm := by omega
    have HT := hide (show srch gs cs nm (r + 1) tk more cost (best, least) = ((List.range nm).drop fr).foldl (fun st i => if at0 more i = 0 then st else srch gs cs nm r (tk ++ [(i : Int)]) (more.set i (at0 more i - 1)) (cost + costAt cs (i : Int) (kn : Int)) st) (best, least) by
      rw [srch, if_neg HP.out, ← HFR.out, HTL.out, at0_get HGK.out])
    clear hp hT hk hq hgk hfr hM hTb hl hgkb
    go_enter Try.func123, Try.ntmps123
    go_upto_region 0 with fail
    go_cut [22] (fun c wx => c = .bool false ∧ w = wx)
    case first =>
      rcases hcs with hq | ⟨hq, hq2⟩
      all_goals (
        go_wp2_with fail
        go_meet
        exact ⟨by first | rfl | (congr 1; exact decide_eq_false (by omega)), rfl⟩)
    case rest =>
      obtain ⟨rfl, rfl⟩ := hcut
      clear hcs c5
      go_wp2_with fail
      go_loopg [8] (nm - fr) (fun g iv wr => ∃ (i : Nat) (At' : Option Addr) (ct' : Nat) (best' : List Int) (vb' : Value) (least' : Int), i ≤ nm ∧ Hid (g = nm - i) ∧ iv = .int .i64 i ∧ Hid (srch gs cs nm (r + 1) tk more cost (best, least) = ((List.range nm).drop i).foldl (fun st i => if at0 more i = 0 then st else srch gs cs nm r (tk ++ [(i : Int)]) (more.set i (at0 more i - 1)) (cost + costAt cs (i : Int) (kn : Int)) st) (best', least')) ∧ Hid (-1 ≤ least' ∧ least' ≤ 6000) ∧ Hid (best'.length ≤ 6) ∧ Hid (SwI w0 gp gm cm Ac Ag cc cg cs gs wr more tk best' (.slice At' tk.length ct') vb' least'))
      case atStart => exact ⟨fr, At, ct, best, vb, least, hfn, by simp [Hid], rfl, HT.out, HLE.out, hbl, HI.out⟩
      case round =>
        obtain ⟨i, At', ct', best', vb', least', hi, hg, rfl, HS, HLE2, HBL2, HIR⟩ := hrel
        clear HI c2
        have c1 : wr.cell? ⟨gp, 1, none⟩ = some (.slice (some ⟨gm, 0, none⟩) more.length cm) := HIR.out.box.cell 1
        by_cases hin : i < nm
        · obtain ⟨z, hz⟩ : ∃ z, more[i]? = some z := ⟨_, List.getElem?_eq_getElem (by omega)⟩
          have hzb := HM.out.2 z (List.mem_of_getElem? hz)
          have cz : wr.cell? ⟨gm, i, none⟩ = some (.int .i64 z) := by rw [HIR.out.rm.cellAt i (by omega), List.getElem?_map, hz]; rfl
          have hil : (i : Int) < (more.length : Int) := by omega
          have hiN : (0 : Int) ≤ (i : Int) := by omega
          have hS := HS.out
          rw [drop_cons (show (List.range nm)[i]? = some i by rw [List.getElem?_range hin]), List.foldl_cons, at0_get hz] at hS
          have HZ := hide hz
          clear hz HS
          by_cases hz0 : z = 0
          · have hB : (z == 0) = true := by simp [hz0]
            rw [if_pos hz0] at hS
            have HS2 := hide hS
            have HZ0 := hide hz0
            clear hz0 hS
            go_wp2_with fail
            go_roundg (nm - (i + 1))
            case measure => have := hg.out; omega
            case rel => exact ⟨i + 1, At', ct', best', vb', least', by omega, rfl, by go_num, HS2, HLE2, HBL2, HIR⟩
          · have hB : (z == 0) = false := by simp [hz0]
            rw [if_neg hz0] at hS
            have HS2 := hide hS
            have hz1 : 1 ≤ z := by omega
            have hz2 : z ≤ 1000 := hzb.2
            clear hz0 hS hzb
            have I1 := hide (HIR.out.setm i (z - 1))
            have fz := HIR.out.rm.frozenAt i
            go_upto_region 9 with fail
            generalize (wr.setCell ⟨gm, i, none⟩ (.int .i64 (z - 1))) = wA at *
            clear HIR c1 cz fz
            have e3 : wA.cell? ⟨gp, 3, none⟩ = some (.slice At' tk.length ct') := I1.out.box.cell 3
            have I2 := hide (I1.out.below ((Below.refl _ _).alloc (Nat.le_refl _) (.cells #[.int .i64 (i : Int)] 2)))
            have rt1 := I1.out.rt
            have htk6 : tk.length ≤ 6 := by have := HTL.out; omega
            have hszA : w0.heap.size ≤ wA.heap.size := I1.out.bel.size
            go_upto_region 10 with ((at_builtin; go_must (refine wp_app _ rfl _ _ 22 rfl (w0.heap.size) 2 i0 (.int .i64 0) 1 8 Try.underlying22 hi0 hz0 hs0 hb0 rfl (by decide) _ _ _ rfl (rt1.alloc _) _ _ 1 1 [.int .i64 (i : Int)] rfl rfl (rd_new _ _ _ _ (by simp)) (int_one _) (by omega) (by decide) (by simp <;> omega) ?_); intro v3 w3 hown3 hgrow hat); obtain ⟨A3, c3, rfl, hc3, hcm3⟩ := own_shape hown3; obtain ⟨g3, rfl, _, _⟩ := own_posN' hown3 (by omega); have X3 : BoxN w3 gp _ _ := (hgrow.block gp I2.out.box.lt (fun e => I2.out.nt.1 e.symm)).trans I2.out.box; have f3 := X3.fro 3; have d3 := X3.cell 3)
            have hp3 := I2.out.push (i := (i : Int)) (v' := .slice (some ⟨g3, 0, none⟩) (tk.length + 1) c3) (w5 := w3) hown3 hgrow hat
            have htl : (tk ++ [(i : Int)]).length = tk.length + 1 := by rw [List.length_append]; rfl
            have I3 := hide hp3
            clear hp3 I2 I1 hgrow hat hown3 rt1 X3 f3 d3 e3 hszA
            generalize (w3.setCell ⟨gp, 3, none⟩ (.slice (some ⟨g3, 0, none⟩) (tk.length + 1) c3)) = wB at *
            have b2 : wB.cell? ⟨gp, 2, none⟩ = some (.slice Ag gs.length cg) := I3.out.box.cell 2
            obtain ⟨gg, rfl, _, _⟩ := own_posN' I3.out.rg (by omega)
            have cgk : wB.cell? ⟨gg, k, none⟩ = some (.int .i64 (kn : Int)) := by rw [I3.out.rg.cellAt k (by omega), List.getElem?_map, HGK.out]; rfl
            have hwk : IntKind.i64.wrap ((k : Int) + 1) = (k : Int) + 1 := by rw [IntKind.wrap_i64] <;> omega
            have hk0 : (0 : Int) ≤ (k : Int) := by omega
            go_upto_region 11 with fail
            go_cut [104] (fun c wx => ∃ bb : Bool, c = .bool bb ∧ Hid (bb = true → firstOf gs (tk ++ [(i : Int)]) = i) ∧ Hid (0 < r → bb = false → firstOf gs (tk ++ [(i : Int)]) = 0) ∧ Hid (SwI w0 gp gm cm Ac (some ⟨gg, 0, none⟩) cc cg cs gs wx (more.set i (z - 1)) (tk ++ [(i : Int)]) best' (.slice (some ⟨g3, 0, none⟩) (tk.length + 1) c3) vb' least'))
            case first =>
              by_cases hk1 : k + 1 < gs.length
              · obtain ⟨gj, hgj⟩ : ∃ z, gs[k + 1]? = some z := ⟨_, List.getElem?_eq_getElem hk1⟩
                have e1 : wB.cell? ⟨gg, k + 1, none⟩ = some (.int .i64 gj) := by rw [I3.out.rg.cellAt (k + 1) (by omega), List.getElem?_map, hgj]; rfl
                have hk1i : (k : Int) + 1 < (gs.length : Int) := by omega
                have hk10 : (0 : Int) ≤ (k : Int) + 1 := by omega
                have hd1 : decide ((k : Int) + 1 < (gs.length : Int)) = true := decide_eq_true hk1i
                have hkn1 : ((k : Int) + 1).toNat = k + 1 := by omega
                have HGJ := hide hgj
                clear hgj
                by_cases heq : gj = (kn : Int)
                · have hB : (gj == (kn : Int)) = true := by simp [heq]
                  have HEQ := hide heq
                  clear heq
                  go_quiet (fail)
                  go_wp2_with fail
                  go_meet
                  exact ⟨true, rfl, (fun _ => by unfold firstOf; rw [htl, HTL.out, if_pos ⟨by omega, by rw [show k + 1 - 1 = k by omega, at0_get HGK.out, at0_get HGJ.out, HEQ.out]⟩, at0_get (z := (i : Int)) (by rw [List.getElem?_append_right (by rw [HTL.out]; omega), HTL.out, show k + 1 - 1 - k = 0 by omega]; rfl), Int.toNat_natCast]), (fun _ h => by cases h), I3.out.below (bdn (Below.refl _ _) nq)⟩
                · have hB : (gj == (kn : Int)) = false := by simp [heq]
                  have HEQ := hide heq
                  clear heq
                  go_quiet (fail)
                  go_wp2_with fail
                  go_meet
                  exact ⟨false, rfl, (fun h => by cases h), (fun _ _ => by unfold firstOf; rw [htl, HTL.out, if_neg (fun h => HEQ.out (by have := h.2; rw [show k + 1 - 1 = k by omega, at0_get HGK.out, at0_get HGJ.out] at this; exact this.symm))]), I3.out.below (bdn (Below.refl _ _) nq)⟩
              · have hd1 : decide ((k : Int) + 1 < (gs.length : Int)) = false := decide_eq_false (by omega)
                go_quiet (fail)
                go_wp2_with fail
                go_meet
                exact ⟨false, rfl, (fun h => by cases h), (fun h _ => by have := HK.out; omega), I3.out.below (bdn (Below.refl _ _) nq)⟩
            case rest =>
              obtain ⟨bb, rfl, HT1, HF1, HI2⟩ := hcut
              clear b2 cgk I3 hwk
              go_upto_if 104 with fail
              go_cut [9] (fun c wx => ∃ nx : Nat, c = .int .i64 nx ∧ nx ≤ nm ∧ Hid (0 < r → nx = firstOf gs (tk ++ [(i : Int)])) ∧ Hid (SwI w0 gp gm cm Ac (some ⟨gg, 0, none⟩) cc cg cs gs wx (more.set i (z - 1)) (tk ++ [(i : Int)]) best' (.slice (some ⟨g3, 0, none⟩) (tk.length + 1) c3) vb' least'))
              case first =>
                cases bb
                · have HF2 := hide (fun h : 0 < r => (HF1.out h rfl).symm)
                  clear HF1 HT1
                  go_wp2_with fail
                  go_meet
                  exact ⟨0, by first | rfl | go_num, by omega, HF2.out, HI2.out⟩
                · have HT2 := hide (HT1.out rfl).symm
                  clear HF1 HT1
                  go_wp2_with fail
                  go_meet
                  exact ⟨i, rfl, by omega, (fun _ => HT2.out), HI2.out⟩
              case rest =>
                obtain ⟨nx, rfl, hnx, HNX, HI3⟩ := hcut
                clear HI2 HT1 HF1
                obtain ⟨e, zc, he, hzc, hco, hzc0, hzc1⟩ := cost_at hok hin hkn
                have hel : e.way.length = nm := (hok.2.2.2.2 e (List.mem_of_getElem? he)).1
                have hcl : cs.length = nm := hok.2.2.2.1
                obtain ⟨bc, oc, e2, Aw, cw, hAc, _, he2, hrw, hcc, _, _⟩ := (HI3.out.hc.below HI3.out.bel).at_ (by omega) (k := i) (by omega)
                subst hAc
                obtain rfl := Option.some.inj (he.symm.trans he2)
                obtain ⟨bw, ow, z2, hAw, _, hzc2, hcw⟩ := hrw.at_ (k := kn) (by omega)
                subst hAw
                obtain rfl := Option.some.inj (hzc.symm.trans hzc2)
                rw [Nat.zero_add, Nat.mul_one] at hcc
                obtain ⟨wq, hwq⟩ : ∃ q, q = wc := ⟨_, rfl⟩
                subst hwq
                have cgk : wq.cell? ⟨gg, k, none⟩ = some (.int .i64 (kn : Int)) := by rw [HI3.out.rg.cellAt k (by omega), List.getElem?_map, HGK.out]; rfl
                have b0 : wq.cell? ⟨gp, 0, none⟩ = some (.slice (some ⟨bc, oc, none⟩) cs.length cc) := HI3.out.box.cell 0
                have b2 : wq.cell? ⟨gp, 2, none⟩ = some (.slice (some ⟨gg, 0, none⟩) gs.length cg) := HI3.out.box.cell 2
                have hic : (i : Int) < (cs.length : Int) := by omega
                have hke : (kn : Int) < (e.way.length : Int) := by omega
                have hkn0 : (0 : Int) ≤ (kn : Int) := by omega
                have hwk : IntKind.i64.wrap ((k : Int) + 1) = (k : Int) + 1 := by rw [IntKind.wrap_i64] <;> omega
                have hwc : IntKind.i64.wrap (cost + zc) = cost + zc := by rw [IntKind.wrap_i64] <;> omega
                have HCO := hide hco
                have HCL := hide hcl
                have HEL := hide hel
                clear he he2 hzc hzc2 hrw hco hcl hel
                go_wp2_with fail
                go_still_tail 22, (by kernel_rfl)
                change wpList _ _ _ _ _ wq.drew
                have ID := hide (HI3.out.below (Below.refl _ _).drew)
                clear hcc hcw cgk b0 b2 HI3
                generalize wq.drew = wd at *
                rw [← htl] at ID
                have hih := ih (k + 1) nx (cost + zc) wd (more.set i (z - 1)) (tk ++ [(i : Int)]) best' (some ⟨g3, 0, none⟩) c3 vb' least' (by have := HK.out; omega) (by rw [htl, HTL.out]) (HM.out.set ⟨by omega, by omega⟩) (fun u hu => by
                  rcases List.mem_append.1 hu with hu | hu
                  · exact HTB.out u hu
                  · rw [List.mem_singleton] at hu; omega) HNX.out hnx (by omega) HLE2.out HBL2.out ID.out
                have hkc : ((k : Int) + 1) = ((k + 1 : Nat) : Int) := by omega
                rw [← hkc] at hih
                have HIH := hide hih
                clear hih ih hkc hwk hwc ID
                go_upto_region 14 with (go_at_call 123; (with_reducible refine (HIH.out).mono ?_); rintro e5 w5 ⟨rfl, A5, ct5, best5, vb5, least5, hs5, hl5, hbl5, I5⟩)
                obtain ⟨_, c9, he9, hc9, hcm9⟩ := own_shape I5.rt
                obtain ⟨rfl, rfl⟩ : (_ = A5) ∧ c9 = ct5 := by simp only [Value.slice.injEq] at he9; exact ⟨he9.1.symm, he9.2.2.symm⟩
                clear he9
                obtain ⟨g5, rfl, _, _⟩ := own_posN' I5.rt (by rw [htl]; omega)
                have c35 : w5.cell? ⟨gp, 3, none⟩ = some (.slice (some ⟨g5, 0, none⟩) (tk ++ [(i : Int)]).length c9) := I5.box.cell 3
                have f35 := I5.box.fro 3
                have htkk : (tk ++ [(i : Int)]).take k = tk := by rw [List.take_append_of_le_length (by rw [HTL.out]; omega), List.take_of_length_le (by rw [HTL.out]; omega)]
                have I6 := I5.pop (k := k) (by rw [htl, HTL.out]; omega) rfl
                rw [htkk] at I6
                have H6 := hide I6
                rw [htl] at hc9 c35
                have hkc9 : (k : Int) ≤ (c9 : Int) := by have := HTL.out; omega
                have hkc9' : k ≤ c9 := by have := HTL.out; omega
                have HS5 := hide (show srch gs cs nm (r + 1) tk more cost (best, least) = ((List.range nm).drop (i + 1)).foldl (fun st i => if at0 more i = 0 then st else srch gs cs nm r (tk ++ [(i : Int)]) (more.set i (at0 more i - 1)) (cost + costAt cs (i : Int) (kn : Int)) st) (best5, least5) by
                  rw [HS2.out, hs5, HCO.out])
                have HL5 := hide hl5
                have HBL5 := hide hbl5
                clear I5 I6 hs5 hl5 hbl5
                go_upto_region 15 with fail
                generalize (w5.setCell ⟨gp, 3, none⟩ (.slice (some ⟨g5, 0, none⟩) k c9)) = wE at *
                clear c35 f35
                have hlen5 : (more.set i (z - 1)).length = more.length := List.length_set ..
                have c15 : wE.cell? ⟨gp, 1, none⟩ = some (.slice (some ⟨gm, 0, none⟩) (more.set i (z - 1)).length cm) := H6.out.box.cell 1
                rw [hlen5] at c15
                have cz5 : wE.cell? ⟨gm, i, none⟩ = some (.int .i64 (z - 1)) := by rw [H6.out.rm.cellAt i (by rw [hlen5]; omega), List.getElem?_map, List.getElem?_set_self (by omega)]; rfl
                have fz5 := H6.out.rm.frozenAt i
                have hms : (more.set i (z - 1)).set i z = more := by
                  rw [List.set_set]
                  obtain ⟨h1, h2⟩ := List.getElem?_eq_some_iff.1 HZ.out
                  rw [← h2, List.set_getElem_self]
                have h7 := H6.out.setm i z
                rw [hms] at h7
                rw [show Value.slice (some (⟨g5, 0, none⟩ : Addr)) k c9 = Value.slice (some ⟨g5, 0, none⟩) tk.length c9 by rw [HTL.out]] at h7
                have I7 := hide h7
                have hwz : z - 1 + 1 = z := by omega
                clear H6 h7 hlen5 hms
                go_wp2_with fail
                go_roundg (nm - (i + 1))
                case measure => have := hg.out; omega
                case rel => exact ⟨i + 1, some ⟨g5, 0, none⟩, c9, best5, vb5, least5, by omega, rfl, by go_num, HS5, HL5, HBL5, I7⟩
        · have hd : (List.range nm).drop i = [] := List.drop_eq_nil_of_le (by simp; omega)
          have HE := hide (show (best', least') = srch gs cs nm (r + 1) tk more cost (best, least) by rw [HS.out, hd]; rfl)
          have hni : ¬ ((i : Int) < (more.length : Int)) := by omega
          clear hd
          go_wp2_with fail
          go_end0
          exact ⟨rfl, At', ct', best', vb', least', HE.out, HLE2.out, HBL2.out, HIR.out⟩
end Go.Proofs.Ytklfjekpeoigoaa
