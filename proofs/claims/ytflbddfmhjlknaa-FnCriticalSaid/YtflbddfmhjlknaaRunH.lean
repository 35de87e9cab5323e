/-
  The plan of wishes by an order; in the reference.
-/
import Derived.Test.YtflbddfmhjlknaaRunG
import Derived.Test.YtflbddfmhjlknaaRunO
namespace Go.Proofs.Ytflbddfmhjlknaa
open Go.RowKit

def wishAt (l : List TN) (k : Int) : TN := (l[k.toNat]?).getD ⟨[], 0, 0⟩
def startOf (ts : List Int) (l done : List TN) (k : Int) : Int := estOf ts (takenOf ts done) (wishAt l k).way (wishAt l k).p
def planGo (ts : List Int) (l : List TN) : List Int → List TN → List Int → List Int
  | [], _, out => out
  | k :: r, done, out => planGo ts l r (done ++ [⟨(wishAt l k).way, startOf ts l done k, 0⟩]) (out.set k.toNat (startOf ts l done k))
def planRGo (ts : List Int) (l : List TN) : List Int → List TN → List TN → List TN
  | [], _, out => out
  | k :: r, done, out => planRGo ts l r (done ++ [⟨(wishAt l k).way, startOf ts l done k, 0⟩]) (out.set k.toNat ⟨(wishAt l k).way, startOf ts l done k, 0⟩)
def plan (ts : List Int) (l : List TN) (order : List Int) : List Int := planGo ts l order [] (List.replicate l.length 0)
def planR (ts : List Int) (l : List TN) (order : List Int) : List TN := planRGo ts l order [] (List.replicate l.length ⟨[], 0, 0⟩)
theorem planR_p (ts : List Int) (l : List TN) : ∀ (order : List Int) (done out : List TN), (planRGo ts l order done out).map (·.p) = planGo ts l order done (out.map (·.p)) := by
  intro order
  induction order with
  | nil => intro done out; rfl
  | cons k r ih => intro done out; rw [planRGo, planGo, ih, List.map_set]
theorem plan_p (ts : List Int) (l : List TN) (order : List Int) : (planR ts l order).map (·.p) = plan ts l order := by
  unfold planR plan; rw [planR_p, List.map_replicate]
theorem planGo_len (ts : List Int) (l : List TN) : ∀ (order : List Int) (done : List TN) (out : List Int), (planGo ts l order done out).length = out.length := by
  intro order
  induction order with
  | nil => intro done out; rfl
  | cons k r ih => intro done out; rw [planGo, ih, List.length_set]
theorem plan_len (ts : List Int) (l : List TN) (order : List Int) : (plan ts l order).length = l.length := by
  unfold plan; rw [planGo_len, List.length_replicate]
def DoneOk (ts : List Int) (n : Nat) (done : List TN) : Prop := done.length = n ∧ ∀ e ∈ done, OkWay ts e.way ∧ 0 ≤ e.p ∧ e.p ≤ 10000 + 12000 * (n : Int)
theorem DoneOk.plan {ts : List Int} {n : Nat} {done : List TN} (h : DoneOk ts n done) (hn : n ≤ 6) : OkPlan ts done :=
  ⟨by rw [h.1]; omega, fun e he => by obtain ⟨h1, h2, h3⟩ := h.2 e he; exact ⟨h1, h2, by omega⟩⟩
theorem start_bd {ts : List Int} (hts : OkTimes ts) {n : Nat} {done : List TN} (h : DoneOk ts n done) {way : List Int} {f : Int} (hw : OkWay ts way) (hf : 0 ≤ f) (hf' : f ≤ 10000) : 0 ≤ estOf ts (takenOf ts done) way f ∧ estOf ts (takenOf ts done) way f ≤ 10000 + 12000 * ((n : Int) + 1) := by
  obtain ⟨h1, h2, _, _⟩ := est_spec (tk := takenOf ts done) hts hw.2 f
  refine ⟨by omega, ?_⟩
  rcases (lastC_spec (takenOf ts done) f).2.2 with h3 | ⟨o, ho, h3⟩
  · omega
  · obtain ⟨e, he, hoe⟩ := List.mem_flatMap.1 ho
    obtain ⟨⟨k1, k2⟩, k3, k4⟩ := h.2 e he
    have := spGo_ge hts k2 o hoe
    omega
theorem DoneOk.next {ts : List Int} (hts : OkTimes ts) {n : Nat} {done : List TN} (h : DoneOk ts n done) {way : List Int} {f : Int} (hw : OkWay ts way) (hf : 0 ≤ f) (hf' : f ≤ 10000) : DoneOk ts (n + 1) (done ++ [⟨way, estOf ts (takenOf ts done) way f, 0⟩]) := by
  obtain ⟨b1, b2⟩ := start_bd hts h hw hf hf'
  refine ⟨by rw [List.length_append, h.1]; rfl, fun e he => ?_⟩
  rcases List.mem_append.1 he with he | he
  · obtain ⟨k1, k2, k3⟩ := h.2 e he; exact ⟨k1, k2, by omega⟩
  · simp only [List.mem_singleton] at he; subst he; exact ⟨hw, b1, by dsimp only; omega⟩
theorem ordGo_in {n : Int} : ∀ {r pre : List Int}, ordGo n pre r = true → ∀ k ∈ r, 0 ≤ k ∧ k ≤ n - 1 := by
  intro r
  induction r with
  | nil => intro pre _ k hk; cases hk
  | cons a r ih =>
    intro pre h k hk
    rw [ordGo] at h
    simp only [Bool.and_eq_true] at h
    rcases List.mem_cons.1 hk with rfl | hk
    · exact inB_iff.1 h.1
    · exact ih h.2.2 k hk
theorem codeO_ok {ts : List Int} {l : List TN} {order : List Int} (h : codeO ts l order = 0) : (OkTimes ts ∧ l.length ≤ 6 ∧ ∀ e ∈ l, OkWish ts e) ∧ order.length = l.length ∧ ∀ k ∈ order, 0 ≤ k ∧ k ≤ (l.length : Int) - 1 := by
  unfold codeO at h
  split at h
  · rename_i hv
    split at h
    · rename_i ho
      unfold ordOk at ho
      simp only [Bool.and_eq_true, decide_eq_true_eq] at ho
      exact ⟨vWishes_iff.1 hv, ho.2, ordGo_in ho.1⟩
    · omega
  · omega
theorem planGo_drop {ts : List Int} {l : List TN} {order : List Int} {k : Nat} {z : Int} (h : order[k]? = some z) (done : List TN) (out : List Int) : planGo ts l (order.drop k) done out = planGo ts l (order.drop (k + 1)) (done ++ [⟨(wishAt l z).way, startOf ts l done z, 0⟩]) (out.set z.toNat (startOf ts l done z)) := by rw [drop_cons h, planGo]
theorem planRGo_drop {ts : List Int} {l : List TN} {order : List Int} {k : Nat} {z : Int} (h : order[k]? = some z) (done out : List TN) : planRGo ts l (order.drop k) done out = planRGo ts l (order.drop (k + 1)) (done ++ [⟨(wishAt l z).way, startOf ts l done z, 0⟩]) (out.set z.toNat ⟨(wishAt l z).way, startOf ts l done z, 0⟩) := by rw [drop_cons h, planRGo]
theorem wishAt_get {l : List TN} {n : Nat} {e : TN} (h : l[n]? = some e) : wishAt l (n : Int) = e := by simp [wishAt, h]
theorem own_atI {w : World} {base : Nat} {e : TypeId} {n c g : Nat} {zs : List Int} (h : w.ownsRow base e 1 (.slice (some ⟨g, 0, none⟩) n c) n (zs.map (Value.int .i64))) {i : Nat} {z : Int} (hz : zs[i]? = some z) : w.cell? ⟨g, i, none⟩ = some (.int .i64 z) := by
  have hl := h.1
  have hi := lt_of_get hz
  simp only [List.length_map, Nat.mul_one] at hl
  rw [h.cellAt i (by omega), List.getElem?_map, hz]; rfl
theorem own_setI {w : World} {base : Nat} {e : TypeId} {n c g : Nat} {zs : List Int} (h : w.ownsRow base e 1 (.slice (some ⟨g, 0, none⟩) n c) n (zs.map (Value.int .i64))) (i : Nat) (z : Int) :
    (w.setCell ⟨g, i, none⟩ (.int .i64 z)).ownsRow base e 1 (.slice (some ⟨g, 0, none⟩) n c) n ((zs.set i z).map (Value.int .i64)) ∧ w.grownBy (w.setCell ⟨g, i, none⟩ (.int .i64 z)) (some g) := by
  have := h.stored i (.int .i64 z)
  rw [← List.map_set] at this
  exact this
end Go.Proofs.Ytflbddfmhjlknaa
