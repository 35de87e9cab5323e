/-
  Runs: copies of their own, and a run delayed; in the program and in the reference.
-/
import Derived.Test.YtofjnmeblmbnmaaRunV
import Derived.Test.YtofjnmeblmbnmaaNestM
import Derived.Test.YtofjnmeblmbnmaaLib
import Derived.Deep.RegionHeld3
namespace Go.Proofs.Ytofjnmeblmbnmaa
open Go.RowKit

section
variable {P : Program}
theorem op_app {o : Oper} {a : Act} {K : Act → World → Prop} {Q : Exit → Act → World → Prop} (w : World) (s x : Operand) (t : TypeId)
    (ho : o.op = .call { callee := .builtin .append, args := #[s, x], argTypes := #[t, t] })
    (base : Nat) (e : TypeId) (i : TypeInfo) (z : Value) (size bytes : Nat) (ht : P.underlying t = some (.slice e)) (hi : P.info? e = some i) (hz : i.zero = some z)
    (hsize : i.size = size) (hby : i.bytes = bytes) (hzs : z.cells.size = size) (hsz : 0 < size)
    (v : Value) (n : Nat) (xs : List Value) (hs : a.eval s = v) (hown : w.ownsRow base e size v n xs)
    (B : Nat) (A : Option Addr) (m c : Nat) (news : List Value) (hx : a.eval x = .slice A m c) (hl : news.length = m * size) (hr : Rd w B A news) (h1 : ∀ u ∈ news, u.oneCell' = true)
    (hn : n + m ≤ 1099511627776) (hb : bytes ≤ 64) (hbase : base ≤ w.heap.size)
    (h : ∀ v' w', w'.ownsRow base e size v' (n + m) (xs ++ news) → w.grownBy w' v.ownBlock → (v'.ownBlock = v.ownBlock ∨ v'.ownBlock = some w.heap.size) → K (a.put o.dst v') w') :
    o.wp P a w K Q := by
  obtain ⟨v', w', hrun, h2, h3, h4⟩ := run_app (P := P) w base t o.type e i z size bytes ht hi hz hsize hby hzs hsz v n xs hown B A m c news hl hr h1 (by unfold maxLen; omega)
    (Nat.le_trans (Nat.mul_le_mul hn hb) (by omega)) hbase
  unfold Oper.wp execOp
  simp only [ho, resolve, invoke, builtin, Sem.run_bind, Sem.run_pure, Result.andThen_ok, List.map_toArray, List.map_cons, List.map_nil, hs, hx, hrun]
  exact h v' w' h2 h3 h4
end
theorem famO_grown {w w' : World} {v v' : Value} {lo : Nat} {ps : List (Value × TN)} {T : TypeId} {s n : Nat} {xs : List Value} (h : FamO w v.ownBlock lo w.heap.size ps) (ho : w.ownsRow lo T s v n xs) (hg : w.grownBy w' v.ownBlock) (hb : v'.ownBlock = v.ownBlock ∨ v'.ownBlock = some w.heap.size) : FamO w' v'.ownBlock lo w'.heap.size ps := by
  have key : ∀ {ps : List (Value × TN)} {lo' : Nat}, FamO w v.ownBlock lo' w.heap.size ps → FamO w' v'.ownBlock lo' w'.heap.size ps := by
    intro ps
    induction ps with
    | nil => intro lo' _; trivial
    | cons p ps ih =>
      intro lo' h
      obtain ⟨a, b, h1, h2, h3, h4, h5, h6⟩ := h
      refine ⟨a, b, h1, h2, Nat.le_trans h3 hg.size, fun g hgg => ?_, ?_, ih h6⟩
      · rcases hb with h | h
        · exact h4 g (by rw [← h]; exact hgg)
        · rw [h] at hgg; cases hgg; exact .inl h3
      · cases hv : v.ownBlock with
        | none =>
          rw [hv] at hg
          exact h5.below (B := w.heap.size) ⟨hg.os, hg.tape, hg.output, hg.size, fun k hk => hg.block k hk (by simp)⟩ h3
        | some g0 =>
          have hg0 := (ho.lt g0 hv).2
          rw [hv] at hg
          exact h5.kept (lo' := g0) (hi' := g0 + 1) ⟨hg.os, hg.tape, hg.output, hg.size, fun k hk ho' => hg.block k hk (by simp; omega)⟩ (by have := h4 g0 hv; omega)
  exact key h

def lateR (x : List TN) (k by_ : Int) : List TN := match x[k.toNat]? with | none => x | some e => x.set k.toNat ⟨e.way, e.p + by_, e.q⟩
def delayRun (ts : List Int) (x : List TN) (k by_ : Int) : List TN × Int :=
  if vRuns ts x = true then (if (0 ≤ k ∧ k ≤ (x.length : Int) - 1) ∧ (0 ≤ by_ ∧ by_ ≤ 100000) then (if ((x[k.toNat]?).map fun e => e.p + by_).getD 0 ≤ 100000 then (lateR x k by_, 0) else ([], 5)) else ([], 2)) else ([], 1)
theorem onl_set {T : TypeId} {w : World} {lo hi n g c i : Nat} {x : List TN} {e : TN} {a : Int} (h : ON T 1 w lo hi (.slice (some ⟨g, 0, none⟩) n c) x) (hi' : x[i]? = some e) (hg : lo ≤ g ∧ g < hi) : ON T 1 (w.setCell ⟨g, i * 2 + 1, none⟩ (.int .i64 a)) lo hi (.slice (some ⟨g, 0, none⟩) n c) (x.set i ⟨e.way, a, e.q⟩) := by
  obtain ⟨ps, hP, hO, hF, hS⟩ := h
  obtain ⟨p, hp, hp2⟩ : ∃ p, ps[i]? = some p ∧ p.2 = e := by
    rw [← hP, List.getElem?_map] at hi'
    cases hq : ps[i]? with
    | none => rw [hq] at hi'; cases hi'
    | some p => rw [hq] at hi'; exact ⟨p, rfl, Option.some.inj hi'⟩
  refine ⟨ps.set i (p.1, ⟨e.way, a, e.q⟩), ?_, ?_, ?_, ?_⟩
  · rw [List.map_set, hP]
  · have hm := mark1 hp e.way a
    rw [hp2] at hm
    rw [← hm]
    obtain ⟨h1, h2, h3⟩ := hO
    rw [List.length_set]
    refine ⟨h1, h2, ?_⟩
    rcases h3 with ⟨h0, hx⟩ | ⟨ho, hlt⟩
    · exact absurd (lt_of_get hi') (by omega)
    · obtain ⟨_, _, he⟩ := h1
      simp only [Value.slice.injEq] at he
      obtain ⟨_, rfl, _⟩ := he
      exact .inr ⟨(ho.stored (i * 2 + 1) (.int .i64 a)).1, hlt⟩
  · have hF2 := FamO.keptB (g := g) (onlyN_set (w := w) (b := g) (j := i * 2 + 1) (v := .int .i64 a) (lo := g) (hi := g + 1) (Nat.le_refl _) (by omega)) hF
    have key : ∀ {ps : List (Value × TN)} {lo i : Nat} {p : Value × TN}, FamO (w.setCell ⟨g, i * 2 + 1, none⟩ (.int .i64 a)) (some g) lo hi ps → True := fun _ => trivial
    clear key
    have key : ∀ (W : World) (ps : List (Value × TN)) (lo i : Nat) (p q : Value × TN), ps[i]? = some p → q.1 = p.1 → q.2.way = p.2.way → FamO W (some g) lo hi ps → FamO W (some g) lo hi (ps.set i q) := by
      intro W ps
      induction ps with
      | nil => intro lo i p q h; simp at h
      | cons p' ps ih =>
        intro lo i p q hq h1 h2 hF
        obtain ⟨a1, b1, k1, k2, k3, k4, k5, k6⟩ := hF
        cases i with
        | zero => simp at hq; subst hq; rw [List.set_cons_zero]; exact ⟨a1, b1, k1, k2, k3, k4, by rw [h1, h2]; exact k5, k6⟩
        | succ i => rw [List.set_cons_succ]; exact ⟨a1, b1, k1, k2, k3, k4, k5, ih _ i p q (by simpa using hq) h1 h2 k6⟩
    exact key _ ps lo i p _ hp rfl (by rw [hp2]) hF2
  · unfold SmallN at hS ⊢
    have hm : ((x.set i ⟨e.way, a, e.q⟩).map fun e => e.way.length) = x.map fun e => e.way.length := by
      rw [List.map_set]
      refine List.ext_getElem? fun j => ?_
      by_cases hj : j = i
      · subst hj
        rw [List.getElem?_set_self (by rw [List.length_map]; exact lt_of_get hi'), List.getElem?_map, hi']; rfl
      · rw [List.getElem?_set_ne (fun e => hj e.symm)]
    rw [hm, List.length_set]; exact hS
end Go.Proofs.Ytofjnmeblmbnmaa
