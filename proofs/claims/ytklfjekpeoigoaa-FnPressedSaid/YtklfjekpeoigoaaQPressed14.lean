/-
  Runs: copies of their own, and a run delayed; in the program and in the reference.
  Drawn times and ways.
  Drawing: one of some numbers, and yes once in so many times.
  Drawn seals.
  Draws of carriers: a fleet and which of them runs; lists of numbers compared.
  Drawn wishes.
  A drawn move.
  Least lengths in the program.
  Orders of wishes: the codes; in the program and in the reference.
  Networks in the program: strong ones, stations that are reached, tubes from a station, the least length.
-/
import Derived.Test.YtklfjekpeoigoaaQPressed13
import Derived.Test.YtklfjekpeoigoaaQPressed3
import Derived.Deep.RegionHeld3
import Derived.Test.YtklfjekpeoigoaaQPressed1
import Derived.Test.YtklfjekpeoigoaaQPressed12
import Derived.Deep.DeepCutAuto
import Derived.Test.YtklfjekpeoigoaaQPressed2
import Derived.Test.YtklfjekpeoigoaaQPressed11
namespace Go.Proofs.Ytklfjekpeoigoaa
open Go.RowKit

section
variable {P : Program}
theorem op_app {o : Oper} {a : Act} {K : Act → World → Prop} {Q : Exit → Act → World → Prop} (w : World) (s x : Operand) (t : TypeId)
    (ho : o.op = .call { callee := .builtin .append, args := #[s, x], argTypes := #[t, t] })
    (base : Nat) (e : TypeId) (i : TypeInfo) (z : Value) (size bytes : Nat) (ht : P.underlying t = some (.slice e)) (hi : P.info? e = some i) (hz : i.zero = some z)
    (hsize : i.size = size) (hby : i.bytes = bytes) (hzs : z.cells.size = size) (hsz : 0 < size)
    (v : Value) (n : Nat) (xs : List Value) (hs : a.eval s = v) (hown : w.ownsRow base e size v n xs)
    (B : Nat) (A : Option Addr) (m c : Nat) (news : List Value) (hx : a.eval x = .slice A m c) (hl : news.length = m * size) (hr : Rd w B A news) (h1 : ∀ u ∈ news, u.oneCell' = true)
    (hn : n + m ≤ 1099511627776) (hb : bytes ≤ 64) (hbase : base ≤ w.heap.size)
    (h : ∀ v' w', w'.ownsRow base e size v' (n + m) (xs ++ news) → w.grownBy w' v.ownBlock → (v'.ownBlock = v.ownBlock ∨ v'.ownBlock = some w.heap.size) → K (a.put o.dst v') w') :
    o.wp P a w K Q := by
  obtain ⟨v', w', hrun, h2, h3, h4⟩ := run_app (P := P) w base t o.type e i z size bytes ht hi hz hsize hby hzs hsz v n xs hown B A m c news hl hr h1 (by unfold maxLen; omega)
    (Nat.le_trans (Nat.mul_le_mul hn hb) (by omega)) hbase
  unfold Oper.wp execOp
  simp only [ho, resolve, invoke, builtin, Sem.run_bind, Sem.run_pure, Result.andThen_ok, List.map_toArray, List.map_cons, List.map_nil, hs, hx, hrun]
  exact h v' w' h2 h3 h4
end
theorem famO_grown {w w' : World} {v v' : Value} {lo : Nat} {ps : List (Value × TN)} {T : TypeId} {s n : Nat} {xs : List Value} (h : FamO w v.ownBlock lo w.heap.size ps) (ho : w.ownsRow lo T s v n xs) (hg : w.grownBy w' v.ownBlock) (hb : v'.ownBlock = v.ownBlock ∨ v'.ownBlock = some w.heap.size) : FamO w' v'.ownBlock lo w'.heap.size ps := by
  have key : ∀ {ps : List (Value × TN)} {lo' : Nat}, FamO w v.ownBlock lo' w.heap.size ps → FamO w' v'.ownBlock lo' w'.heap.size ps := by
    intro ps
    induction ps with
    | nil => intro lo' _; trivial
    | cons p ps ih =>
      intro lo' h
      obtain ⟨a, b, h1, h2, h3, h4, h5, h6⟩ := h
      refine ⟨a, b, h1, h2, Nat.le_trans h3 hg.size, fun g hgg => ?_, ?_, ih h6⟩
      · rcases hb with h | h
        · exact h4 g (by rw [← h]; exact hgg)
        · rw [h] at hgg; cases hgg; exact .inl h3
      · cases hv : v.ownBlock with
        | none =>
          rw [hv] at hg
          exact h5.below (B := w.heap.size) ⟨hg.os, hg.tape, hg.output, hg.size, fun k hk => hg.block k hk (by simp)⟩ h3
        | some g0 =>
          have hg0 := (ho.lt g0 hv).2
          rw [hv] at hg
          exact h5.kept (lo' := g0) (hi' := g0 + 1) ⟨hg.os, hg.tape, hg.output, hg.size, fun k hk ho' => hg.block k hk (by simp; omega)⟩ (by have := h4 g0 hv; omega)
  exact key h
set_option maxRecDepth 100000 in
set_option maxHeartbeats 1000000 in
theorem l00OwnN_any (xs : List Int) (A : Option Addr) (c : Nat) (w : World) (hx : xs.length ≤ 1048576) (h1 : RdI w w.heap.size A xs) :
    Calls Try.prog 137 #[.slice A xs.length c] w fun e w' => ∃ A' c', e = .returned (.slice A' xs.length c') ∧ w'.ownsRow w.heap.size 2 1 (.slice A' xs.length c') xs.length (xs.map (Value.int .i64)) ∧ Below w.heap.size w w' := by
  obtain ⟨i0, hi0, hz0, hs0, hb0⟩ := info_parts int64_info
  have HX := hide h1; clear h1
  go_enter Try.func137, Try.ntmps137
  have ho0 := own_new0 w w.heap.size 2 1 (Nat.le_refl _)
  have hb1 : Below w.heap.size w (w.alloc (.cells #[] 2)) := (Below.refl _ _).alloc (Nat.le_refl _) _
  have HR := hide (Rd.below HX.out hb1)
  go_wp2_with (at_builtin; go_must (refine wp_app _ rfl _ _ 22 rfl w.heap.size 2 i0 (.int .i64 0) 1 8 Try.underlying22 hi0 hz0 hs0 hb0 rfl (by decide) _ _ _ rfl ho0 _ _ xs.length c _ rfl (by simp) HR.out (ints_one _) (by omega) (by decide) (by simp) ?_); intro v' w1 hown' hgrow hat)
  go_ret
  simp only [Nat.zero_add, List.nil_append] at hown'
  obtain ⟨A', c', rfl, _⟩ := own_shape hown'
  exact ⟨A', c', rfl, hown', app_below hb1 ho0 hgrow (Nat.le_refl _) (by simp)⟩

def lateR (x : List TN) (k by_ : Int) : List TN := match x[k.toNat]? with | none => x | some e => x.set k.toNat ⟨e.way, e.p + by_, e.q⟩
def delayRun (ts : List Int) (x : List TN) (k by_ : Int) : List TN × Int :=
  if vRuns ts x = true then (if (0 ≤ k ∧ k ≤ (x.length : Int) - 1) ∧ (0 ≤ by_ ∧ by_ ≤ 100000) then (if ((x[k.toNat]?).map fun e => e.p + by_).getD 0 ≤ 100000 then (lateR x k by_, 0) else ([], 5)) else ([], 2)) else ([], 1)
theorem onl_set {T : TypeId} {w : World} {lo hi n g c i : Nat} {x : List TN} {e : TN} {a : Int} (h : ON T 1 w lo hi (.slice (some ⟨g, 0, none⟩) n c) x) (hi' : x[i]? = some e) (hg : lo ≤ g ∧ g < hi) : ON T 1 (w.setCell ⟨g, i * 2 + 1, none⟩ (.int .i64 a)) lo hi (.slice (some ⟨g, 0, none⟩) n c) (x.set i ⟨e.way, a, e.q⟩) := by
  obtain ⟨ps, hP, hO, hF, hS⟩ := h
  obtain ⟨p, hp, hp2⟩ : ∃ p, ps[i]? = some p ∧ p.2 = e := by
    rw [← hP, List.getElem?_map] at hi'
    cases hq : ps[i]? with
    | none => rw [hq] at hi'; cases hi'
    | some p => rw [hq] at hi'; exact ⟨p, rfl, Option.some.inj hi'⟩
  refine ⟨ps.set i (p.1, ⟨e.way, a, e.q⟩), ?_, ?_, ?_, ?_⟩
  · rw [List.map_set, hP]
  · have hm := mark1 hp e.way a
    rw [hp2] at hm
    rw [← hm]
    obtain ⟨h1, h2, h3⟩ := hO
    rw [List.length_set]
    refine ⟨h1, h2, ?_⟩
    rcases h3 with ⟨h0, hx⟩ | ⟨ho, hlt⟩
    · exact absurd (lt_of_get hi') (by omega)
    · obtain ⟨_, _, he⟩ := h1
      simp only [Value.slice.injEq] at he
      obtain ⟨_, rfl, _⟩ := he
      exact .inr ⟨(ho.stored (i * 2 + 1) (.int .i64 a)).1, hlt⟩
  · have hF2 := FamO.keptB (g := g) (onlyN_set (w := w) (b := g) (j := i * 2 + 1) (v := .int .i64 a) (lo := g) (hi := g + 1) (Nat.le_refl _) (by omega)) hF
    have key : ∀ {ps : List (Value × TN)} {lo i : Nat} {p : Value × TN}, FamO (w.setCell ⟨g, i * 2 + 1, none⟩ (.int .i64 a)) (some g) lo hi ps → True := fun _ => trivial
    clear key
    have key : ∀ (W : World) (ps : List (Value × TN)) (lo i : Nat) (p q : Value × TN), ps[i]? = some p → q.1 = p.1 → q.2.way = p.2.way → FamO W (some g) lo hi ps → FamO W (some g) lo hi (ps.set i q) := by
      intro W ps
      induction ps with
      | nil => intro lo i p q h; simp at h
      | cons p' ps ih =>
        intro lo i p q hq h1 h2 hF
        obtain ⟨a1, b1, k1, k2, k3, k4, k5, k6⟩ := hF
        cases i with
        | zero => simp at hq; subst hq; rw [List.set_cons_zero]; exact ⟨a1, b1, k1, k2, k3, k4, by rw [h1, h2]; exact k5, k6⟩
        | succ i => rw [List.set_cons_succ]; exact ⟨a1, b1, k1, k2, k3, k4, k5, ih _ i p q (by simpa using hq) h1 h2 k6⟩
    exact key _ ps lo i p _ hp rfl (by rw [hp2]) hF2
  · unfold SmallN at hS ⊢
    have hm : ((x.set i ⟨e.way, a, e.q⟩).map fun e => e.way.length) = x.map fun e => e.way.length := by
      rw [List.map_set]
      refine List.ext_getElem? fun j => ?_
      by_cases hj : j = i
      · subst hj
        rw [List.getElem?_set_self (by rw [List.length_map]; exact lt_of_get hi'), List.getElem?_map, hi']; rfl
      · rw [List.getElem?_set_ne (fun e => hj e.symm)]
    rw [hm, List.length_set]; exact hS
end Go.Proofs.Ytklfjekpeoigoaa
namespace Go.Proofs.Ytklfjekpeoigoaa
open Go.RowKit

theorem row_only {w w' : World} {lo hi base : Nat} {e : TypeId} {s n : Nat} {v : Value} {xs : List Value} (h : w.ownsRow base e s v n xs) (k : Only lo hi w w') (hd : hi ≤ base) : w'.ownsRow base e s v n xs := by
  refine ⟨h.1, ?_⟩
  rcases h.2 with h0 | ⟨g, cap, cur, he, hb, hg, rest⟩
  · exact .inl h0
  · exact .inr ⟨g, cap, cur, he, hb, (k.2.2.2.2 g (lt_of_block hg) (by omega)).trans hg, rest⟩
theorem only_app {lo hi base : Nat} {w0 w w' : World} {e : TypeId} {s n : Nat} {v : Value} {xs : List Value} (h : Only lo hi w0 w) (ho : w.ownsRow base e s v n xs) (hg : w.grownBy w' v.ownBlock) (hB : w0.heap.size ≤ base) : Only lo hi w0 w' :=
  ⟨hg.os.trans h.1, hg.tape.trans h.2.1, hg.output.trans h.2.2.1, Nat.le_trans h.size hg.size, fun i hi' ho' => (hg.block i (Nat.lt_of_lt_of_le hi' h.size) (fun e => by have := (ho.lt i e.symm).1; omega)).trans (h.2.2.2.2 i hi' ho')⟩
theorem only_alloc {lo hi : Nat} {w0 w : World} (h : Only lo hi w0 w) (o : Obj) : Only lo hi w0 (w.alloc o) := only_trans h (only_of_below ((Below.refl _ _).alloc (Nat.le_refl _) o))
theorem SrcAt.grown {b : Nat} {bs : List Int} {N : Int} {W W' : World} {row : Option Nat} (h : SrcAt b bs N W) (hg : W.grownBy W' row) (hr : ∀ g, row = some g → b < g) : SrcAt b bs N W' :=
  h.below (B := b + 1) ⟨hg.os, hg.tape, hg.output, hg.size, fun k hk => hg.block k (by have := h.lt; omega) (fun e => by have := hr k e.symm; omega)⟩ (Nat.lt_succ_self b)
theorem SrcAt.alloc {b : Nat} {bs : List Int} {N : Int} {W : World} (h : SrcAt b bs N W) (o : Obj) : SrcAt b bs N (W.alloc o) := h.below ((Below.refl _ _).alloc (Nat.le_refl _) o) h.lt
end Go.Proofs.Ytklfjekpeoigoaa
namespace Go.Proofs.Ytklfjekpeoigoaa
open Go.RowKit

theorem Only.cell' {lo hi : Nat} {w w' : World} (h : Only lo hi w w') {p : Addr} (h1 : p.block < w.heap.size) (h2 : p.block < lo ∨ hi ≤ p.block) : w'.cell? p = w.cell? p :=
  World.cell?_of_block (h.2.2.2.2 p.block h1 h2)
set_option maxRecDepth 100000 in
set_option maxHeartbeats 1000000 in
theorem one_any (b : Nat) (bs : List Int) (N n : Int) (w : World) (hbs : BsOk bs) (hN : N ≤ 1099511000000) (h : SrcAt b bs N w) :
    Calls Try.prog 133 #[.pointer (some ⟨b, 0, none⟩), .int .i64 n] w fun e w' => ∃ v, e = .returned (.bool v) ∧ SrcAt b bs (N + 2) w' ∧ Only b (b + 1) w w' := by
  have HC := hide (pick_any b bs N n w hbs hN h)
  clear h
  go_enter Try.func133, Try.ntmps133
  go_wp2_with (go_at_call 134; refine (HC.out).mono ?_; rintro e w1 ⟨z, rfl, _, hs1, ho1⟩)
  go_ret
  exact ⟨_, rfl, hs1, ho1⟩
set_option maxRecDepth 100000 in
set_option maxHeartbeats 1000000 in
theorem among_any (b : Nat) (bs : List Int) (N : Int) (g o c : Nat) (xs : List Int) (w : World) (hbs : BsOk bs) (hN : N ≤ 1099511000000) (h : SrcAt b bs N w) (hg : g ≠ b) (hgl : g < w.heap.size) (hx0 : 1 ≤ xs.length) (hx1 : xs.length ≤ 1000) (hr : ∀ j z, xs[j]? = some z → w.cell? ⟨g, o + j, none⟩ = some (.int .i64 z)) :
    Calls Try.prog 150 #[.pointer (some ⟨b, 0, none⟩), .slice (some ⟨g, o, none⟩) xs.length c] w fun e w' => ∃ z, e = .returned (.int .i64 z) ∧ z ∈ xs ∧ SrcAt b bs (N + 2) w' ∧ Only b (b + 1) w w' := by
  have HC := hide (pick_any b bs N (xs.length : Int) w hbs hN h)
  have HR := hide hr
  clear h hr
  go_enter Try.func150, Try.ntmps150
  go_wp2_with (go_at_call 134; refine (HC.out).mono ?_; rintro e w1 ⟨z, rfl, ⟨hz0, hz1, _⟩, hs1, ho1⟩; have hz9 := hz1 (by omega); obtain ⟨j, rfl⟩ := Int.eq_ofNat_of_zero_le hz0; have hj : j < xs.length := (by omega); have hej := List.getElem?_eq_getElem hj; have hcj := (ho1.cell' (p := ⟨g, o + j, none⟩) hgl (by dsimp only; omega)).trans (HR.out j _ hej); have HEJ := hide hej; clear hej)
  go_ret
  exact ⟨_, rfl, List.mem_of_getElem? HEJ.out, hs1, ho1⟩
end Go.Proofs.Ytklfjekpeoigoaa
namespace Go.Proofs.Ytklfjekpeoigoaa
open Go.RowKit

theorem grown_setC (w : World) (b j : Nat) (v : Value) : w.grownBy (w.setCell ⟨b, j, none⟩ v) (some b) :=
  ⟨rfl, rfl, rfl, by simp, fun k _ ho => heap_setCell_other w ⟨b, j, none⟩ _ v (fun e => ho (by rw [e]))⟩
theorem only_grown {lo hi : Nat} {w0 w w' : World} {row : Option Nat} (h : Only lo hi w0 w) (hg : w.grownBy w' row) (hr : ∀ g, row = some g → w0.heap.size ≤ g) : Only lo hi w0 w' :=
  ⟨hg.os.trans h.1, hg.tape.trans h.2.1, hg.output.trans h.2.2.1, Nat.le_trans h.size hg.size, fun i hi' ho' => (hg.block i (Nat.lt_of_lt_of_le hi' h.size) (fun e => by have := hr i e.symm; omega)).trans (h.2.2.2.2 i hi' ho')⟩
end Go.Proofs.Ytklfjekpeoigoaa
namespace Go.Proofs.Ytklfjekpeoigoaa
open Go.RowKit

set_option maxRecDepth 100000 in
set_option maxHeartbeats 1000000 in
theorem f6ints_any (xs ys : List Int) (A1 A2 : Option Addr) (c1 c2 : Nat) (w : World) (hx : xs.length ≤ 9223372036854775807) (hy : ys.length ≤ 9223372036854775807)
    (h1 : RdI w w.heap.size A1 xs) (h2 : RdI w w.heap.size A2 ys) :
    Calls Try.prog 35 #[.slice A1 xs.length c1, .slice A2 ys.length c2] w fun e w' => e = .returned (.bool (decide (xs = ys))) ∧ Below w.heap.size w w' := by
  by_cases hl : xs.length = ys.length
  · have hB : ((xs.length : Int) != ys.length) = false := by simp [hl]
    have HL := hide hl; clear hl
    go_enter Try.func35, Try.ntmps35
    go_wp2_with fail
    go_loopg [5] xs.length (fun g i wr => ∃ k : Nat, k ≤ xs.length ∧ g = xs.length - k ∧ i = .int .i64 k ∧ Below w.heap.size w wr ∧ Hid (xs = ys ↔ xs.drop k = ys.drop k))
    case atStart => exact ⟨0, by omega, by omega, rfl, Below.refl _ _, by simp [Hid]⟩
    case round =>
      obtain ⟨k, hk, hg, rfl, hb, HE⟩ := hrel
      by_cases hlt : k < xs.length
      · have hlt2 : k < ys.length := by have := HL.out; omega
        obtain ⟨b1, o1, z1, rfl, _, hz1, hc1⟩ := (h1.below hb).at_ hlt
        obtain ⟨b2, o2, z2, rfl, _, hz2, hc2⟩ := (h2.below hb).at_ hlt2
        have Z1 := hide hz1; have Z2 := hide hz2; clear hz1 hz2 h1 h2
        have HG := hide hg; clear hg
        by_cases he : z1 = z2
        · subst he
          go_wp2_with fail
          go_quiet (fail)
          go_wp2_with fail
          go_roundg (xs.length - (k + 1))
          case measure => have := HG.out; omega
          case rel =>
            refine ⟨k + 1, by omega, rfl, by go_num, bdn hb _, ?_⟩
            have h := HE.out
            rw [drop_cons Z1.out, drop_cons Z2.out] at h
            exact hide (by simpa using h)
        · have hd : (z1 != z2) = true := by simp [he]
          go_wp2_with fail
          go_quiet (fail)
          go_wp2_with fail
          go_ret
          refine ⟨ret_b ?_, bdn hb _⟩
          have h := HE.out
          rw [drop_cons Z1.out, drop_cons Z2.out] at h
          simp [he] at h
          simp [h]
      · go_wp2_with fail
        go_ret
        refine ⟨ret_b ?_, hb⟩
        have h := HE.out
        rw [List.drop_eq_nil_of_le (by omega), List.drop_eq_nil_of_le (by have := HL.out; omega)] at h
        simpa using h
  · have hB : ((xs.length : Int) != ys.length) = true := by simp; omega
    have HL := hide hl; clear hl
    go_enter Try.func35, Try.ntmps35
    go_wp2_with fail
    go_ret
    exact ⟨ret_b (by simp; intro e; exact HL.out (by rw [e])), Below.refl _ _⟩
theorem f6big_any (A : Option Addr) (n c : Nat) (w : World) (hn : n ≤ 4096) :
    Calls Try.prog 23 #[.slice A n c] w fun e w' => e = .returned (.bool false) ∧ w = w' := by
  have hD : decide ((4096 : Int) < (n : Int)) = false := decide_eq_false (by omega)
  go_enter Try.func23, Try.ntmps23
  go_wp2_with fail
  go_ret
  exact ⟨rfl, rfl⟩
theorem below_src' {w w1 w2 : World} (h : Below w.heap.size w w1) (k : Only w.heap.size (w.heap.size + 1) w1 w2) : Below w.heap.size w w2 := h.trans (k.below (Nat.le_refl _) h.size)
end Go.Proofs.Ytklfjekpeoigoaa
namespace Go.Proofs.Ytklfjekpeoigoaa
open Go.RowKit

theorem BoxN.only {w w' : World} {b lo hi : Nat} {cs : Array Value} {e : TypeId} (h : BoxN w b cs e) (k : Only lo hi w w') (hd : b < lo ∨ hi ≤ b) : BoxN w' b cs e := (k.2.2.2.2 b h.lt hd).trans h
theorem only_setNew {lo hi : Nat} {w0 w : World} (h : Only lo hi w0 w) (a : Addr) (v : Value) (hB : w0.heap.size ≤ a.block) : Only lo hi w0 (w.setCell a v) :=
  ⟨h.1, h.2.1, h.2.2.1, by have := h.size; simpa [World.setCell] using this, fun k hk ho => (Below.heap_setCell _ _ _ _ (by omega)).trans (h.2.2.2.2 k hk ho)⟩
theorem grown_setCell (w : World) (a : Addr) (v : Value) : w.grownBy (w.setCell a v) (some a.block) :=
  ⟨rfl, rfl, rfl, by simp [World.setCell], fun k _ hn => Below.heap_setCell _ _ _ _ (fun e => hn (by rw [e]))⟩
theorem SrcAt.set {b : Nat} {bs : List Int} {N : Int} {W : World} (h : SrcAt b bs N W) (a : Addr) (v : Value) (hb : b < a.block) : SrcAt b bs N (W.setCell a v) :=
  h.below (B := b + 1) ⟨rfl, rfl, rfl, by simp [World.setCell], fun k hk => Below.heap_setCell _ _ _ _ (by omega)⟩ (Nat.lt_succ_self b)
/-- A drawn wish, for n tubes. -/
def WDrawn (n : Nat) (e : TN) : Prop := ((1 ≤ e.way.length ∧ e.way.length ≤ 4) ∧ ∀ z ∈ e.way, 0 ≤ z ∧ z ≤ (n : Int) - 1) ∧ (0 ≤ e.p ∧ e.p ≤ 19) ∧ (0 ≤ e.q ∧ e.q ≤ 78)
end Go.Proofs.Ytklfjekpeoigoaa
namespace Go.Proofs.Ytklfjekpeoigoaa
open Go.RowKit
set_option maxRecDepth 100000 in
set_option maxHeartbeats 4000000 in
theorem drawMove_any (b : Nat) (bs : List Int) (N n : Int) (w : World) (hbs : BsOk bs) (hN : N ≤ 1099510000000) (hn : 1 ≤ n) (hn2 : n ≤ 1000) (h : SrcAt b bs N w) :
    Calls Try.prog 235 #[.pointer (some ⟨b, 0, none⟩), .int .i64 n] w fun e w' => ∃ m : T3, e = .returned (.agg #[.int .i64 m.a, .int .i64 m.b, .int .i64 m.c]) ∧ ((0 ≤ m.a ∧ m.a < n) ∧ (-1 ≤ m.b ∧ m.b ≤ n) ∧ -1 ≤ m.c ∧ m.c ≤ 201) ∧ SrcAt b bs (N + 20) w' ∧ Only b (b + 1) w w' := by
  have hbl := h.lt
  have HP := hide fun M n W (hM : M ≤ 1099511000000) (hW : SrcAt b bs M W) => pick_any b bs M n W hbs hM hW
  have HAM := hide fun M g o c xs W (hM : M ≤ 1099511000000) (hW : SrcAt b bs M W) => among_any b bs M g o c xs W hbs hM hW
  have X0 := hide (BoxN.new w #[.int .i64 0, .int .i64 0, .int .i64 0] 143)
  have S0 := hide (h.alloc (.cells #[.int .i64 0, .int .i64 0, .int .i64 0] 143))
  have O0 : Hid (Only b (b + 1) w (w.alloc (.cells #[.int .i64 0, .int .i64 0, .int .i64 0] 143))) := only_of_below ((Below.refl _ _).alloc (Nat.le_refl _) _)
  have z0 : w.heap.size + 1 ≤ (w.alloc (.cells #[.int .i64 0, .int .i64 0, .int .i64 0] 143)).heap.size := by simp
  have C0 := hide (HP.out N n _ (by omega) S0.out)
  clear h
  go_enter Try.func235, Try.ntmps235
  go_upto_region 2 with (first | (go_at_call 134; (with_reducible refine (C0.out).mono ?_); rintro e w1 ⟨a, rfl, ⟨ha0, ha1', _⟩, hs1, ho1⟩; have ha1 := ha1' hn; have X1 := hide (X0.out.only ho1 (.inr (by omega))); have z1 := ho1.size; have O1 := hide (only_trans O0.out ho1); have C1 := hide (HP.out (N + 2) n _ (by omega) hs1); clear hs1 ho1 C0 X0 S0 O0 ha1') | (go_at_call 134; (with_reducible refine (C1.out).mono ?_); rintro e w2 ⟨c, rfl, ⟨hc0, hc1', _⟩, hs2, ho2⟩; have hc1 := hc1' hn; have X2 := hide (X1.out.only ho2 (.inr (by omega))); have z2 := ho2.size; have O2 := hide (only_trans O1.out ho2); have S2 := hide hs2; clear hs2 ho2 C1 X1 O1 hc1'))
  have X3 := hide (X2.out.alloc (.cells #[.int .i64 a, .int .i64 c, .int .i64 0] 143))
  have Y3 := hide (BoxN.new w2 #[.int .i64 a, .int .i64 c, .int .i64 0] 143)
  have S3 := hide (S2.out.alloc (.cells #[.int .i64 a, .int .i64 c, .int .i64 0] 143))
  have O3 := hide (only_alloc O2.out (.cells #[.int .i64 a, .int .i64 c, .int .i64 0] 143))
  have z3 : w2.heap.size + 1 ≤ (w2.alloc (.cells #[.int .i64 a, .int .i64 c, .int .i64 0] 143)).heap.size := by simp
  have zz : w.heap.size < w2.heap.size := by omega
  have C3 := hide (HP.out (N + 2 + 2) 4 _ (by omega) S3.out)
  clear X2 S2 O2 S3
  go_upto_region 3 with (go_at_call 134; (with_reducible refine (C3.out).mono ?_); rintro e w4 ⟨d, rfl, ⟨hd0, hd1', _⟩, hs4, ho4⟩; have hd1 := hd1' (by omega); have X4 := hide (X3.out.only ho4 (.inr (by omega))); have Y4 := hide (Y3.out.only ho4 (.inr (by omega))); have y4 : w4.cell? ⟨w2.heap.size, 2, none⟩ = some (.int .i64 0) := Y4.out.cell 2; have f4 := Y4.out.fro 2; have O4 := hide (only_trans O3.out ho4); have z4 := ho4.size; have S4 := hide hs4; clear hs4 ho4 hd1')
  have X5 := hide (X4.out.other (b' := w2.heap.size) (by omega) 2 (.int .i64 (1 + d)))
  have Y5 : Hid (BoxN (w4.setCell ⟨w2.heap.size, 2, none⟩ (.int .i64 (1 + d))) w2.heap.size #[.int .i64 a, .int .i64 c, .int .i64 (1 + d)] 143) := Y4.out.set 2 (.int .i64 (1 + d))
  have S5 := hide (S4.out.set ⟨w2.heap.size, 2, none⟩ (.int .i64 (1 + d)) (by dsimp only; omega))
  have O5 := hide (only_setNew O4.out ⟨w2.heap.size, 2, none⟩ (.int .i64 (1 + d)) (by dsimp only; omega))
  have z5 : w2.heap.size < (w4.setCell ⟨w2.heap.size, 2, none⟩ (.int .i64 (1 + d))).heap.size := by simp [World.setCell]; omega
  clear X3 Y3 O3 C3 X4 Y4 y4 f4 S4 O4
  generalize w4.setCell ⟨w2.heap.size, 2, none⟩ (.int .i64 (1 + d)) = w5 at *
  have C5 := hide (HP.out (N + 2 + 2 + 2) 16 _ (by omega) S5.out)
  go_upto_region 4 with (go_at_call 134; (with_reducible refine (C5.out).mono ?_); rintro e w6 ⟨v, rfl, ⟨hv0, hv1', _⟩, hs6, ho6⟩; have X6 := hide (X5.out.only ho6 (.inr (by omega))); have Y6 := hide (Y5.out.only ho6 (.inr (by omega))); have O6 := hide (only_trans O5.out ho6); have z6 := ho6.size; have S6 := hide hs6; clear hs6 ho6 hv1')
  clear X5 Y5 S5 O5 C5 z1 z3 z4
  by_cases hv0 : v = 0
  · subst hv0
    have S7 := hide (S6.out.alloc (.cells #[.int .i64 (-1), .int .i64 0, .int .i64 1, .int .i64 200, .int .i64 201] 2))
    have X7 := hide (X6.out.alloc (.cells #[.int .i64 (-1), .int .i64 0, .int .i64 1, .int .i64 200, .int .i64 201] 2))
    have Y7 := hide (Y6.out.alloc (.cells #[.int .i64 (-1), .int .i64 0, .int .i64 1, .int .i64 200, .int .i64 201] 2))
    have O7 := hide (only_alloc O6.out (.cells #[.int .i64 (-1), .int .i64 0, .int .i64 1, .int .i64 200, .int .i64 201] 2))
    have z7 : w6.heap.size + 1 ≤ (w6.alloc (.cells #[.int .i64 (-1), .int .i64 0, .int .i64 1, .int .i64 200, .int .i64 201] 2)).heap.size := by simp
    have ham : Calls Try.prog 150 #[.pointer (some ⟨b, 0, none⟩), .slice (some ⟨w6.heap.size, 0, none⟩) 5 5] (w6.alloc (.cells #[.int .i64 (-1), .int .i64 0, .int .i64 1, .int .i64 200, .int .i64 201] 2)) fun e w' => ∃ z, e = .returned (.int .i64 z) ∧ z ∈ ([(-1), 0, 1, 200, 201] : List Int) ∧ SrcAt b bs (N + 2 + 2 + 2 + 2 + 2) w' ∧ Only b (b + 1) (w6.alloc (.cells #[.int .i64 (-1), .int .i64 0, .int .i64 1, .int .i64 200, .int .i64 201] 2)) w' := HAM.out (N + 2 + 2 + 2 + 2) w6.heap.size 0 5 ([(-1), 0, 1, 200, 201] : List Int) _ (by omega) S7.out (by omega) (by simp) (by simp) (by simp) (fun j z hj => by
        match j, hj with
        | 0, hj => simp at hj; subst hj; simp [go_sem]
        | 1, hj => simp at hj; subst hj; simp [go_sem]
        | 2, hj => simp at hj; subst hj; simp [go_sem]
        | 3, hj => simp at hj; subst hj; simp [go_sem]
        | 4, hj => simp at hj; subst hj; simp [go_sem]
        | j + 5, hj => simp at hj)
    have HAMH := hide ham
    clear ham
    go_upto_region 8 with (go_at_call 150; (with_reducible refine (HAMH.out).mono ?_); rintro e w8 ⟨z, rfl, hz, hs8, ho8⟩; have X8 := hide (X7.out.only ho8 (.inr (by omega))); have Y8 := hide (Y7.out.only ho8 (.inr (by omega))); have y8 : w8.cell? ⟨w2.heap.size, 2, none⟩ = some (.int .i64 (1 + d)) := Y8.out.cell 2; have f8 := Y8.out.fro 2; have S8 := hide hs8; have O8 := hide (only_trans O7.out ho8); clear hs8 ho8)
    have hzb : -1 ≤ z ∧ z ≤ 201 := by simp at hz; omega
    have X9 := hide (X8.out.other (b' := w2.heap.size) (by omega) 2 (.int .i64 z))
    have Y9 : Hid (BoxN (w8.setCell ⟨w2.heap.size, 2, none⟩ (.int .i64 z)) w2.heap.size #[.int .i64 a, .int .i64 c, .int .i64 z] 143) := Y8.out.set 2 (.int .i64 z)
    have S9 := hide (S8.out.set ⟨w2.heap.size, 2, none⟩ (.int .i64 z) (by dsimp only; omega))
    have O9 := hide (only_setNew O8.out ⟨w2.heap.size, 2, none⟩ (.int .i64 z) (by dsimp only; omega))
    clear X8 Y8 S8 O8 y8 f8 HAMH
    generalize w8.setCell ⟨w2.heap.size, 2, none⟩ (.int .i64 z) = w9 at *
    have l0 : w9.cell? ⟨w2.heap.size, 0, none⟩ = some (.int .i64 a) := Y9.out.cell 0
    have l1 : w9.cell? ⟨w2.heap.size, 1, none⟩ = some (.int .i64 c) := Y9.out.cell 1
    have l2 : w9.cell? ⟨w2.heap.size, 2, none⟩ = some (.int .i64 z) := Y9.out.cell 2
    have T0 := hide (X9.out.set 0 (.int .i64 a))
    have T1 := hide (T0.out.set 1 (.int .i64 c))
    have T2 := hide (T1.out.set 2 (.int .i64 z))
    have m0 : w9.cell? ⟨w.heap.size, 0, none⟩ = some (.int .i64 0) := X9.out.cell 0
    have n0 := X9.out.fro 0
    have m1 : (w9.setCell ⟨w.heap.size, 0, none⟩ (.int .i64 a)).cell? ⟨w.heap.size, 1, none⟩ = some (.int .i64 0) := T0.out.cell 1
    have n1 := T0.out.fro 1
    have m2 : ((w9.setCell ⟨w.heap.size, 0, none⟩ (.int .i64 a)).setCell ⟨w.heap.size, 1, none⟩ (.int .i64 c)).cell? ⟨w.heap.size, 2, none⟩ = some (.int .i64 0) := T1.out.cell 2
    have n2 := T1.out.fro 2
    go_wp2_with fail
    have q0 : (((w9.setCell ⟨w.heap.size, 0, none⟩ (.int .i64 a)).setCell ⟨w.heap.size, 1, none⟩ (.int .i64 c)).setCell ⟨w.heap.size, 2, none⟩ (.int .i64 z)).cell? ⟨w.heap.size, 0, none⟩ = some (.int .i64 a) := T2.out.cell 0
    have q1 : (((w9.setCell ⟨w.heap.size, 0, none⟩ (.int .i64 a)).setCell ⟨w.heap.size, 1, none⟩ (.int .i64 c)).setCell ⟨w.heap.size, 2, none⟩ (.int .i64 z)).cell? ⟨w.heap.size, 1, none⟩ = some (.int .i64 c) := T2.out.cell 1
    have q2 : (((w9.setCell ⟨w.heap.size, 0, none⟩ (.int .i64 a)).setCell ⟨w.heap.size, 1, none⟩ (.int .i64 c)).setCell ⟨w.heap.size, 2, none⟩ (.int .i64 z)).cell? ⟨w.heap.size, 2, none⟩ = some (.int .i64 z) := T2.out.cell 2
    refine bodyPost_ret (v := .agg #[.int .i64 a, .int .i64 c, .int .i64 z]) (by simp [results, Try.results235, go_sem, q0, q1, q2]) rfl ⟨⟨a, c, z⟩, rfl, ⟨⟨ha0, ha1⟩, ⟨by dsimp only; omega, by dsimp only; omega⟩, by dsimp only; omega, by dsimp only; omega⟩, ?_, ?_⟩
    · exact (((S9.out.set ⟨w.heap.size, 0, none⟩ (.int .i64 a) hbl).set ⟨w.heap.size, 1, none⟩ (.int .i64 c) hbl).set ⟨w.heap.size, 2, none⟩ (.int .i64 z) hbl).more (by omega)
    · exact only_setNew (only_setNew (only_setNew O9.out ⟨w.heap.size, 0, none⟩ (.int .i64 a) (Nat.le_refl _)) ⟨w.heap.size, 1, none⟩ (.int .i64 c) (Nat.le_refl _)) ⟨w.heap.size, 2, none⟩ (.int .i64 z) (Nat.le_refl _)
  · have hB0 : (v == 0) = false := by simp [hv0]
    by_cases hv1 : v = 1
    · subst hv1
      have hwn : IntKind.i64.wrap (n - 1) = n - 1 := by rw [IntKind.wrap_i64] <;> omega
      have S7 := hide (S6.out.alloc (.cells #[.int .i64 (-1), .int .i64 0, .int .i64 (n - 1), .int .i64 n] 2))
      have X7 := hide (X6.out.alloc (.cells #[.int .i64 (-1), .int .i64 0, .int .i64 (n - 1), .int .i64 n] 2))
      have Y7 := hide (Y6.out.alloc (.cells #[.int .i64 (-1), .int .i64 0, .int .i64 (n - 1), .int .i64 n] 2))
      have O7 := hide (only_alloc O6.out (.cells #[.int .i64 (-1), .int .i64 0, .int .i64 (n - 1), .int .i64 n] 2))
      have z7 : w6.heap.size + 1 ≤ (w6.alloc (.cells #[.int .i64 (-1), .int .i64 0, .int .i64 (n - 1), .int .i64 n] 2)).heap.size := by simp
      have ham : Calls Try.prog 150 #[.pointer (some ⟨b, 0, none⟩), .slice (some ⟨w6.heap.size, 0, none⟩) 4 4] (w6.alloc (.cells #[.int .i64 (-1), .int .i64 0, .int .i64 (n - 1), .int .i64 n] 2)) fun e w' => ∃ z, e = .returned (.int .i64 z) ∧ z ∈ ([(-1), 0, (n - 1), n] : List Int) ∧ SrcAt b bs (N + 2 + 2 + 2 + 2 + 2) w' ∧ Only b (b + 1) (w6.alloc (.cells #[.int .i64 (-1), .int .i64 0, .int .i64 (n - 1), .int .i64 n] 2)) w' := HAM.out (N + 2 + 2 + 2 + 2) w6.heap.size 0 4 ([(-1), 0, (n - 1), n] : List Int) _ (by omega) S7.out (by omega) (by simp) (by simp) (by simp) (fun j z hj => by
          match j, hj with
          | 0, hj => simp at hj; subst hj; simp [go_sem]
          | 1, hj => simp at hj; subst hj; simp [go_sem]
          | 2, hj => simp at hj; subst hj; simp [go_sem]
          | 3, hj => simp at hj; subst hj; simp [go_sem]
          | j + 4, hj => simp at hj)
      have HAMH := hide ham
      clear ham
      go_upto_region 8 with (go_at_call 150; (with_reducible refine (HAMH.out).mono ?_); rintro e w8 ⟨z, rfl, hz, hs8, ho8⟩; have X8 := hide (X7.out.only ho8 (.inr (by omega))); have Y8 := hide (Y7.out.only ho8 (.inr (by omega))); have y8 : w8.cell? ⟨w2.heap.size, 1, none⟩ = some (.int .i64 c) := Y8.out.cell 1; have f8 := Y8.out.fro 1; have S8 := hide hs8; have O8 := hide (only_trans O7.out ho8); clear hs8 ho8)
      have hzb : -1 ≤ z ∧ z ≤ n := by simp at hz; omega
      have X9 := hide (X8.out.other (b' := w2.heap.size) (by omega) 1 (.int .i64 z))
      have Y9 : Hid (BoxN (w8.setCell ⟨w2.heap.size, 1, none⟩ (.int .i64 z)) w2.heap.size #[.int .i64 a, .int .i64 z, .int .i64 (1 + d)] 143) := Y8.out.set 1 (.int .i64 z)
      have S9 := hide (S8.out.set ⟨w2.heap.size, 1, none⟩ (.int .i64 z) (by dsimp only; omega))
      have O9 := hide (only_setNew O8.out ⟨w2.heap.size, 1, none⟩ (.int .i64 z) (by dsimp only; omega))
      clear X8 Y8 S8 O8 y8 f8 HAMH
      generalize w8.setCell ⟨w2.heap.size, 1, none⟩ (.int .i64 z) = w9 at *
      have l0 : w9.cell? ⟨w2.heap.size, 0, none⟩ = some (.int .i64 a) := Y9.out.cell 0
      have l1 : w9.cell? ⟨w2.heap.size, 1, none⟩ = some (.int .i64 z) := Y9.out.cell 1
      have l2 : w9.cell? ⟨w2.heap.size, 2, none⟩ = some (.int .i64 (1 + d)) := Y9.out.cell 2
      have T0 := hide (X9.out.set 0 (.int .i64 a))
      have T1 := hide (T0.out.set 1 (.int .i64 z))
      have T2 := hide (T1.out.set 2 (.int .i64 (1 + d)))
      have m0 : w9.cell? ⟨w.heap.size, 0, none⟩ = some (.int .i64 0) := X9.out.cell 0
      have n0 := X9.out.fro 0
      have m1 : (w9.setCell ⟨w.heap.size, 0, none⟩ (.int .i64 a)).cell? ⟨w.heap.size, 1, none⟩ = some (.int .i64 0) := T0.out.cell 1
      have n1 := T0.out.fro 1
      have m2 : ((w9.setCell ⟨w.heap.size, 0, none⟩ (.int .i64 a)).setCell ⟨w.heap.size, 1, none⟩ (.int .i64 z)).cell? ⟨w.heap.size, 2, none⟩ = some (.int .i64 0) := T1.out.cell 2
      have n2 := T1.out.fro 2
      go_wp2_with fail
      have q0 : (((w9.setCell ⟨w.heap.size, 0, none⟩ (.int .i64 a)).setCell ⟨w.heap.size, 1, none⟩ (.int .i64 z)).setCell ⟨w.heap.size, 2, none⟩ (.int .i64 (1 + d))).cell? ⟨w.heap.size, 0, none⟩ = some (.int .i64 a) := T2.out.cell 0
      have q1 : (((w9.setCell ⟨w.heap.size, 0, none⟩ (.int .i64 a)).setCell ⟨w.heap.size, 1, none⟩ (.int .i64 z)).setCell ⟨w.heap.size, 2, none⟩ (.int .i64 (1 + d))).cell? ⟨w.heap.size, 1, none⟩ = some (.int .i64 z) := T2.out.cell 1
      have q2 : (((w9.setCell ⟨w.heap.size, 0, none⟩ (.int .i64 a)).setCell ⟨w.heap.size, 1, none⟩ (.int .i64 z)).setCell ⟨w.heap.size, 2, none⟩ (.int .i64 (1 + d))).cell? ⟨w.heap.size, 2, none⟩ = some (.int .i64 (1 + d)) := T2.out.cell 2
      refine bodyPost_ret (v := .agg #[.int .i64 a, .int .i64 z, .int .i64 (1 + d)]) (by simp [results, Try.results235, go_sem, q0, q1, q2]) rfl ⟨⟨a, z, (1 + d)⟩, rfl, ⟨⟨ha0, ha1⟩, ⟨by dsimp only; omega, by dsimp only; omega⟩, by dsimp only; omega, by dsimp only; omega⟩, ?_, ?_⟩
      · exact (((S9.out.set ⟨w.heap.size, 0, none⟩ (.int .i64 a) hbl).set ⟨w.heap.size, 1, none⟩ (.int .i64 z) hbl).set ⟨w.heap.size, 2, none⟩ (.int .i64 (1 + d)) hbl).more (by omega)
      · exact only_setNew (only_setNew (only_setNew O9.out ⟨w.heap.size, 0, none⟩ (.int .i64 a) (Nat.le_refl _)) ⟨w.heap.size, 1, none⟩ (.int .i64 z) (Nat.le_refl _)) ⟨w.heap.size, 2, none⟩ (.int .i64 (1 + d)) (Nat.le_refl _)
    · have hB1 : (v == 1) = false := by simp [hv1]
      have HV := hide hv0
      have HV1 := hide hv1
      clear hv0 hv1
      go_upto_region 8 with fail
      have l0 : w6.cell? ⟨w2.heap.size, 0, none⟩ = some (.int .i64 a) := Y6.out.cell 0
      have l1 : w6.cell? ⟨w2.heap.size, 1, none⟩ = some (.int .i64 c) := Y6.out.cell 1
      have l2 : w6.cell? ⟨w2.heap.size, 2, none⟩ = some (.int .i64 (1 + d)) := Y6.out.cell 2
      have T0 := hide (X6.out.set 0 (.int .i64 a))
      have T1 := hide (T0.out.set 1 (.int .i64 c))
      have T2 := hide (T1.out.set 2 (.int .i64 (1 + d)))
      have m0 : w6.cell? ⟨w.heap.size, 0, none⟩ = some (.int .i64 0) := X6.out.cell 0
      have n0 := X6.out.fro 0
      have m1 : (w6.setCell ⟨w.heap.size, 0, none⟩ (.int .i64 a)).cell? ⟨w.heap.size, 1, none⟩ = some (.int .i64 0) := T0.out.cell 1
      have n1 := T0.out.fro 1
      have m2 : ((w6.setCell ⟨w.heap.size, 0, none⟩ (.int .i64 a)).setCell ⟨w.heap.size, 1, none⟩ (.int .i64 c)).cell? ⟨w.heap.size, 2, none⟩ = some (.int .i64 0) := T1.out.cell 2
      have n2 := T1.out.fro 2
      go_wp2_with fail
      have q0 : (((w6.setCell ⟨w.heap.size, 0, none⟩ (.int .i64 a)).setCell ⟨w.heap.size, 1, none⟩ (.int .i64 c)).setCell ⟨w.heap.size, 2, none⟩ (.int .i64 (1 + d))).cell? ⟨w.heap.size, 0, none⟩ = some (.int .i64 a) := T2.out.cell 0
      have q1 : (((w6.setCell ⟨w.heap.size, 0, none⟩ (.int .i64 a)).setCell ⟨w.heap.size, 1, none⟩ (.int .i64 c)).setCell ⟨w.heap.size, 2, none⟩ (.int .i64 (1 + d))).cell? ⟨w.heap.size, 1, none⟩ = some (.int .i64 c) := T2.out.cell 1
      have q2 : (((w6.setCell ⟨w.heap.size, 0, none⟩ (.int .i64 a)).setCell ⟨w.heap.size, 1, none⟩ (.int .i64 c)).setCell ⟨w.heap.size, 2, none⟩ (.int .i64 (1 + d))).cell? ⟨w.heap.size, 2, none⟩ = some (.int .i64 (1 + d)) := T2.out.cell 2
      refine bodyPost_ret (v := .agg #[.int .i64 a, .int .i64 c, .int .i64 (1 + d)]) (by simp [results, Try.results235, go_sem, q0, q1, q2]) rfl ⟨⟨a, c, (1 + d)⟩, rfl, ⟨⟨ha0, ha1⟩, ⟨by dsimp only; omega, by dsimp only; omega⟩, by dsimp only; omega, by dsimp only; omega⟩, ?_, ?_⟩
      · exact (((S6.out.set ⟨w.heap.size, 0, none⟩ (.int .i64 a) hbl).set ⟨w.heap.size, 1, none⟩ (.int .i64 c) hbl).set ⟨w.heap.size, 2, none⟩ (.int .i64 (1 + d)) hbl).more (by omega)
      · exact only_setNew (only_setNew (only_setNew O6.out ⟨w.heap.size, 0, none⟩ (.int .i64 a) (Nat.le_refl _)) ⟨w.heap.size, 1, none⟩ (.int .i64 c) (Nat.le_refl _)) ⟨w.heap.size, 2, none⟩ (.int .i64 (1 + d)) (Nat.le_refl _)
end Go.Proofs.Ytklfjekpeoigoaa
namespace Go.Proofs.Ytklfjekpeoigoaa
open Go.RowKit
theorem dAt_get {d : List Int} {k : Nat} {z : Int} (h : d[k]? = some z) : dAt d (k : Int) = z := by simp [dAt, h]
theorem relaxGo_drop {wo : Int} {tb : List T3} {j : Nat} {t : T3} {d : List Int} (h : tb[j]? = some t) : relaxGo wo (tb.drop j) (j : Int) d = relaxGo wo (tb.drop (j + 1)) ((j : Int) + 1) (relax1 wo j t d) := by rw [drop_cons h, relaxGo]
/-- What is known of the values while they are made. -/
def DBd (n : Nat) (K : Int) (d : List Int) : Prop := d.length = n ∧ ∀ z ∈ d, -1 ≤ z ∧ z ≤ K
theorem DBd.relax {n : Nat} {K wo i : Int} {t : T3} {d : List Int} (h : DBd n K d) (hc : 0 ≤ t.c ∧ t.c ≤ 2000) (hK : 0 ≤ K) : DBd n (K + 2000) (relax1 wo i t d) := by
  have hb : ∀ v : Int, -1 ≤ dAt d v ∧ dAt d v ≤ K := fun v => by
    unfold dAt
    cases hv : d[v.toNat]? with
    | none => simp; omega
    | some z => have := h.2 z (List.mem_of_getElem? hv); simpa using this
  refine ⟨by rw [relax1_len]; exact h.1, fun z hz => ?_⟩
  unfold relax1 at hz
  split at hz
  · have := h.2 z hz; omega
  · split at hz
    · rcases List.mem_or_eq_of_mem_set hz with hz | rfl
      · have := h.2 z hz; omega
      · have := hb t.b; omega
    · have := h.2 z hz; omega
theorem DBd.more {n : Nat} {K K' : Int} {d : List Int} (h : DBd n K d) (hk : K ≤ K') : DBd n K' d := ⟨h.1, fun z hz => by have := h.2 z hz; omega⟩
end Go.Proofs.Ytklfjekpeoigoaa
namespace Go.Proofs.Ytklfjekpeoigoaa
open Go.RowKit

def hasI (xs : List Int) (v : Int) : Bool := xs.any fun z => decide (z = v)
def ordGo (n : Int) : List Int → List Int → Bool
  | _, [] => true
  | pre, k :: r => inB 0 (n - 1) k && (!hasI pre k && ordGo n (pre ++ [k]) r)
def ordOk (n : Nat) (order : List Int) : Bool := ordGo n [] order && decide (order.length = n)
def codeO (ts : List Int) (l : List TN) (order : List Int) : Int := if vWishes ts l = true then (if ordOk l.length order = true then 0 else 2) else 1
theorem ordGo_drop {n : Int} {xs : List Int} {k : Nat} {z : Int} (h : xs[k]? = some z) : ordGo n (xs.take k) (xs.drop k) = (inB 0 (n - 1) z && (!hasI (xs.take k) z && ordGo n (xs.take (k + 1)) (xs.drop (k + 1)))) := by
  obtain ⟨hl, he⟩ := List.getElem?_eq_some_iff.1 h
  rw [drop_cons h, ordGo, List.take_succ_eq_append_getElem hl, he]
theorem cap_of {e : TypeId} {s : Nat} {w : World} {lo hi : Nat} {v : Value} {n : Nat} {xs : List Value} (h : OwnV e s w lo hi v n xs) : ∀ A m c, v = .slice A m c → m ≤ c := by
  intro A m c hv
  rcases h.2.2 with ⟨h0, _⟩ | ⟨ho, _⟩
  · obtain ⟨A', c', he⟩ := h.1
    rw [hv] at he
    simp only [Value.slice.injEq] at he
    omega
  · obtain ⟨A', c', he, hle, _⟩ := own_shape ho
    rw [hv] at he
    simp only [Value.slice.injEq] at he
    omega
theorem RdI.take {w : World} {B : Nat} {A : Option Addr} {xs : List Int} (h : RdI w B A xs) (k : Nat) : RdI w B A (xs.take k) := fun hn => by
  obtain ⟨b, o, hA, hb, hc⟩ := h (by intro e; apply hn; rw [List.map_eq_nil_iff] at e; rw [e]; simp)
  refine ⟨b, o, hA, hb, fun j u hu => hc j u ?_⟩
  rw [List.getElem?_map] at hu ⊢
  by_cases hj : j < k
  · rw [List.getElem?_take_of_lt hj] at hu; exact hu
  · rw [List.getElem?_eq_none (by rw [List.length_take]; omega)] at hu; cases hu
set_option maxRecDepth 100000 in
set_option maxHeartbeats 4000000 in
theorem l00Has_any (xs : List Int) (v : Int) (A : Option Addr) (c : Nat) (w : World) (hx : xs.length ≤ 1048576) (h1 : RdI w w.heap.size A xs) :
    Calls Try.prog 162 #[.slice A xs.length c, .int .i64 v] w fun e w' => e = .returned (.bool (hasI xs v)) ∧ w = w' := by
  have HX := hide h1; clear h1
  go_enter Try.func162, Try.ntmps162
  go_wp2_with fail
  go_loopg [5] xs.length (fun g i wr => ∃ k : Nat, k ≤ xs.length ∧ Hid (g = xs.length - k) ∧ i = .int .i64 k ∧ Hid (hasI xs v = hasI (xs.drop k) v) ∧ w = wr)
  case atStart => exact ⟨0, by omega, by simp [Hid], rfl, by simp [Hid], rfl⟩
  case round =>
    obtain ⟨k, hk, hg, rfl, HS, rfl⟩ := hrel
    by_cases hlt : k < xs.length
    · obtain ⟨b1, o1, z1, rfl, _, hz1, hca⟩ := HX.out.at_ hlt
      have HS' := HS.out
      rw [drop_cons hz1, hasI, hasI, List.any_cons] at HS'
      have HQ : Hid (hasI xs v = (decide (z1 = v) || hasI (xs.drop (k + 1)) v)) := HS'
      clear HS' HS hz1
      by_cases he : z1 = v
      · have hB : (z1 == v) = true := by simp [he]
        have HN := hide (show hasI xs v = true by rw [HQ.out, decide_eq_true he]; rfl)
        clear he
        go_wp2_with fail
        go_ret
        exact ⟨ret_b HN.out.symm, rfl⟩
      · have hB : (z1 == v) = false := by simp [he]
        have HN := hide (show hasI xs v = hasI (xs.drop (k + 1)) v by rw [HQ.out, decide_eq_false he]; rfl)
        clear he
        go_wp2_with fail
        go_roundg (xs.length - (k + 1))
        case measure => have := hg.out; omega
        case rel => exact ⟨k + 1, by omega, rfl, by go_num, HN, rfl⟩
    · have HN := hide (HS.out.trans (by rw [List.drop_eq_nil_of_le (by omega)]; rfl : _ = false))
      go_wp2_with fail
      go_ret
      exact ⟨ret_b HN.out.symm, rfl⟩
set_option maxRecDepth 100000 in
set_option maxHeartbeats 4000000 in
theorem indexI_any (xs : List Int) (v : Int) (A : Option Addr) (c : Nat) (w : World) (hx : xs.length ≤ 1048576) (h1 : RdI w w.heap.size A xs) :
    Calls Try.prog 271 #[.slice A xs.length c, .int .i64 v] w fun e w' => e = .returned (.int .i64 (firstI (fun z => decide (z = v)) xs 0)) ∧ Below w.heap.size w w' := by
  have HX := hide h1; clear h1
  go_enter Try.func271, Try.ntmps271
  go_wp2_with fail
  go_loopg [8] xs.length (fun g i wr => ∃ k : Nat, k ≤ xs.length ∧ Hid (g = xs.length - k) ∧ i = .int .i64 k ∧ Hid (firstI (fun z => decide (z = v)) xs 0 = firstI (fun z => decide (z = v)) (xs.drop k) k) ∧ Below w.heap.size w wr)
  case atStart => exact ⟨0, by omega, by simp [Hid], rfl, by simp [Hid], Below.refl _ _⟩
  case round =>
    obtain ⟨k, hk, hg, rfl, HS, hb⟩ := hrel
    by_cases hlt : k < xs.length
    · obtain ⟨b1, o1, z1, rfl, _, hz1, hca⟩ := (HX.out.below hb).at_ hlt
      have HS' := HS.out
      rw [drop_cons hz1, firstI] at HS'
      have HQ := hide HS'
      clear HS' HS hz1
      by_cases he : z1 = v
      · have hB : (v == z1) = true := by simp [he]
        have HN := hide (show firstI (fun z => decide (z = v)) xs 0 = k by rw [HQ.out, if_pos (decide_eq_true he)])
        clear he
        go_wp2_with fail
        go_ret
        exact ⟨ret_i HN.out.symm, hb⟩
      · have hB : (v == z1) = false := by simp; exact fun e => he e.symm
        have HN := hide (show firstI (fun z => decide (z = v)) xs 0 = firstI (fun z => decide (z = v)) (xs.drop (k + 1)) (k + 1) by rw [HQ.out, if_neg (by simp [he])])
        clear he
        go_wp2_with fail
        go_roundg (xs.length - (k + 1))
        case measure => have := hg.out; omega
        case rel => exact ⟨k + 1, by omega, rfl, by go_num, HN, hb⟩
    · have HN := hide (HS.out.trans (by rw [List.drop_eq_nil_of_le (by omega), firstI] : _ = (-1 : Int)))
      go_wp2_with fail
      go_ret
      exact ⟨ret_i HN.out.symm, hb⟩
set_option maxRecDepth 100000 in
set_option maxHeartbeats 4000000 in
theorem containsI_any (xs : List Int) (v : Int) (A : Option Addr) (c : Nat) (w : World) (hx : xs.length ≤ 1048576) (h1 : RdI w w.heap.size A xs) :
    Calls Try.prog 243 #[.slice A xs.length c, .int .i64 v] w fun e w' => e = .returned (.bool (hasI xs v)) ∧ Below w.heap.size w w' := by
  have HC := hide (indexI_any xs v A c w hx h1)
  have HE := hide (firstI_ge (fun z => decide (z = v)) xs 0)
  clear h1
  go_enter Try.func243, Try.ntmps243
  go_wp2_with (go_at_call 271; refine (HC.out).mono ?_; rintro e w1 ⟨rfl, hb1⟩)
  go_ret
  exact ⟨ret_b HE.out, hb1⟩
end Go.Proofs.Ytklfjekpeoigoaa
namespace Go.Proofs.Ytklfjekpeoigoaa
open Go.RowKit

def noGap (n : Nat) (tb : List T3) (wo : Int) (k : Nat) : Bool := !hasI (dist n tb k wo) (-1)
def strongB (n : Nat) (tb : List T3) (wo : Int) : Bool := (List.range n).all (noGap n tb wo)
def reachP (n : Nat) (tb : List T3) (s : Int) (k : Nat) : Bool := decide (0 ≤ dAt (dist n tb k (-1)) s)
def reachL (n : Nat) (tb : List T3) (s : Int) : List Int := idxFrom (reachP n tb s) (List.range n) 0
def tubesL (tb : List T3) (s : Int) : List Int := idxFrom (fun t : T3 => t.a == s) tb 0
theorem range_get {n k : Nat} (h : k < n) : (List.range n)[k]? = some k := by rw [List.getElem?_range h]
end Go.Proofs.Ytklfjekpeoigoaa
