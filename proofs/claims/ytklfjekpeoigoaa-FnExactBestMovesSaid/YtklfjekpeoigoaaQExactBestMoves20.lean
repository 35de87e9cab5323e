/-
  Slices whose elements hold a list of numbers, as arguments of a law, opened into the words of the walks.
  The law FnExactBestMoves returns true for every input. No condition. Printed by gen_exact.py.
-/
import Derived.Test.YtklfjekpeoigoaaQExactBestMoves6
import Derived.Test.YtklfjekpeoigoaaQExactBestMoves5
import Derived.Test.YtklfjekpeoigoaaQExactBestMoves19
import Derived.Test.YtklfjekpeoigoaaQExactBestMoves3
import Derived.Test.YtklfjekpeoigoaaRows
import Derived.ProofKit
import Derived.OpenShut
namespace Go.Proofs.Ytklfjekpeoigoaa
open Go.ChangeShapes Go.WideShapes Go.ChangeAt Go.RowKit Go.Deep

section
variable {H : Type} {enc : TypeId × Value → H} {P : Program} {w : World} {spare : Nat → Bool} {held : Bool} {b0 : Nat}
instance : Inhabited (Value × TN) := ⟨zp⟩
def OkP (w : World) (p : Value × TN) : Prop := WayAt w w.heap.size p ∧ p.2.Fits ∧ p.2.way.length ≤ 9223372036854775807
theorem lenN_of {x : List TN} {ps : List (Value × TN)} (hx : ps.map (·.2) = x) (hl : x.length ≤ 9223372036854775807) (h : ∀ p ∈ ps, OkP w p) : LenN x ∧ ∀ e ∈ x, e.Fits := by
  subst hx
  refine ⟨⟨hl, fun e he => ?_⟩, fun e he => ?_⟩
  · obtain ⟨p, hp, rfl⟩ := List.mem_map.1 he; exact (h p hp).2.2
  · obtain ⟨p, hp, rfl⟩ := List.mem_map.1 he; exact (h p hp).2.1
theorem rec_N0 {e e1 : TypeId} {fuel : Nat} {cs : List Value} {x : DataW H × List MemPlace} (he : P.underlying e = some (.slice e1)) (g1 : P.underlying e1 = some (.int .i64)) (c1 : P.cellsOf e1 = 1) (hcs : cs.length = 1)
    (h : DataW.trod enc P w b0 spare held fuel e cs = some x) : ∃ p : Value × TN, cs = Nc 0 p ∧ OkP w p := by
  match cs, hcs with
  | [v0], _ =>
    obtain ⟨A, c, zs, rfl, r1, l1, b1⟩ := trod_I he g1 c1 h
    exact ⟨(.slice A zs.length c, ⟨zs, 0, 0⟩), rfl, ⟨A, c, rfl, r1⟩, ⟨b1, by dsimp only; omega, by dsimp only; omega⟩, l1⟩
theorem rec_N1 {e e1 : TypeId} {fuel : Nat} {cs : List Value} {x : DataW H × List MemPlace} {f0 f1 : Field} (he : P.underlying e = some (.struct #[f0, f1])) (hone : oneCellFields P #[f0, f1] = true) (hC : P.cellsOf e = 2)
    (h0 : P.underlying f0.type = some (.slice e1)) (g1 : P.underlying e1 = some (.int .i64)) (c1 : P.cellsOf e1 = 1) (h1 : P.underlying f1.type = some (.int .i64))
    (h : DataW.trod enc P w b0 spare held fuel e cs = some x) : ∃ p : Value × TN, cs = Nc 1 p ∧ OkP w p := by
  obtain ⟨xs, m, _, _, hlen, hxl, hg⟩ := DataW.trod_struct he h
  rw [hC] at hlen
  match cs, hlen with
  | [v0, v1], _ =>
    match xs, hxl with
    | [y0, y1], _ =>
      obtain ⟨o0, j0⟩ := hone_of hone 0 f0 rfl
      have t0 := hg 0 f0 rfl
      rw [o0, j0] at t0
      obtain ⟨A, c, zs, rfl, r1, l1, b1⟩ := trod_I h0 g1 c1 (x := y0) (by simpa using t0)
      obtain ⟨o1, j1⟩ := hone_of hone 1 f1 rfl
      have t1 := hg 1 f1 rfl
      rw [o1, j1] at t1
      obtain ⟨n1, e1, _, w1⟩ := DataW.trod_int h1 (x := y1) (by simpa using t1)
      simp at e1
      subst e1
      exact ⟨(.slice A zs.length c, ⟨zs, n1, 0⟩), rfl, ⟨A, c, rfl, r1⟩, ⟨b1, wf64 w1, by dsimp only; omega⟩, l1⟩
theorem rec_N2 {e e1 : TypeId} {fuel : Nat} {cs : List Value} {x : DataW H × List MemPlace} {f0 f1 f2 : Field} (he : P.underlying e = some (.struct #[f0, f1, f2])) (hone : oneCellFields P #[f0, f1, f2] = true) (hC : P.cellsOf e = 3)
    (h0 : P.underlying f0.type = some (.slice e1)) (g1 : P.underlying e1 = some (.int .i64)) (c1 : P.cellsOf e1 = 1) (h1 : P.underlying f1.type = some (.int .i64)) (h2 : P.underlying f2.type = some (.int .i64))
    (h : DataW.trod enc P w b0 spare held fuel e cs = some x) : ∃ p : Value × TN, cs = Nc 2 p ∧ OkP w p := by
  obtain ⟨xs, m, _, _, hlen, hxl, hg⟩ := DataW.trod_struct he h
  rw [hC] at hlen
  match cs, hlen with
  | [v0, v1, v2], _ =>
    match xs, hxl with
    | [y0, y1, y2], _ =>
      obtain ⟨o0, j0⟩ := hone_of hone 0 f0 rfl
      have t0 := hg 0 f0 rfl
      rw [o0, j0] at t0
      obtain ⟨A, c, zs, rfl, r1, l1, b1⟩ := trod_I h0 g1 c1 (x := y0) (by simpa using t0)
      obtain ⟨o1, j1⟩ := hone_of hone 1 f1 rfl
      have t1 := hg 1 f1 rfl
      rw [o1, j1] at t1
      obtain ⟨n1, e1, _, w1⟩ := DataW.trod_int h1 (x := y1) (by simpa using t1)
      simp at e1
      subst e1
      obtain ⟨o2, j2⟩ := hone_of hone 2 f2 rfl
      have t2 := hg 2 f2 rfl
      rw [o2, j2] at t2
      obtain ⟨n2, e2, _, w2⟩ := DataW.trod_int h2 (x := y2) (by simpa using t2)
      simp at e2
      subst e2
      exact ⟨(.slice A zs.length c, ⟨zs, n1, n2⟩), rfl, ⟨A, c, rfl, r1⟩, ⟨b1, wf64 w1, wf64 w2⟩, l1⟩
theorem open_N0 {r : Reach} {b1 : Nat} {t e e1 : TypeId} {v : Value} {d : DataW H} {p : List MemPlace} (ht : P.underlying t = some (.slice e)) (he : P.underlying e = some (.slice e1)) (hC : P.cellsOf e = 1) (g1 : P.underlying e1 = some (.int .i64)) (c1 : P.cellsOf e1 = 1)
    (hval : Value.okWide P w r b1 t v) (h : DataW.Trod enc P w b0 spare held t v d p) :
    ∃ A c, ∃ x : List TN, v = .slice A x.length c ∧ RN 0 w w.heap.size A x ∧ LenN x ∧ ∀ e ∈ x, e.Fits := by
  obtain ⟨a, l, c, rfl⟩ := okWide_slice ht hval
  obtain ⟨fuel, hf⟩ := h
  rcases open_slice ht (by simpa [Value.cells] using hf : DataW.trod enc P w b0 spare held fuel t [.slice a l c] = some (d, p)) with ⟨hcs, _⟩ | ⟨a, l, c, m, n, D, Pl, hcs, _, hl, hm, hmm, _, hi⟩
  · simp at hcs
    obtain ⟨rfl, rfl, rfl⟩ := hcs
    exact ⟨none, 0, [], rfl, RN.nil _ _ _ _, ⟨by simp, by simp⟩, by simp⟩
  · simp at hcs
    obtain ⟨rfl, rfl, rfl⟩ := hcs
    have hll : l ≤ m := by rw [hmm]; split <;> omega
    unfold maxLen at hm
    obtain ⟨X, hX⟩ := choose_lt (α := Value × TN) (n := l) (p := fun i y => (∀ j, j < 1 → w.cell? (a.add (i * 1 + j)) = (Nc 0 y)[j]?) ∧ OkP w y) (fun i hil => by
      obtain ⟨cs', q1, q2⟩ := hi i (by omega)
      rw [hC] at q1
      obtain ⟨_, hlen, hat⟩ := World.cells?_some q1
      obtain ⟨y, rfl, hy⟩ := rec_N0 he g1 c1 hlen q2
      exact ⟨y, fun j hj => by rw [← Go.Deep.add_add]; exact hat j hj, hy⟩)
    have hps : ∀ p ∈ (List.range l).map X, OkP w p := fun p hp => by
      obtain ⟨i, hi', rfl⟩ := List.mem_map.1 hp
      exact (hX i (List.mem_range.1 hi')).2
    have hlen : (((List.range l).map X).map (·.2)).length = l := by simp
    obtain ⟨k1, k2⟩ := lenN_of rfl (by rw [hlen]; omega) hps
    exact ⟨some a, c, ((List.range l).map X).map (·.2), by rw [hlen], ⟨_, rfl, rd_family (Nc 0) 1 (fun _ => rfl) (by omega) X l fun i hil j hj => (hX i hil).1 j hj, fun p hp => (hps p hp).1⟩, k1, k2⟩
theorem open_N1 {r : Reach} {b1 : Nat} {t e e1 : TypeId} {v : Value} {d : DataW H} {p : List MemPlace} {f0 f1 : Field} (ht : P.underlying t = some (.slice e)) (he : P.underlying e = some (.struct #[f0, f1])) (hone : oneCellFields P #[f0, f1] = true) (hC : P.cellsOf e = 2) (h0 : P.underlying f0.type = some (.slice e1)) (g1 : P.underlying e1 = some (.int .i64)) (c1 : P.cellsOf e1 = 1) (h1 : P.underlying f1.type = some (.int .i64))
    (hval : Value.okWide P w r b1 t v) (h : DataW.Trod enc P w b0 spare held t v d p) :
    ∃ A c, ∃ x : List TN, v = .slice A x.length c ∧ RN 1 w w.heap.size A x ∧ LenN x ∧ ∀ e ∈ x, e.Fits := by
  obtain ⟨a, l, c, rfl⟩ := okWide_slice ht hval
  obtain ⟨fuel, hf⟩ := h
  rcases open_slice ht (by simpa [Value.cells] using hf : DataW.trod enc P w b0 spare held fuel t [.slice a l c] = some (d, p)) with ⟨hcs, _⟩ | ⟨a, l, c, m, n, D, Pl, hcs, _, hl, hm, hmm, _, hi⟩
  · simp at hcs
    obtain ⟨rfl, rfl, rfl⟩ := hcs
    exact ⟨none, 0, [], rfl, RN.nil _ _ _ _, ⟨by simp, by simp⟩, by simp⟩
  · simp at hcs
    obtain ⟨rfl, rfl, rfl⟩ := hcs
    have hll : l ≤ m := by rw [hmm]; split <;> omega
    unfold maxLen at hm
    obtain ⟨X, hX⟩ := choose_lt (α := Value × TN) (n := l) (p := fun i y => (∀ j, j < 2 → w.cell? (a.add (i * 2 + j)) = (Nc 1 y)[j]?) ∧ OkP w y) (fun i hil => by
      obtain ⟨cs', q1, q2⟩ := hi i (by omega)
      rw [hC] at q1
      obtain ⟨_, hlen, hat⟩ := World.cells?_some q1
      obtain ⟨y, rfl, hy⟩ := rec_N1 he hone hC h0 g1 c1 h1 q2
      exact ⟨y, fun j hj => by rw [← Go.Deep.add_add]; exact hat j hj, hy⟩)
    have hps : ∀ p ∈ (List.range l).map X, OkP w p := fun p hp => by
      obtain ⟨i, hi', rfl⟩ := List.mem_map.1 hp
      exact (hX i (List.mem_range.1 hi')).2
    have hlen : (((List.range l).map X).map (·.2)).length = l := by simp
    obtain ⟨k1, k2⟩ := lenN_of rfl (by rw [hlen]; omega) hps
    exact ⟨some a, c, ((List.range l).map X).map (·.2), by rw [hlen], ⟨_, rfl, rd_family (Nc 1) 2 (fun _ => rfl) (by omega) X l fun i hil j hj => (hX i hil).1 j hj, fun p hp => (hps p hp).1⟩, k1, k2⟩
theorem open_N2 {r : Reach} {b1 : Nat} {t e e1 : TypeId} {v : Value} {d : DataW H} {p : List MemPlace} {f0 f1 f2 : Field} (ht : P.underlying t = some (.slice e)) (he : P.underlying e = some (.struct #[f0, f1, f2])) (hone : oneCellFields P #[f0, f1, f2] = true) (hC : P.cellsOf e = 3) (h0 : P.underlying f0.type = some (.slice e1)) (g1 : P.underlying e1 = some (.int .i64)) (c1 : P.cellsOf e1 = 1) (h1 : P.underlying f1.type = some (.int .i64)) (h2 : P.underlying f2.type = some (.int .i64))
    (hval : Value.okWide P w r b1 t v) (h : DataW.Trod enc P w b0 spare held t v d p) :
    ∃ A c, ∃ x : List TN, v = .slice A x.length c ∧ RN 2 w w.heap.size A x ∧ LenN x ∧ ∀ e ∈ x, e.Fits := by
  obtain ⟨a, l, c, rfl⟩ := okWide_slice ht hval
  obtain ⟨fuel, hf⟩ := h
  rcases open_slice ht (by simpa [Value.cells] using hf : DataW.trod enc P w b0 spare held fuel t [.slice a l c] = some (d, p)) with ⟨hcs, _⟩ | ⟨a, l, c, m, n, D, Pl, hcs, _, hl, hm, hmm, _, hi⟩
  · simp at hcs
    obtain ⟨rfl, rfl, rfl⟩ := hcs
    exact ⟨none, 0, [], rfl, RN.nil _ _ _ _, ⟨by simp, by simp⟩, by simp⟩
  · simp at hcs
    obtain ⟨rfl, rfl, rfl⟩ := hcs
    have hll : l ≤ m := by rw [hmm]; split <;> omega
    unfold maxLen at hm
    obtain ⟨X, hX⟩ := choose_lt (α := Value × TN) (n := l) (p := fun i y => (∀ j, j < 3 → w.cell? (a.add (i * 3 + j)) = (Nc 2 y)[j]?) ∧ OkP w y) (fun i hil => by
      obtain ⟨cs', q1, q2⟩ := hi i (by omega)
      rw [hC] at q1
      obtain ⟨_, hlen, hat⟩ := World.cells?_some q1
      obtain ⟨y, rfl, hy⟩ := rec_N2 he hone hC h0 g1 c1 h1 h2 q2
      exact ⟨y, fun j hj => by rw [← Go.Deep.add_add]; exact hat j hj, hy⟩)
    have hps : ∀ p ∈ (List.range l).map X, OkP w p := fun p hp => by
      obtain ⟨i, hi', rfl⟩ := List.mem_map.1 hp
      exact (hX i (List.mem_range.1 hi')).2
    have hlen : (((List.range l).map X).map (·.2)).length = l := by simp
    obtain ⟨k1, k2⟩ := lenN_of rfl (by rw [hlen]; omega) hps
    exact ⟨some a, c, ((List.range l).map X).map (·.2), by rw [hlen], ⟨_, rfl, rd_family (Nc 2) 3 (fun _ => rfl) (by omega) X l fun i hil j hj => (hX i hil).1 j hj, fun p hp => (hps p hp).1⟩, k1, k2⟩
end
end Go.Proofs.Ytklfjekpeoigoaa
namespace Go.Proofs.Ytklfjekpeoigoaa
open Go.ChangeShapes Go.WideShapes Go.ChangeAt Go.RowKit

set_option maxRecDepth 100000 in
set_option maxHeartbeats 4000000 in
theorem xBestMoves_walk (x_stock : List Int) (v_stock : Value) (x_wants : List Int) (v_wants : Value) (x_costs : List TN) (v_costs : Value) (w : World) (r_stock : R_Int64S w w.heap.size v_stock x_stock) (n_stock : x_stock.length ≤ 9223372036854775807) (f_stock : ∀ z ∈ x_stock, -9223372036854775808 ≤ z ∧ z ≤ 9223372036854775807) (r_wants : R_Int64S w w.heap.size v_wants x_wants) (n_wants : x_wants.length ≤ 9223372036854775807) (f_wants : ∀ z ∈ x_wants, -9223372036854775808 ≤ z ∧ z ≤ 9223372036854775807) (r_costs : R_Int64SS w w.heap.size v_costs x_costs) (n_costs : LenN x_costs) (f_costs : ∀ e ∈ x_costs, e.Fits) :
    Calls Try.prog 3 #[v_stock, v_wants, v_costs] w fun e w' => e = .returned (.bool true) ∧ Below w.heap.size w w' := by
  by_cases g0 : (x_stock.length : Int) ≤ 1048576
  case neg =>
    have r0_stock := r_stock
    obtain ⟨A_stock, c_stock, rfl, _⟩ := r0_stock
    go_enter Try.func3, Try.ntmps3
    go_wp2_with fail
    go_ret
    exact ⟨rfl, (by repeat (first | exact Below.refl _ _ | assumption | (refine Below.alloc ?_ (by simp <;> omega) _) | refine Below.drew ?_ | refine bdn ?_ _))⟩
  by_cases g1 : (x_wants.length : Int) ≤ 1048576
  case neg =>
    have r0_stock := r_stock
    obtain ⟨A_stock, c_stock, rfl, _⟩ := r0_stock
    have r0_wants := r_wants
    obtain ⟨A_wants, c_wants, rfl, _⟩ := r0_wants
    go_enter Try.func3, Try.ntmps3
    go_wp2_with fail
    go_ret
    exact ⟨rfl, (by repeat (first | exact Below.refl _ _ | assumption | (refine Below.alloc ?_ (by simp <;> omega) _) | refine Below.drew ?_ | refine bdn ?_ _))⟩
  by_cases g2 : ((sizeN x_costs) : Int) ≤ (1048576 : Int)
  case neg =>
    have r0_stock := r_stock
    obtain ⟨A_stock, c_stock, rfl, _⟩ := r0_stock
    have r0_wants := r_wants
    obtain ⟨A_wants, c_wants, rfl, _⟩ := r0_wants
    go_enter Try.func3, Try.ntmps3
    have b0 : Below w.heap.size w w := Below.refl _ _
    have hsz2 := hide (szF_no (n := (sizeN x_costs)) (left := (1048576 : Int)) (by omega))
    go_wp2_with fail
    refine (L_sz_Int64SS x_costs v_costs _ w.heap.size _ n_costs (by omega) (by omega) b0.size (r_costs.below b0)).mono ?_
    rintro e w1 ⟨rfl, s1⟩
    rw [hsz2.out]
    have z1 := s1.size
    have b1 : Below w.heap.size w w1 := b0.trans (s1.mono b0.size)
    go_wp2_with fail
    go_ret
    exact ⟨rfl, b1⟩
  have m_costs : SmallN x_costs := smallN (by omega)
  have r0_stock := r_stock
  obtain ⟨A_stock, c_stock, rfl, _⟩ := r0_stock
  have r0_wants := r_wants
  obtain ⟨A_wants, c_wants, rfl, _⟩ := r0_wants
  go_enter Try.func3, Try.ntmps3
  have b0 : Below w.heap.size w w := Below.refl _ _
  have hsz2 := hide (szF_yes (n := (sizeN x_costs)) (left := (1048576 : Int)) (by omega))
  go_wp2_with fail
  refine (L_sz_Int64SS x_costs v_costs _ w.heap.size _ n_costs (by omega) (by omega) b0.size (r_costs.below b0)).mono ?_
  rintro e w1 ⟨rfl, s1⟩
  rw [hsz2.out]
  have z1 := s1.size
  have b1 : Below w.heap.size w w1 := b0.trans (s1.mono b0.size)
  go_wp2_with fail
  refine (L_to_Int64S x_stock (.slice A_stock x_stock.length c_stock) _ (by omega) ((r_stock.below b1).more b1.size)).mono ?_
  rintro e w2 ⟨v_t1, rfl, o_t1, s2⟩
  have z2 := s2.size
  have b2 : Below w.heap.size w w2 := b1.trans (s2.mono b1.size)
  go_wp2_with fail
  refine (L_to_Int64S x_wants (.slice A_wants x_wants.length c_wants) _ (by omega) ((r_wants.below b2).more b2.size)).mono ?_
  rintro e w3 ⟨v_t2, rfl, o_t2, s3⟩
  have z3 := s3.size
  have b3 : Below w.heap.size w w3 := b2.trans (s3.mono b2.size)
  replace o_t1 := o_t1.below s3 (by omega)
  go_wp2_with fail
  refine (L_to_Int64SS x_costs v_costs _ m_costs ((r_costs.below b3).more b3.size)).mono ?_
  rintro e w4 ⟨v_t3, rfl, o_t3, s4⟩
  have z4 := s4.size
  have b4 : Below w.heap.size w w4 := b3.trans (s4.mono b3.size)
  replace o_t1 := o_t1.below s4 (by omega)
  replace o_t2 := o_t2.below s4 (by omega)
  go_wp2_with fail
  refine (S_BestMoves x_stock v_t1 x_wants v_t2 x_costs v_t3 _ (by omega) f_stock o_t1.r (by omega) f_wants o_t2.r m_costs f_costs o_t3.r).mono ?_
  rintro e w5 ⟨v_w0, rfl, o_w0, s5⟩
  have z5 := s5.size
  have b5 : Below w.heap.size w w5 := b4.trans (s5.mono b4.size)
  clear o_t1
  clear o_t2
  clear o_t3
  go_wp2_with fail
  refine (L_to_Int64S x_stock (.slice A_stock x_stock.length c_stock) _ (by omega) ((r_stock.below b5).more b5.size)).mono ?_
  rintro e w6 ⟨v_x0, rfl, o_x0, s6⟩
  have z6 := s6.size
  have b6 : Below w.heap.size w w6 := b5.trans (s6.mono b5.size)
  replace o_w0 := o_w0.below s6 (by omega)
  go_wp2_with fail
  refine (L_to_Int64S x_wants (.slice A_wants x_wants.length c_wants) _ (by omega) ((r_wants.below b6).more b6.size)).mono ?_
  rintro e w7 ⟨v_x1, rfl, o_x1, s7⟩
  have z7 := s7.size
  have b7 : Below w.heap.size w w7 := b6.trans (s7.mono b6.size)
  replace o_w0 := o_w0.below s7 (by omega)
  replace o_x0 := o_x0.below s7 (by omega)
  go_wp2_with fail
  refine (L_to_Int64SS x_costs v_costs _ m_costs ((r_costs.below b7).more b7.size)).mono ?_
  rintro e w8 ⟨v_x2, rfl, o_x2, s8⟩
  have z8 := s8.size
  have b8 : Below w.heap.size w w8 := b7.trans (s8.mono b7.size)
  replace o_w0 := o_w0.below s8 (by omega)
  replace o_x0 := o_x0.below s8 (by omega)
  replace o_x1 := o_x1.below s8 (by omega)
  go_wp2_with fail
  refine (P_BestMoves x_stock v_x0 x_wants v_x1 x_costs v_x2 _ (by omega) f_stock o_x0.r (by omega) f_wants o_x1.r m_costs f_costs o_x2.r).mono ?_
  rintro e w9 ⟨v_g0, rfl, o_g0, s9⟩
  have z9 := s9.size
  have b9 : Below w.heap.size w w9 := b8.trans (s9.mono b8.size)
  replace o_w0 := o_w0.below s9 (by omega)
  replace o_x0 := o_x0.below s9 (by omega)
  replace o_x1 := o_x1.below s9 (by omega)
  replace o_x2 := o_x2.below s9 (by omega)
  go_wp2_with fail
  refine (L_eq_MoveS _ _ _ _ _ _ _ _ o_g0 o_w0).mono ?_
  rintro e w10 ⟨rfl, s10⟩
  have z10 := s10.size
  have b10 : Below w.heap.size w w10 := b9.trans (s10.mono b9.size)
  replace o_w0 := o_w0.below s10 (by omega)
  replace o_x0 := o_x0.below s10 (by omega)
  replace o_x1 := o_x1.below s10 (by omega)
  replace o_x2 := o_x2.below s10 (by omega)
  replace o_g0 := o_g0.below s10 (by omega)
  go_wp2_with fail
  refine (L_to_Int64S x_stock (.slice A_stock x_stock.length c_stock) _ (by omega) ((r_stock.below b10).more b10.size)).mono ?_
  rintro e w11 ⟨v_t4, rfl, o_t4, s11⟩
  have z11 := s11.size
  have b11 : Below w.heap.size w w11 := b10.trans (s11.mono b10.size)
  replace o_w0 := o_w0.below s11 (by omega)
  replace o_x0 := o_x0.below s11 (by omega)
  replace o_x1 := o_x1.below s11 (by omega)
  replace o_x2 := o_x2.below s11 (by omega)
  replace o_g0 := o_g0.below s11 (by omega)
  go_wp2_with fail
  refine (L_eq_Int64S _ _ _ _ _ _ _ _ o_x0 o_t4).mono ?_
  rintro e w12 ⟨rfl, s12⟩
  have z12 := s12.size
  have b12 : Below w.heap.size w w12 := b11.trans (s12.mono b11.size)
  replace o_w0 := o_w0.below s12 (by omega)
  replace o_x0 := o_x0.below s12 (by omega)
  replace o_x1 := o_x1.below s12 (by omega)
  replace o_x2 := o_x2.below s12 (by omega)
  replace o_g0 := o_g0.below s12 (by omega)
  replace o_t4 := o_t4.below s12 (by omega)
  clear o_t4
  go_wp2_with fail
  refine (L_to_Int64S x_wants (.slice A_wants x_wants.length c_wants) _ (by omega) ((r_wants.below b12).more b12.size)).mono ?_
  rintro e w13 ⟨v_t5, rfl, o_t5, s13⟩
  have z13 := s13.size
  have b13 : Below w.heap.size w w13 := b12.trans (s13.mono b12.size)
  replace o_w0 := o_w0.below s13 (by omega)
  replace o_x0 := o_x0.below s13 (by omega)
  replace o_x1 := o_x1.below s13 (by omega)
  replace o_x2 := o_x2.below s13 (by omega)
  replace o_g0 := o_g0.below s13 (by omega)
  go_wp2_with fail
  refine (L_eq_Int64S _ _ _ _ _ _ _ _ o_x1 o_t5).mono ?_
  rintro e w14 ⟨rfl, s14⟩
  have z14 := s14.size
  have b14 : Below w.heap.size w w14 := b13.trans (s14.mono b13.size)
  replace o_w0 := o_w0.below s14 (by omega)
  replace o_x0 := o_x0.below s14 (by omega)
  replace o_x1 := o_x1.below s14 (by omega)
  replace o_x2 := o_x2.below s14 (by omega)
  replace o_g0 := o_g0.below s14 (by omega)
  replace o_t5 := o_t5.below s14 (by omega)
  clear o_t5
  go_wp2_with fail
  refine (L_to_Int64SS x_costs v_costs _ m_costs ((r_costs.below b14).more b14.size)).mono ?_
  rintro e w15 ⟨v_t6, rfl, o_t6, s15⟩
  have z15 := s15.size
  have b15 : Below w.heap.size w w15 := b14.trans (s15.mono b14.size)
  replace o_w0 := o_w0.below s15 (by omega)
  replace o_x0 := o_x0.below s15 (by omega)
  replace o_x1 := o_x1.below s15 (by omega)
  replace o_x2 := o_x2.below s15 (by omega)
  replace o_g0 := o_g0.below s15 (by omega)
  go_wp2_with fail
  refine (L_eq_Int64SS _ _ _ _ _ _ _ _ o_x2 o_t6).mono ?_
  rintro e w16 ⟨rfl, s16⟩
  have z16 := s16.size
  have b16 : Below w.heap.size w w16 := b15.trans (s16.mono b15.size)
  replace o_w0 := o_w0.below s16 (by omega)
  replace o_x0 := o_x0.below s16 (by omega)
  replace o_x1 := o_x1.below s16 (by omega)
  replace o_x2 := o_x2.below s16 (by omega)
  replace o_g0 := o_g0.below s16 (by omega)
  replace o_t6 := o_t6.below s16 (by omega)
  clear o_t6
  obtain ⟨c17a, c17b⟩ := o_x0.cnt
  go_wp2_with fail
  refine (L_mark_Int64S _ _ _ _ _ _ (by omega) (by omega) o_x0).mono ?_
  rintro e w17 ⟨rfl, o_x0', s17⟩
  clear o_x0; have o_x0 := o_x0'; clear o_x0'
  have z17 := s17.size
  have b17 : Below w.heap.size w w17 := b16.trans (s17.below (by omega) (by omega))
  replace o_w0 := o_w0.kept s17 (by omega)
  replace o_x1 := o_x1.kept s17 (by omega)
  replace o_x2 := o_x2.kept s17 (by omega)
  replace o_g0 := o_g0.kept s17 (by omega)
  clear o_x0
  obtain ⟨c18a, c18b⟩ := o_x1.cnt
  go_wp2_with fail
  refine (L_mark_Int64S _ _ _ _ _ _ (by omega) (by omega) o_x1).mono ?_
  rintro e w18 ⟨rfl, o_x1', s18⟩
  clear o_x1; have o_x1 := o_x1'; clear o_x1'
  have z18 := s18.size
  have b18 : Below w.heap.size w w18 := b17.trans (s18.below (by omega) (by omega))
  replace o_w0 := o_w0.kept s18 (by omega)
  replace o_x2 := o_x2.kept s18 (by omega)
  replace o_g0 := o_g0.kept s18 (by omega)
  clear o_x1
  obtain ⟨c19a, c19b⟩ := o_x2.cnt
  go_wp2_with fail
  refine (L_mark_Int64SS _ _ _ _ _ _ (by omega) (by omega) (by omega) o_x2).mono ?_
  rintro e w19 ⟨rfl, o_x2', s19⟩
  clear o_x2; have o_x2 := o_x2'; clear o_x2'
  have z19 := s19.size
  have b19 : Below w.heap.size w w19 := b18.trans (s19.below (by omega) (by omega))
  replace o_w0 := o_w0.kept s19 (by omega)
  replace o_g0 := o_g0.kept s19 (by omega)
  clear o_x2
  go_wp2_with fail
  refine (L_eq_MoveS _ _ _ _ _ _ _ _ o_g0 o_w0).mono ?_
  rintro e w20 ⟨rfl, s20⟩
  have z20 := s20.size
  have b20 : Below w.heap.size w w20 := b19.trans (s20.mono b19.size)
  replace o_w0 := o_w0.below s20 (by omega)
  replace o_g0 := o_g0.below s20 (by omega)
  obtain ⟨c21a, c21b⟩ := o_g0.cnt
  go_wp2_with fail
  refine (L_mark_MoveS _ _ _ _ _ _ (by omega) (by omega) o_g0).mono ?_
  rintro e w21 ⟨rfl, o_g0', s21⟩
  clear o_g0; have o_g0 := o_g0'; clear o_g0'
  have z21 := s21.size
  have b21 : Below w.heap.size w w21 := b20.trans (s21.below (by omega) (by omega))
  replace o_w0 := o_w0.kept s21 (by omega)
  go_wp2_with fail
  refine (L_held_MoveS _ _ _ _ _ _ (by omega) (by omega) o_g0).mono ?_
  rintro e w22 ⟨rfl, s22⟩
  have z22 := s22.size
  have b22 : Below w.heap.size w w22 := b21.trans (s22.mono b21.size)
  replace o_w0 := o_w0.below s22 (by omega)
  replace o_g0 := o_g0.below s22 (by omega)
  go_wp2_with fail
  refine (L_to_Int64S x_stock (.slice A_stock x_stock.length c_stock) _ (by omega) ((r_stock.below b22).more b22.size)).mono ?_
  rintro e w23 ⟨v_t7, rfl, o_t7, s23⟩
  have z23 := s23.size
  have b23 : Below w.heap.size w w23 := b22.trans (s23.mono b22.size)
  replace o_w0 := o_w0.below s23 (by omega)
  replace o_g0 := o_g0.below s23 (by omega)
  go_wp2_with fail
  refine (L_to_Int64S x_wants (.slice A_wants x_wants.length c_wants) _ (by omega) ((r_wants.below b23).more b23.size)).mono ?_
  rintro e w24 ⟨v_t8, rfl, o_t8, s24⟩
  have z24 := s24.size
  have b24 : Below w.heap.size w w24 := b23.trans (s24.mono b23.size)
  replace o_w0 := o_w0.below s24 (by omega)
  replace o_g0 := o_g0.below s24 (by omega)
  replace o_t7 := o_t7.below s24 (by omega)
  go_wp2_with fail
  refine (L_to_Int64SS x_costs v_costs _ m_costs ((r_costs.below b24).more b24.size)).mono ?_
  rintro e w25 ⟨v_t9, rfl, o_t9, s25⟩
  have z25 := s25.size
  have b25 : Below w.heap.size w w25 := b24.trans (s25.mono b24.size)
  replace o_w0 := o_w0.below s25 (by omega)
  replace o_g0 := o_g0.below s25 (by omega)
  replace o_t7 := o_t7.below s25 (by omega)
  replace o_t8 := o_t8.below s25 (by omega)
  go_wp2_with fail
  refine (P_BestMoves x_stock v_t7 x_wants v_t8 x_costs v_t9 _ (by omega) f_stock o_t7.r (by omega) f_wants o_t8.r m_costs f_costs o_t9.r).mono ?_
  rintro e w26 ⟨v_h0, rfl, o_h0, s26⟩
  have z26 := s26.size
  have b26 : Below w.heap.size w w26 := b25.trans (s26.mono b25.size)
  replace o_w0 := o_w0.below s26 (by omega)
  replace o_g0 := o_g0.below s26 (by omega)
  clear o_t7
  clear o_t8
  clear o_t9
  go_wp2_with fail
  refine (L_eq_MoveS _ _ _ _ _ _ _ _ o_h0 o_w0).mono ?_
  rintro e w27 ⟨rfl, s27⟩
  have z27 := s27.size
  have b27 : Below w.heap.size w w27 := b26.trans (s27.mono b26.size)
  replace o_w0 := o_w0.below s27 (by omega)
  replace o_g0 := o_g0.below s27 (by omega)
  replace o_h0 := o_h0.below s27 (by omega)
  go_wp2_with fail
  refine (L_held_MoveS _ _ _ _ _ _ (by omega) (by omega) o_g0).mono ?_
  rintro e w28 ⟨rfl, s28⟩
  have z28 := s28.size
  have b28 : Below w.heap.size w w28 := b27.trans (s28.mono b27.size)
  replace o_w0 := o_w0.below s28 (by omega)
  replace o_g0 := o_g0.below s28 (by omega)
  replace o_h0 := o_h0.below s28 (by omega)
  go_wp2_with fail
  go_ret
  exact ⟨rfl, b28⟩

theorem fnExactBestMoves_own : ownKnob Try.prog.godebug = none := by kernel_rfl
theorem fnExactBestMoves_laid : laidOutB Try.prog = true := by kernel_rfl
set_option maxRecDepth 100000 in
theorem fnExactBestMoves_lifted (os : Os) (started : os.Started) (H : Type) (enc : TypeId × Value → H) :
    ReturnsInHanded {} Try.checked os 3 .any (Rows.fnExactBestMovesSpec.pre6 enc Try.prog Try.f3 Rows.fnExactBestMovesRow.domain false) (Rows.fnExactBestMovesSpec.post enc Try.prog Try.f3 false true false false) := by
  refine returnsInHanded_of_change (C := Try.checked) fnExactBestMoves_own started (by kernel_rfl) Try.func3
    (ChangeSpec.witness6 (enc := enc) (C := Try.checked) false ⟨#[], #[.slice none 0 0, .slice none 0 0, .slice none 0 0], []⟩ 8 (by kernel_rfl) (by kernel_rfl) (by kernel_rfl) (by kernel_rfl)) ?_
  intro W base args ds gs before hval0 hW hcnd _
  have hval : ∀ (j : Nat) t v, Try.f3.params[j]? = some t → args[j]? = some v → Value.okWide Try.prog W .any base t v := hval0
  have hW' := hW
  obtain ⟨p, q, hA0, hV, rfl, hfz, hnd⟩ := hW
  have hA : DataW.TrodAll enc Try.prog W 0 (fun _ => true) true Try.f3.params.toList args.toList ds p := hA0
  rw [Try.params3] at hA hval
  obtain ⟨v0, vs0, d0, ds0, p0, q0, hargs, rfl, rfl, h0, r0⟩ := trodAll_cons hA
  obtain ⟨v1, vs1, d1, ds1, p1, q1, rfl, rfl, rfl, h1, r1⟩ := trodAll_cons r0
  obtain ⟨v2, vs2, d2, ds2, p2, q2, rfl, rfl, rfl, h2, r2⟩ := trodAll_cons r1
  obtain ⟨rfl, rfl, rfl⟩ := trodAll_nil r2
  obtain rfl : args = #[v0, v1, v2] := by cases args; simp_all
  obtain ⟨rfl, rfl⟩ := trodVars_none hV
  have k0 := h0
  have lt0 : ∀ x ∈ p0, x.block < W.heap.size := by obtain ⟨m, hm⟩ := k0; exact DataW.trod_lt m _ _ _ hm
  obtain ⟨A0, c0, zs0, rfl, rd0, len0, bd0⟩ := open_I Try.underlying22 Try.underlying2 (by kernel_rfl) (hval 0 22 v0 rfl rfl) h0
  have k1 := h1
  have lt1 : ∀ x ∈ p1, x.block < W.heap.size := by obtain ⟨m, hm⟩ := k1; exact DataW.trod_lt m _ _ _ hm
  obtain ⟨A1, c1, zs1, rfl, rd1, len1, bd1⟩ := open_I Try.underlying22 Try.underlying2 (by kernel_rfl) (hval 1 22 v1 rfl rfl) h1
  have k2 := h2
  have lt2 : ∀ x ∈ p2, x.block < W.heap.size := by obtain ⟨m, hm⟩ := k2; exact DataW.trod_lt m _ _ _ hm
  obtain ⟨A2, c2, zs2, rfl, rd2, len2, bd2⟩ := open_N0 Try.underlying23 Try.underlying22 (by kernel_rfl) Try.underlying2 (by kernel_rfl) (hval 2 23 v2 rfl rfl) h2
  clear hA0 hval0
  refine (xBestMoves_walk zs0 (.slice A0 zs0.length c0) zs1 (.slice A1 zs1.length c1) zs2 (.slice A2 zs2.length c2) W ⟨A0, c0, rfl, rd0⟩ len0 bd0 ⟨A1, c1, rfl, rd1⟩ len1 bd1 ⟨A2, c2, rfl, rd2⟩ len2 bd2).mono fun e W' ⟨he, bel⟩ => ?_
  subst he
  exact ⟨_, rfl, _, _, _, [], _, [], hW', trodAll_mk1 (shut_bool Try.underlying4 _), (trodAll_cons_mk (Below.trod fnExactBestMoves_laid (by kernel_rfl) (of_decide_eq_true (by kernel_rfl)) k0 bel lt0) (trodAll_cons_mk (Below.trod fnExactBestMoves_laid (by kernel_rfl) (of_decide_eq_true (by kernel_rfl)) k1 bel lt1) (trodAll_cons_mk (Below.trod fnExactBestMoves_laid (by kernel_rfl) (of_decide_eq_true (by kernel_rfl)) k2 bel lt2) trodAll_mk0))), rfl, bel.frame _, fun h => by cases h⟩
theorem fnExactBestMoves_holds : Rows.FnExactBestMovesSaid :=
  OpenClaim.holds_of_wide 3 Try.f3 rfl rfl rfl rfl rfl rfl rfl ⟨rfl, rfl, rfl, rfl, rfl⟩ rfl rfl rfl rfl rfl (by kernel_rfl) Try.func3 (by kernel_rfl)
    (of_decide_eq_true (by kernel_rfl)) (by unfold Func.isWrapper; first | (rw [if_pos (by decide +kernel)]; kernel_rfl) | (rw [if_neg (by decide +kernel)]; exact ⟨rfl, rfl⟩))
    (fun os started H enc _ => fnExactBestMoves_lifted os started H enc)
#print axioms fnExactBestMoves_holds
end Go.Proofs.Ytklfjekpeoigoaa
