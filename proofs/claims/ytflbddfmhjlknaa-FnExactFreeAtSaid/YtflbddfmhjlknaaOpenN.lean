/-
  Slices whose elements hold a list of numbers, as arguments of a law, opened into the words of the walks.
-/
import Derived.Test.YtflbddfmhjlknaaOpenW
import Derived.Test.YtflbddfmhjlknaaNestL
namespace Go.Proofs.Ytflbddfmhjlknaa
open Go.ChangeShapes Go.WideShapes Go.ChangeAt Go.RowKit Go.Deep

section
variable {H : Type} {enc : TypeId × Value → H} {P : Program} {w : World} {spare : Nat → Bool} {held : Bool} {b0 : Nat}
instance : Inhabited (Value × TN) := ⟨zp⟩
def OkP (w : World) (p : Value × TN) : Prop := WayAt w w.heap.size p ∧ p.2.Fits ∧ p.2.way.length ≤ 9223372036854775807
theorem lenN_of {x : List TN} {ps : List (Value × TN)} (hx : ps.map (·.2) = x) (hl : x.length ≤ 9223372036854775807) (h : ∀ p ∈ ps, OkP w p) : LenN x ∧ ∀ e ∈ x, e.Fits := by
  subst hx
  refine ⟨⟨hl, fun e he => ?_⟩, fun e he => ?_⟩
  · obtain ⟨p, hp, rfl⟩ := List.mem_map.1 he; exact (h p hp).2.2
  · obtain ⟨p, hp, rfl⟩ := List.mem_map.1 he; exact (h p hp).2.1
theorem rec_N0 {e e1 : TypeId} {fuel : Nat} {cs : List Value} {x : DataW H × List MemPlace} (he : P.underlying e = some (.slice e1)) (g1 : P.underlying e1 = some (.int .i64)) (c1 : P.cellsOf e1 = 1) (hcs : cs.length = 1)
    (h : DataW.trod enc P w b0 spare held fuel e cs = some x) : ∃ p : Value × TN, cs = Nc 0 p ∧ OkP w p := by
  match cs, hcs with
  | [v0], _ =>
    obtain ⟨A, c, zs, rfl, r1, l1, b1⟩ := trod_I he g1 c1 h
    exact ⟨(.slice A zs.length c, ⟨zs, 0, 0⟩), rfl, ⟨A, c, rfl, r1⟩, ⟨b1, by dsimp only; omega, by dsimp only; omega⟩, l1⟩
theorem rec_N1 {e e1 : TypeId} {fuel : Nat} {cs : List Value} {x : DataW H × List MemPlace} {f0 f1 : Field} (he : P.underlying e = some (.struct #[f0, f1])) (hone : oneCellFields P #[f0, f1] = true) (hC : P.cellsOf e = 2)
    (h0 : P.underlying f0.type = some (.slice e1)) (g1 : P.underlying e1 = some (.int .i64)) (c1 : P.cellsOf e1 = 1) (h1 : P.underlying f1.type = some (.int .i64))
    (h : DataW.trod enc P w b0 spare held fuel e cs = some x) : ∃ p : Value × TN, cs = Nc 1 p ∧ OkP w p := by
  obtain ⟨xs, m, _, _, hlen, hxl, hg⟩ := DataW.trod_struct he h
  rw [hC] at hlen
  match cs, hlen with
  | [v0, v1], _ =>
    match xs, hxl with
    | [y0, y1], _ =>
      obtain ⟨o0, j0⟩ := hone_of hone 0 f0 rfl
      have t0 := hg 0 f0 rfl
      rw [o0, j0] at t0
      obtain ⟨A, c, zs, rfl, r1, l1, b1⟩ := trod_I h0 g1 c1 (x := y0) (by simpa using t0)
      obtain ⟨o1, j1⟩ := hone_of hone 1 f1 rfl
      have t1 := hg 1 f1 rfl
      rw [o1, j1] at t1
      obtain ⟨n1, e1, _, w1⟩ := DataW.trod_int h1 (x := y1) (by simpa using t1)
      simp at e1
      subst e1
      exact ⟨(.slice A zs.length c, ⟨zs, n1, 0⟩), rfl, ⟨A, c, rfl, r1⟩, ⟨b1, wf64 w1, by dsimp only; omega⟩, l1⟩
theorem rec_N2 {e e1 : TypeId} {fuel : Nat} {cs : List Value} {x : DataW H × List MemPlace} {f0 f1 f2 : Field} (he : P.underlying e = some (.struct #[f0, f1, f2])) (hone : oneCellFields P #[f0, f1, f2] = true) (hC : P.cellsOf e = 3)
    (h0 : P.underlying f0.type = some (.slice e1)) (g1 : P.underlying e1 = some (.int .i64)) (c1 : P.cellsOf e1 = 1) (h1 : P.underlying f1.type = some (.int .i64)) (h2 : P.underlying f2.type = some (.int .i64))
    (h : DataW.trod enc P w b0 spare held fuel e cs = some x) : ∃ p : Value × TN, cs = Nc 2 p ∧ OkP w p := by
  obtain ⟨xs, m, _, _, hlen, hxl, hg⟩ := DataW.trod_struct he h
  rw [hC] at hlen
  match cs, hlen with
  | [v0, v1, v2], _ =>
    match xs, hxl with
    | [y0, y1, y2], _ =>
      obtain ⟨o0, j0⟩ := hone_of hone 0 f0 rfl
      have t0 := hg 0 f0 rfl
      rw [o0, j0] at t0
      obtain ⟨A, c, zs, rfl, r1, l1, b1⟩ := trod_I h0 g1 c1 (x := y0) (by simpa using t0)
      obtain ⟨o1, j1⟩ := hone_of hone 1 f1 rfl
      have t1 := hg 1 f1 rfl
      rw [o1, j1] at t1
      obtain ⟨n1, e1, _, w1⟩ := DataW.trod_int h1 (x := y1) (by simpa using t1)
      simp at e1
      subst e1
      obtain ⟨o2, j2⟩ := hone_of hone 2 f2 rfl
      have t2 := hg 2 f2 rfl
      rw [o2, j2] at t2
      obtain ⟨n2, e2, _, w2⟩ := DataW.trod_int h2 (x := y2) (by simpa using t2)
      simp at e2
      subst e2
      exact ⟨(.slice A zs.length c, ⟨zs, n1, n2⟩), rfl, ⟨A, c, rfl, r1⟩, ⟨b1, wf64 w1, wf64 w2⟩, l1⟩
theorem open_N0 {r : Reach} {b1 : Nat} {t e e1 : TypeId} {v : Value} {d : DataW H} {p : List MemPlace} (ht : P.underlying t = some (.slice e)) (he : P.underlying e = some (.slice e1)) (hC : P.cellsOf e = 1) (g1 : P.underlying e1 = some (.int .i64)) (c1 : P.cellsOf e1 = 1)
    (hval : Value.okWide P w r b1 t v) (h : DataW.Trod enc P w b0 spare held t v d p) :
    ∃ A c, ∃ x : List TN, v = .slice A x.length c ∧ RN 0 w w.heap.size A x ∧ LenN x ∧ ∀ e ∈ x, e.Fits := by
  obtain ⟨a, l, c, rfl⟩ := okWide_slice ht hval
  obtain ⟨fuel, hf⟩ := h
  rcases open_slice ht (by simpa [Value.cells] using hf : DataW.trod enc P w b0 spare held fuel t [.slice a l c] = some (d, p)) with ⟨hcs, _⟩ | ⟨a, l, c, m, n, D, Pl, hcs, _, hl, hm, hmm, _, hi⟩
  · simp at hcs
    obtain ⟨rfl, rfl, rfl⟩ := hcs
    exact ⟨none, 0, [], rfl, RN.nil _ _ _ _, ⟨by simp, by simp⟩, by simp⟩
  · simp at hcs
    obtain ⟨rfl, rfl, rfl⟩ := hcs
    have hll : l ≤ m := by rw [hmm]; split <;> omega
    unfold maxLen at hm
    obtain ⟨X, hX⟩ := choose_lt (α := Value × TN) (n := l) (p := fun i y => (∀ j, j < 1 → w.cell? (a.add (i * 1 + j)) = (Nc 0 y)[j]?) ∧ OkP w y) (fun i hil => by
      obtain ⟨cs', q1, q2⟩ := hi i (by omega)
      rw [hC] at q1
      obtain ⟨_, hlen, hat⟩ := World.cells?_some q1
      obtain ⟨y, rfl, hy⟩ := rec_N0 he g1 c1 hlen q2
      exact ⟨y, fun j hj => by rw [← Go.Deep.add_add]; exact hat j hj, hy⟩)
    have hps : ∀ p ∈ (List.range l).map X, OkP w p := fun p hp => by
      obtain ⟨i, hi', rfl⟩ := List.mem_map.1 hp
      exact (hX i (List.mem_range.1 hi')).2
    have hlen : (((List.range l).map X).map (·.2)).length = l := by simp
    obtain ⟨k1, k2⟩ := lenN_of rfl (by rw [hlen]; omega) hps
    exact ⟨some a, c, ((List.range l).map X).map (·.2), by rw [hlen], ⟨_, rfl, rd_family (Nc 0) 1 (fun _ => rfl) (by omega) X l fun i hil j hj => (hX i hil).1 j hj, fun p hp => (hps p hp).1⟩, k1, k2⟩
theorem open_N1 {r : Reach} {b1 : Nat} {t e e1 : TypeId} {v : Value} {d : DataW H} {p : List MemPlace} {f0 f1 : Field} (ht : P.underlying t = some (.slice e)) (he : P.underlying e = some (.struct #[f0, f1])) (hone : oneCellFields P #[f0, f1] = true) (hC : P.cellsOf e = 2) (h0 : P.underlying f0.type = some (.slice e1)) (g1 : P.underlying e1 = some (.int .i64)) (c1 : P.cellsOf e1 = 1) (h1 : P.underlying f1.type = some (.int .i64))
    (hval : Value.okWide P w r b1 t v) (h : DataW.Trod enc P w b0 spare held t v d p) :
    ∃ A c, ∃ x : List TN, v = .slice A x.length c ∧ RN 1 w w.heap.size A x ∧ LenN x ∧ ∀ e ∈ x, e.Fits := by
  obtain ⟨a, l, c, rfl⟩ := okWide_slice ht hval
  obtain ⟨fuel, hf⟩ := h
  rcases open_slice ht (by simpa [Value.cells] using hf : DataW.trod enc P w b0 spare held fuel t [.slice a l c] = some (d, p)) with ⟨hcs, _⟩ | ⟨a, l, c, m, n, D, Pl, hcs, _, hl, hm, hmm, _, hi⟩
  · simp at hcs
    obtain ⟨rfl, rfl, rfl⟩ := hcs
    exact ⟨none, 0, [], rfl, RN.nil _ _ _ _, ⟨by simp, by simp⟩, by simp⟩
  · simp at hcs
    obtain ⟨rfl, rfl, rfl⟩ := hcs
    have hll : l ≤ m := by rw [hmm]; split <;> omega
    unfold maxLen at hm
    obtain ⟨X, hX⟩ := choose_lt (α := Value × TN) (n := l) (p := fun i y => (∀ j, j < 2 → w.cell? (a.add (i * 2 + j)) = (Nc 1 y)[j]?) ∧ OkP w y) (fun i hil => by
      obtain ⟨cs', q1, q2⟩ := hi i (by omega)
      rw [hC] at q1
      obtain ⟨_, hlen, hat⟩ := World.cells?_some q1
      obtain ⟨y, rfl, hy⟩ := rec_N1 he hone hC h0 g1 c1 h1 q2
      exact ⟨y, fun j hj => by rw [← Go.Deep.add_add]; exact hat j hj, hy⟩)
    have hps : ∀ p ∈ (List.range l).map X, OkP w p := fun p hp => by
      obtain ⟨i, hi', rfl⟩ := List.mem_map.1 hp
      exact (hX i (List.mem_range.1 hi')).2
    have hlen : (((List.range l).map X).map (·.2)).length = l := by simp
    obtain ⟨k1, k2⟩ := lenN_of rfl (by rw [hlen]; omega) hps
    exact ⟨some a, c, ((List.range l).map X).map (·.2), by rw [hlen], ⟨_, rfl, rd_family (Nc 1) 2 (fun _ => rfl) (by omega) X l fun i hil j hj => (hX i hil).1 j hj, fun p hp => (hps p hp).1⟩, k1, k2⟩
theorem open_N2 {r : Reach} {b1 : Nat} {t e e1 : TypeId} {v : Value} {d : DataW H} {p : List MemPlace} {f0 f1 f2 : Field} (ht : P.underlying t = some (.slice e)) (he : P.underlying e = some (.struct #[f0, f1, f2])) (hone : oneCellFields P #[f0, f1, f2] = true) (hC : P.cellsOf e = 3) (h0 : P.underlying f0.type = some (.slice e1)) (g1 : P.underlying e1 = some (.int .i64)) (c1 : P.cellsOf e1 = 1) (h1 : P.underlying f1.type = some (.int .i64)) (h2 : P.underlying f2.type = some (.int .i64))
    (hval : Value.okWide P w r b1 t v) (h : DataW.Trod enc P w b0 spare held t v d p) :
    ∃ A c, ∃ x : List TN, v = .slice A x.length c ∧ RN 2 w w.heap.size A x ∧ LenN x ∧ ∀ e ∈ x, e.Fits := by
  obtain ⟨a, l, c, rfl⟩ := okWide_slice ht hval
  obtain ⟨fuel, hf⟩ := h
  rcases open_slice ht (by simpa [Value.cells] using hf : DataW.trod enc P w b0 spare held fuel t [.slice a l c] = some (d, p)) with ⟨hcs, _⟩ | ⟨a, l, c, m, n, D, Pl, hcs, _, hl, hm, hmm, _, hi⟩
  · simp at hcs
    obtain ⟨rfl, rfl, rfl⟩ := hcs
    exact ⟨none, 0, [], rfl, RN.nil _ _ _ _, ⟨by simp, by simp⟩, by simp⟩
  · simp at hcs
    obtain ⟨rfl, rfl, rfl⟩ := hcs
    have hll : l ≤ m := by rw [hmm]; split <;> omega
    unfold maxLen at hm
    obtain ⟨X, hX⟩ := choose_lt (α := Value × TN) (n := l) (p := fun i y => (∀ j, j < 3 → w.cell? (a.add (i * 3 + j)) = (Nc 2 y)[j]?) ∧ OkP w y) (fun i hil => by
      obtain ⟨cs', q1, q2⟩ := hi i (by omega)
      rw [hC] at q1
      obtain ⟨_, hlen, hat⟩ := World.cells?_some q1
      obtain ⟨y, rfl, hy⟩ := rec_N2 he hone hC h0 g1 c1 h1 h2 q2
      exact ⟨y, fun j hj => by rw [← Go.Deep.add_add]; exact hat j hj, hy⟩)
    have hps : ∀ p ∈ (List.range l).map X, OkP w p := fun p hp => by
      obtain ⟨i, hi', rfl⟩ := List.mem_map.1 hp
      exact (hX i (List.mem_range.1 hi')).2
    have hlen : (((List.range l).map X).map (·.2)).length = l := by simp
    obtain ⟨k1, k2⟩ := lenN_of rfl (by rw [hlen]; omega) hps
    exact ⟨some a, c, ((List.range l).map X).map (·.2), by rw [hlen], ⟨_, rfl, rd_family (Nc 2) 3 (fun _ => rfl) (by omega) X l fun i hil j hj => (hX i hil).1 j hj, fun p hp => (hps p hp).1⟩, k1, k2⟩
end
end Go.Proofs.Ytflbddfmhjlknaa
