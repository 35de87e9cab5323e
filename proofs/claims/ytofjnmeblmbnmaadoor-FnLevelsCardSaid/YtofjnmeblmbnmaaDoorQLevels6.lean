/-
  The arguments of a law, opened into the words of the walks: slices of numbers and of records. Printed by gen_open.py. No program is named.
  The parameter 'code []byte' of a law: what it reads.
  Drawing numbers from bytes: what the source keeps, and the bounds of what it gives.
  Drawing a number below another one, and one of some numbers.
-/
import Derived.Test.YtofjnmeblmbnmaaDoorQLevels0
import Derived.ProofKit
import Derived.OpenShut
import Derived.Deep.Slices
import Derived.Deep.Fields
import Derived.ChangeOld
import Derived.Test.YtofjnmeblmbnmaaDoorQLevels5
import Derived.Laws.BitsLemmas
namespace Go.Proofs.YtofjnmeblmbnmaaDoor
open Go.ChangeShapes Go.WideShapes Go.ChangeAt Go.RowKit Go.Deep

theorem wf64 {z : Int} (h : (Lit.int .i64 z).wf = true) : -9223372036854775808 ≤ z ∧ z ≤ 9223372036854775807 := by
  simp [Lit.wf, IntKind.min, IntKind.max, IntKind.signed, IntKind.bits] at h
  exact ⟨by omega, by omega⟩

section
variable {w : World}
theorem addr_of_cell {a : Addr} {u : Value} (h : w.cell? a = some u) : a = ⟨a.block, a.off, none⟩ := by
  obtain ⟨b, o, s⟩ := a
  have := World.cell?_spot h
  simp at this; subst this; rfl
theorem rd_of_cells {a : Addr} {xs : List Value} (h : ∀ j, j < xs.length → w.cell? (a.add j) = xs[j]?) : Rd w w.heap.size (some a) xs := fun hn => by
  have hl : 0 < xs.length := List.length_pos_iff.2 hn
  have h0 := h 0 hl
  rw [List.getElem?_eq_getElem hl] at h0
  have ha : a.add 0 = a := by simp [Addr.add]
  rw [ha] at h0
  have e := addr_of_cell h0
  have hlt := World.block_lt_of_cell? w _ h0
  refine ⟨a.block, a.off, by rw [← e], hlt, fun j u hu => ?_⟩
  have hj := (List.getElem?_eq_some_iff.1 hu).1
  have := h j hj
  rw [e, Addr.add_lit] at this
  rw [this, hu]
theorem rd_family {α : Type} (f : α → List Value) (s : Nat) (hs : ∀ x, (f x).length = s) (hs0 : 0 < s) (X : Nat → α) (len : Nat) {a : Addr} (h : ∀ i, i < len → ∀ j, j < s → w.cell? (a.add (i * s + j)) = (f (X i))[j]?) :
    Rd w w.heap.size (some a) (((List.range len).map X).flatMap f) := by
  refine rd_of_cells fun q hq => ?_
  rw [flatMap_len f s hs] at hq
  simp only [List.length_map, List.length_range] at hq
  have hk : q / s < len := by rw [Nat.div_lt_iff_lt_mul hs0]; exact hq
  have hm := Nat.mod_lt q hs0
  have e : q / s * s + q % s = q := by rw [Nat.mul_comm]; exact Nat.div_add_mod q s
  have h1 := h (q / s) hk (q % s) hm
  have h2 := flatMap_get f s hs ((List.range len).map X) (q / s) (q % s) (X (q / s)) (by simp [hk]) hm
  rw [e] at h1 h2
  rw [h1, h2]
end

section
variable {H : Type} {enc : TypeId × Value → H} {P : Program} {w : World} {spare : Nat → Bool} {held : Bool} {b0 : Nat}
theorem trod_I {t e : TypeId} {fuel : Nat} {v : Value} {x : DataW H × List MemPlace} (ht : P.underlying t = some (.slice e)) (he : P.underlying e = some (.int .i64)) (hc : P.cellsOf e = 1)
    (h : DataW.trod enc P w b0 spare held fuel t [v] = some x) :
    ∃ A c, ∃ zs : List Int, v = .slice A zs.length c ∧ RdI w w.heap.size A zs ∧ zs.length ≤ 9223372036854775807 ∧ ∀ z ∈ zs, -9223372036854775808 ≤ z ∧ z ≤ 9223372036854775807 := by
  rcases open_ints ht he hc h with ⟨hcs, _⟩ | ⟨a, l, c, zs, hcs, _, hl, hm, hz, _, hcell, hwz⟩
  · simp at hcs; subst hcs
    exact ⟨none, 0, [], rfl, Rd.nil _ _ _, by simp, by simp⟩
  · simp at hcs; subst hcs
    have hll : l ≤ zs.length := by rw [hz]; split <;> omega
    unfold maxLen at hm
    refine ⟨some a, c, zs.take l, by simp [Nat.min_eq_left hll], ?_, by simp [Nat.min_eq_left hll]; omega, fun z hz' => wf64 (hwz z (List.mem_of_mem_take hz'))⟩
    refine rd_of_cells fun j hj => ?_
    simp only [List.length_map, List.length_take] at hj
    rw [hcell j (by omega)]
    simp [List.getD, show j < l by omega, show j < zs.length by omega]
theorem open_I {r : Reach} {b1 : Nat} {t e : TypeId} {v : Value} {d : DataW H} {p : List MemPlace} (ht : P.underlying t = some (.slice e)) (he : P.underlying e = some (.int .i64)) (hc : P.cellsOf e = 1)
    (hval : Value.okWide P w r b1 t v) (h : DataW.Trod enc P w b0 spare held t v d p) :
    ∃ A c, ∃ zs : List Int, v = .slice A zs.length c ∧ RdI w w.heap.size A zs ∧ zs.length ≤ 9223372036854775807 ∧ ∀ z ∈ zs, -9223372036854775808 ≤ z ∧ z ≤ 9223372036854775807 := by
  obtain ⟨a, l, c, rfl⟩ := okWide_slice ht hval
  obtain ⟨fuel, hf⟩ := h
  exact trod_I ht he hc (by simpa [Value.cells] using hf)
theorem open_Z {r : Reach} {b1 : Nat} {t : TypeId} {v : Value} {d : DataW H} {p : List MemPlace} (ht : P.underlying t = some (.int .i64))
    (hval : Value.okWide P w r b1 t v) (h : DataW.Trod enc P w b0 spare held t v d p) : ∃ z, v = .int .i64 z ∧ -9223372036854775808 ≤ z ∧ z ≤ 9223372036854775807 := by
  obtain ⟨z, rfl, _, _, hw⟩ := open_int ht hval h
  exact ⟨z, rfl, wf64 hw⟩
instance : Inhabited T2 := ⟨⟨0, 0⟩⟩
theorem rec_2 {e : TypeId} {fuel : Nat} {cs : List Value} {x : DataW H × List MemPlace} {f0 f1 : Field} (he : P.underlying e = some (.struct #[f0, f1])) (hone : oneCellFields P #[f0, f1] = true) (hC : P.cellsOf e = 2)
    (h0 : P.underlying f0.type = some (.int .i64)) (h1 : P.underlying f1.type = some (.int .i64)) (h : DataW.trod enc P w b0 spare held fuel e cs = some x) : ∃ y : T2, cs = y.cells ∧ y.Fits := by
  obtain ⟨xs, m, _, _, hlen, hxl, hg⟩ := DataW.trod_struct he h
  rw [hC] at hlen
  match cs, hlen with
  | [v0, v1], _ =>
    match xs, hxl with
    | [y0, y1], _ =>
      obtain ⟨o0, k0⟩ := hone_of hone 0 f0 rfl
      have t0 := hg 0 f0 rfl
      rw [o0, k0] at t0
      obtain ⟨n0, e0, _, w0⟩ := DataW.trod_int h0 (x := y0) (by simpa using t0)
      simp at e0
      obtain ⟨o1, k1⟩ := hone_of hone 1 f1 rfl
      have t1 := hg 1 f1 rfl
      rw [o1, k1] at t1
      obtain ⟨n1, e1, _, w1⟩ := DataW.trod_int h1 (x := y1) (by simpa using t1)
      simp at e1
      subst e0 e1
      exact ⟨⟨n0, n1⟩, rfl, wf64 w0, wf64 w1⟩
theorem trod_S2 {t e : TypeId} {fuel : Nat} {v : Value} {x : DataW H × List MemPlace} {f0 f1 : Field} (ht : P.underlying t = some (.slice e)) (he : P.underlying e = some (.struct #[f0, f1])) (hone : oneCellFields P #[f0, f1] = true) (hC : P.cellsOf e = 2)
    (h0 : P.underlying f0.type = some (.int .i64)) (h1 : P.underlying f1.type = some (.int .i64)) (h : DataW.trod enc P w b0 spare held fuel t [v] = some x) :
    ∃ A c, ∃ xs : List T2, v = .slice A xs.length c ∧ Rd2 w w.heap.size A xs ∧ xs.length ≤ 9223372036854775807 ∧ ∀ y ∈ xs, y.Fits := by
  rcases open_slice ht h with ⟨hcs, _⟩ | ⟨a, l, c, m, n, D, Pl, hcs, _, hl, hm, hmm, _, hi⟩
  · simp at hcs; subst hcs
    exact ⟨none, 0, [], rfl, Rd.nil _ _ _, by simp, by simp⟩
  · simp at hcs; subst hcs
    have hll : l ≤ m := by rw [hmm]; split <;> omega
    unfold maxLen at hm
    obtain ⟨X, hX⟩ := choose_lt (α := T2) (n := l) (p := fun i y => (∀ j, j < 2 → w.cell? (a.add (i * 2 + j)) = y.cells[j]?) ∧ y.Fits) (fun i hil => by
      obtain ⟨cs', q1, q2⟩ := hi i (by omega)
      rw [hC] at q1
      obtain ⟨y, rfl, hy⟩ := rec_2 he hone hC h0 h1 q2
      obtain ⟨_, _, hat⟩ := World.cells?_some q1
      exact ⟨y, fun j hj => by rw [← Go.Deep.add_add]; exact hat j hj, hy⟩)
    refine ⟨some a, c, (List.range l).map X, by simp, rd_family T2.cells 2 (fun _ => rfl) (by omega) X l fun i hil j hj => (hX i hil).1 j hj, by simp; omega, fun y hy => ?_⟩
    obtain ⟨i, hi', rfl⟩ := List.mem_map.1 hy
    exact (hX i (List.mem_range.1 hi')).2
theorem open_S2 {r : Reach} {b1 : Nat} {t e : TypeId} {v : Value} {d : DataW H} {p : List MemPlace} {f0 f1 : Field} (ht : P.underlying t = some (.slice e)) (he : P.underlying e = some (.struct #[f0, f1])) (hone : oneCellFields P #[f0, f1] = true) (hC : P.cellsOf e = 2)
    (h0 : P.underlying f0.type = some (.int .i64)) (h1 : P.underlying f1.type = some (.int .i64)) (hval : Value.okWide P w r b1 t v) (h : DataW.Trod enc P w b0 spare held t v d p) :
    ∃ A c, ∃ xs : List T2, v = .slice A xs.length c ∧ Rd2 w w.heap.size A xs ∧ xs.length ≤ 9223372036854775807 ∧ ∀ y ∈ xs, y.Fits := by
  obtain ⟨a, l, c, rfl⟩ := okWide_slice ht hval
  obtain ⟨fuel, hf⟩ := h
  exact trod_S2 ht he hone hC h0 h1 (by simpa [Value.cells] using hf)
theorem open_V2 {r : Reach} {b1 : Nat} {e : TypeId} {v : Value} {d : DataW H} {p : List MemPlace} {f0 f1 : Field} (he : P.underlying e = some (.struct #[f0, f1])) (hone : oneCellFields P #[f0, f1] = true) (hC : P.cellsOf e = 2)
    (h0 : P.underlying f0.type = some (.int .i64)) (h1 : P.underlying f1.type = some (.int .i64)) (hval : Value.okWide P w r b1 e v) (h : DataW.Trod enc P w b0 spare held e v d p) : ∃ y : T2, v = .agg #[.int .i64 y.a, .int .i64 y.b] ∧ y.Fits := by
  obtain ⟨cs, rfl, hsz⟩ := okWide_struct he hval
  obtain ⟨fuel, hf⟩ := h
  obtain ⟨y, hy, hfit⟩ := rec_2 he hone hC h0 h1 hf
  refine ⟨y, ?_, hfit⟩
  simp only [Value.cells] at hy
  obtain ⟨l⟩ := cs
  simp only at hy
  subst hy; rfl
instance : Inhabited T3 := ⟨⟨0, 0, 0⟩⟩
theorem rec_3 {e : TypeId} {fuel : Nat} {cs : List Value} {x : DataW H × List MemPlace} {f0 f1 f2 : Field} (he : P.underlying e = some (.struct #[f0, f1, f2])) (hone : oneCellFields P #[f0, f1, f2] = true) (hC : P.cellsOf e = 3)
    (h0 : P.underlying f0.type = some (.int .i64)) (h1 : P.underlying f1.type = some (.int .i64)) (h2 : P.underlying f2.type = some (.int .i64)) (h : DataW.trod enc P w b0 spare held fuel e cs = some x) : ∃ y : T3, cs = y.cells ∧ y.Fits := by
  obtain ⟨xs, m, _, _, hlen, hxl, hg⟩ := DataW.trod_struct he h
  rw [hC] at hlen
  match cs, hlen with
  | [v0, v1, v2], _ =>
    match xs, hxl with
    | [y0, y1, y2], _ =>
      obtain ⟨o0, k0⟩ := hone_of hone 0 f0 rfl
      have t0 := hg 0 f0 rfl
      rw [o0, k0] at t0
      obtain ⟨n0, e0, _, w0⟩ := DataW.trod_int h0 (x := y0) (by simpa using t0)
      simp at e0
      obtain ⟨o1, k1⟩ := hone_of hone 1 f1 rfl
      have t1 := hg 1 f1 rfl
      rw [o1, k1] at t1
      obtain ⟨n1, e1, _, w1⟩ := DataW.trod_int h1 (x := y1) (by simpa using t1)
      simp at e1
      obtain ⟨o2, k2⟩ := hone_of hone 2 f2 rfl
      have t2 := hg 2 f2 rfl
      rw [o2, k2] at t2
      obtain ⟨n2, e2, _, w2⟩ := DataW.trod_int h2 (x := y2) (by simpa using t2)
      simp at e2
      subst e0 e1 e2
      exact ⟨⟨n0, n1, n2⟩, rfl, wf64 w0, wf64 w1, wf64 w2⟩
theorem trod_S3 {t e : TypeId} {fuel : Nat} {v : Value} {x : DataW H × List MemPlace} {f0 f1 f2 : Field} (ht : P.underlying t = some (.slice e)) (he : P.underlying e = some (.struct #[f0, f1, f2])) (hone : oneCellFields P #[f0, f1, f2] = true) (hC : P.cellsOf e = 3)
    (h0 : P.underlying f0.type = some (.int .i64)) (h1 : P.underlying f1.type = some (.int .i64)) (h2 : P.underlying f2.type = some (.int .i64)) (h : DataW.trod enc P w b0 spare held fuel t [v] = some x) :
    ∃ A c, ∃ xs : List T3, v = .slice A xs.length c ∧ Rd3 w w.heap.size A xs ∧ xs.length ≤ 9223372036854775807 ∧ ∀ y ∈ xs, y.Fits := by
  rcases open_slice ht h with ⟨hcs, _⟩ | ⟨a, l, c, m, n, D, Pl, hcs, _, hl, hm, hmm, _, hi⟩
  · simp at hcs; subst hcs
    exact ⟨none, 0, [], rfl, Rd.nil _ _ _, by simp, by simp⟩
  · simp at hcs; subst hcs
    have hll : l ≤ m := by rw [hmm]; split <;> omega
    unfold maxLen at hm
    obtain ⟨X, hX⟩ := choose_lt (α := T3) (n := l) (p := fun i y => (∀ j, j < 3 → w.cell? (a.add (i * 3 + j)) = y.cells[j]?) ∧ y.Fits) (fun i hil => by
      obtain ⟨cs', q1, q2⟩ := hi i (by omega)
      rw [hC] at q1
      obtain ⟨y, rfl, hy⟩ := rec_3 he hone hC h0 h1 h2 q2
      obtain ⟨_, _, hat⟩ := World.cells?_some q1
      exact ⟨y, fun j hj => by rw [← Go.Deep.add_add]; exact hat j hj, hy⟩)
    refine ⟨some a, c, (List.range l).map X, by simp, rd_family T3.cells 3 (fun _ => rfl) (by omega) X l fun i hil j hj => (hX i hil).1 j hj, by simp; omega, fun y hy => ?_⟩
    obtain ⟨i, hi', rfl⟩ := List.mem_map.1 hy
    exact (hX i (List.mem_range.1 hi')).2
theorem open_S3 {r : Reach} {b1 : Nat} {t e : TypeId} {v : Value} {d : DataW H} {p : List MemPlace} {f0 f1 f2 : Field} (ht : P.underlying t = some (.slice e)) (he : P.underlying e = some (.struct #[f0, f1, f2])) (hone : oneCellFields P #[f0, f1, f2] = true) (hC : P.cellsOf e = 3)
    (h0 : P.underlying f0.type = some (.int .i64)) (h1 : P.underlying f1.type = some (.int .i64)) (h2 : P.underlying f2.type = some (.int .i64)) (hval : Value.okWide P w r b1 t v) (h : DataW.Trod enc P w b0 spare held t v d p) :
    ∃ A c, ∃ xs : List T3, v = .slice A xs.length c ∧ Rd3 w w.heap.size A xs ∧ xs.length ≤ 9223372036854775807 ∧ ∀ y ∈ xs, y.Fits := by
  obtain ⟨a, l, c, rfl⟩ := okWide_slice ht hval
  obtain ⟨fuel, hf⟩ := h
  exact trod_S3 ht he hone hC h0 h1 h2 (by simpa [Value.cells] using hf)
theorem open_V3 {r : Reach} {b1 : Nat} {e : TypeId} {v : Value} {d : DataW H} {p : List MemPlace} {f0 f1 f2 : Field} (he : P.underlying e = some (.struct #[f0, f1, f2])) (hone : oneCellFields P #[f0, f1, f2] = true) (hC : P.cellsOf e = 3)
    (h0 : P.underlying f0.type = some (.int .i64)) (h1 : P.underlying f1.type = some (.int .i64)) (h2 : P.underlying f2.type = some (.int .i64)) (hval : Value.okWide P w r b1 e v) (h : DataW.Trod enc P w b0 spare held e v d p) : ∃ y : T3, v = .agg #[.int .i64 y.a, .int .i64 y.b, .int .i64 y.c] ∧ y.Fits := by
  obtain ⟨cs, rfl, hsz⟩ := okWide_struct he hval
  obtain ⟨fuel, hf⟩ := h
  obtain ⟨y, hy, hfit⟩ := rec_3 he hone hC h0 h1 h2 hf
  refine ⟨y, ?_, hfit⟩
  simp only [Value.cells] at hy
  obtain ⟨l⟩ := cs
  simp only at hy
  subst hy; rfl
instance : Inhabited T4 := ⟨⟨0, 0, 0, 0⟩⟩
theorem rec_4 {e : TypeId} {fuel : Nat} {cs : List Value} {x : DataW H × List MemPlace} {f0 f1 f2 f3 : Field} (he : P.underlying e = some (.struct #[f0, f1, f2, f3])) (hone : oneCellFields P #[f0, f1, f2, f3] = true) (hC : P.cellsOf e = 4)
    (h0 : P.underlying f0.type = some (.int .i64)) (h1 : P.underlying f1.type = some (.int .i64)) (h2 : P.underlying f2.type = some (.int .i64)) (h3 : P.underlying f3.type = some (.int .i64)) (h : DataW.trod enc P w b0 spare held fuel e cs = some x) : ∃ y : T4, cs = y.cells ∧ y.Fits := by
  obtain ⟨xs, m, _, _, hlen, hxl, hg⟩ := DataW.trod_struct he h
  rw [hC] at hlen
  match cs, hlen with
  | [v0, v1, v2, v3], _ =>
    match xs, hxl with
    | [y0, y1, y2, y3], _ =>
      obtain ⟨o0, k0⟩ := hone_of hone 0 f0 rfl
      have t0 := hg 0 f0 rfl
      rw [o0, k0] at t0
      obtain ⟨n0, e0, _, w0⟩ := DataW.trod_int h0 (x := y0) (by simpa using t0)
      simp at e0
      obtain ⟨o1, k1⟩ := hone_of hone 1 f1 rfl
      have t1 := hg 1 f1 rfl
      rw [o1, k1] at t1
      obtain ⟨n1, e1, _, w1⟩ := DataW.trod_int h1 (x := y1) (by simpa using t1)
      simp at e1
      obtain ⟨o2, k2⟩ := hone_of hone 2 f2 rfl
      have t2 := hg 2 f2 rfl
      rw [o2, k2] at t2
      obtain ⟨n2, e2, _, w2⟩ := DataW.trod_int h2 (x := y2) (by simpa using t2)
      simp at e2
      obtain ⟨o3, k3⟩ := hone_of hone 3 f3 rfl
      have t3 := hg 3 f3 rfl
      rw [o3, k3] at t3
      obtain ⟨n3, e3, _, w3⟩ := DataW.trod_int h3 (x := y3) (by simpa using t3)
      simp at e3
      subst e0 e1 e2 e3
      exact ⟨⟨n0, n1, n2, n3⟩, rfl, wf64 w0, wf64 w1, wf64 w2, wf64 w3⟩
theorem trod_S4 {t e : TypeId} {fuel : Nat} {v : Value} {x : DataW H × List MemPlace} {f0 f1 f2 f3 : Field} (ht : P.underlying t = some (.slice e)) (he : P.underlying e = some (.struct #[f0, f1, f2, f3])) (hone : oneCellFields P #[f0, f1, f2, f3] = true) (hC : P.cellsOf e = 4)
    (h0 : P.underlying f0.type = some (.int .i64)) (h1 : P.underlying f1.type = some (.int .i64)) (h2 : P.underlying f2.type = some (.int .i64)) (h3 : P.underlying f3.type = some (.int .i64)) (h : DataW.trod enc P w b0 spare held fuel t [v] = some x) :
    ∃ A c, ∃ xs : List T4, v = .slice A xs.length c ∧ Rd4 w w.heap.size A xs ∧ xs.length ≤ 9223372036854775807 ∧ ∀ y ∈ xs, y.Fits := by
  rcases open_slice ht h with ⟨hcs, _⟩ | ⟨a, l, c, m, n, D, Pl, hcs, _, hl, hm, hmm, _, hi⟩
  · simp at hcs; subst hcs
    exact ⟨none, 0, [], rfl, Rd.nil _ _ _, by simp, by simp⟩
  · simp at hcs; subst hcs
    have hll : l ≤ m := by rw [hmm]; split <;> omega
    unfold maxLen at hm
    obtain ⟨X, hX⟩ := choose_lt (α := T4) (n := l) (p := fun i y => (∀ j, j < 4 → w.cell? (a.add (i * 4 + j)) = y.cells[j]?) ∧ y.Fits) (fun i hil => by
      obtain ⟨cs', q1, q2⟩ := hi i (by omega)
      rw [hC] at q1
      obtain ⟨y, rfl, hy⟩ := rec_4 he hone hC h0 h1 h2 h3 q2
      obtain ⟨_, _, hat⟩ := World.cells?_some q1
      exact ⟨y, fun j hj => by rw [← Go.Deep.add_add]; exact hat j hj, hy⟩)
    refine ⟨some a, c, (List.range l).map X, by simp, rd_family T4.cells 4 (fun _ => rfl) (by omega) X l fun i hil j hj => (hX i hil).1 j hj, by simp; omega, fun y hy => ?_⟩
    obtain ⟨i, hi', rfl⟩ := List.mem_map.1 hy
    exact (hX i (List.mem_range.1 hi')).2
theorem open_S4 {r : Reach} {b1 : Nat} {t e : TypeId} {v : Value} {d : DataW H} {p : List MemPlace} {f0 f1 f2 f3 : Field} (ht : P.underlying t = some (.slice e)) (he : P.underlying e = some (.struct #[f0, f1, f2, f3])) (hone : oneCellFields P #[f0, f1, f2, f3] = true) (hC : P.cellsOf e = 4)
    (h0 : P.underlying f0.type = some (.int .i64)) (h1 : P.underlying f1.type = some (.int .i64)) (h2 : P.underlying f2.type = some (.int .i64)) (h3 : P.underlying f3.type = some (.int .i64)) (hval : Value.okWide P w r b1 t v) (h : DataW.Trod enc P w b0 spare held t v d p) :
    ∃ A c, ∃ xs : List T4, v = .slice A xs.length c ∧ Rd4 w w.heap.size A xs ∧ xs.length ≤ 9223372036854775807 ∧ ∀ y ∈ xs, y.Fits := by
  obtain ⟨a, l, c, rfl⟩ := okWide_slice ht hval
  obtain ⟨fuel, hf⟩ := h
  exact trod_S4 ht he hone hC h0 h1 h2 h3 (by simpa [Value.cells] using hf)
theorem open_V4 {r : Reach} {b1 : Nat} {e : TypeId} {v : Value} {d : DataW H} {p : List MemPlace} {f0 f1 f2 f3 : Field} (he : P.underlying e = some (.struct #[f0, f1, f2, f3])) (hone : oneCellFields P #[f0, f1, f2, f3] = true) (hC : P.cellsOf e = 4)
    (h0 : P.underlying f0.type = some (.int .i64)) (h1 : P.underlying f1.type = some (.int .i64)) (h2 : P.underlying f2.type = some (.int .i64)) (h3 : P.underlying f3.type = some (.int .i64)) (hval : Value.okWide P w r b1 e v) (h : DataW.Trod enc P w b0 spare held e v d p) : ∃ y : T4, v = .agg #[.int .i64 y.a, .int .i64 y.b, .int .i64 y.c, .int .i64 y.d] ∧ y.Fits := by
  obtain ⟨cs, rfl, hsz⟩ := okWide_struct he hval
  obtain ⟨fuel, hf⟩ := h
  obtain ⟨y, hy, hfit⟩ := rec_4 he hone hC h0 h1 h2 h3 hf
  refine ⟨y, ?_, hfit⟩
  simp only [Value.cells] at hy
  obtain ⟨l⟩ := cs
  simp only at hy
  subst hy; rfl
end
end Go.Proofs.YtofjnmeblmbnmaaDoor
namespace Go.Proofs.YtofjnmeblmbnmaaDoor
open Go.ChangeShapes Go.WideShapes Go.ChangeAt Go.RowKit Go.Deep

/-- From A on the cells hold bytes. -/
def RdB (w : World) (B : Nat) (A : Option Addr) (zs : List Int) : Prop := Rd w B A (zs.map (Value.int .u8))
section
variable {w w' : World} {B B' : Nat} {A : Option Addr} {zs : List Int}
theorem RdB.at_ (h : RdB w B A zs) {k : Nat} (hk : k < zs.length) : ∃ b o z, A = some ⟨b, o, none⟩ ∧ b < B ∧ zs[k]? = some z ∧ w.cell? ⟨b, o + k, none⟩ = some (.int .u8 z) := by
  obtain ⟨b, o, u, hA, hb, hu, hc⟩ := Rd.at_ (j := k) h (by simpa using hk)
  rw [List.getElem?_map, List.getElem?_eq_getElem hk] at hu
  simp at hu; subst hu
  exact ⟨b, o, zs[k], hA, hb, List.getElem?_eq_getElem hk, hc⟩
theorem RdB.below (h : RdB w B A zs) (hb : Below B w w') : RdB w' B A zs := Rd.below h hb
theorem RdB.more (h : RdB w B A zs) (hB : B ≤ B') : RdB w B' A zs := Rd.more h hB
end
theorem wf8 {z : Int} (h : (Lit.int .u8 z).wf = true) : 0 ≤ z ∧ z ≤ 255 := by
  simp [Lit.wf, IntKind.min, IntKind.max, IntKind.signed, IntKind.bits] at h
  exact ⟨by omega, by omega⟩
section
variable {H : Type} {enc : TypeId × Value → H} {P : Program} {w : World} {spare : Nat → Bool} {held : Bool} {b0 : Nat}
theorem trod_B {t e : TypeId} {fuel : Nat} {v : Value} {x : DataW H × List MemPlace} (ht : P.underlying t = some (.slice e)) (he : P.underlying e = some (.int .u8)) (hc : P.cellsOf e = 1)
    (h : DataW.trod enc P w b0 spare held fuel t [v] = some x) :
    ∃ A c, ∃ zs : List Int, v = .slice A zs.length c ∧ RdB w w.heap.size A zs ∧ zs.length ≤ 9223372036854775807 ∧ ∀ z ∈ zs, 0 ≤ z ∧ z ≤ 255 := by
  rcases open_ints ht he hc h with ⟨hcs, _⟩ | ⟨a, l, c, zs, hcs, _, hl, hm, hz, _, hcell, hwz⟩
  · simp at hcs; subst hcs
    exact ⟨none, 0, [], rfl, Rd.nil _ _ _, by simp, by simp⟩
  · simp at hcs; subst hcs
    have hll : l ≤ zs.length := by rw [hz]; split <;> omega
    unfold maxLen at hm
    refine ⟨some a, c, zs.take l, by simp [Nat.min_eq_left hll], ?_, by simp [Nat.min_eq_left hll]; omega, fun z hz' => wf8 (hwz z (List.mem_of_mem_take hz'))⟩
    refine rd_of_cells fun j hj => ?_
    simp only [List.length_map, List.length_take] at hj
    rw [hcell j (by omega)]
    simp [List.getD, show j < l by omega, show j < zs.length by omega]
theorem open_B {r : Reach} {b1 : Nat} {t e : TypeId} {v : Value} {d : DataW H} {p : List MemPlace} (ht : P.underlying t = some (.slice e)) (he : P.underlying e = some (.int .u8)) (hc : P.cellsOf e = 1)
    (hval : Value.okWide P w r b1 t v) (h : DataW.Trod enc P w b0 spare held t v d p) :
    ∃ A c, ∃ zs : List Int, v = .slice A zs.length c ∧ RdB w w.heap.size A zs ∧ zs.length ≤ 9223372036854775807 ∧ ∀ z ∈ zs, 0 ≤ z ∧ z ≤ 255 := by
  obtain ⟨a, l, c, rfl⟩ := okWide_slice ht hval
  obtain ⟨fuel, hf⟩ := h
  exact trod_B ht he hc (by simpa [Value.cells] using hf)
end
end Go.Proofs.YtofjnmeblmbnmaaDoor
namespace Go.Proofs.YtofjnmeblmbnmaaDoor
open Go.RowKit

/-- The source lies in block b: its code, where it stands (at most N), and its seed. -/
def SrcAt (b : Nat) (bs : List Int) (N : Int) (W : World) : Prop :=
  ∃ A c at_ sd, BoxN W b #[.slice A bs.length c, .int .i64 at_, .int .u64 sd] 118 ∧ (0 ≤ at_ ∧ at_ ≤ N) ∧ RdB W b A bs
/-- What all draws take for granted. -/
def BsOk (bs : List Int) : Prop := bs.length ≤ 4096 ∧ ∀ z ∈ bs, 0 ≤ z ∧ z ≤ 255
theorem SrcAt.below {b : Nat} {bs : List Int} {N : Int} {W W' : World} {B : Nat} (h : SrcAt b bs N W) (k : Below B W W') (hb : b < B) : SrcAt b bs N W' := by
  obtain ⟨A, c, at_, sd, X, h1, h2⟩ := h
  exact ⟨A, c, at_, sd, X.below k hb, h1, h2.below (k.mono (by omega))⟩
theorem SrcAt.lt {b : Nat} {bs : List Int} {N : Int} {W : World} (h : SrcAt b bs N W) : b < W.heap.size := by
  obtain ⟨A, c, at_, sd, X, _⟩ := h
  exact X.lt
theorem SrcAt.more {b : Nat} {bs : List Int} {N N' : Int} {W : World} (h : SrcAt b bs N W) (hN : N ≤ N') : SrcAt b bs N' W := by
  obtain ⟨A, c, at_, sd, X, h1, h2⟩ := h
  exact ⟨A, c, at_, sd, X, ⟨h1.1, by omega⟩, h2⟩
theorem only_setC {lo hi : Nat} (w : World) (a : Addr) (v : Value) (h : lo ≤ a.block ∧ a.block < hi) : Only lo hi w (w.setCell a v) :=
  ⟨rfl, rfl, rfl, by simp [World.setCell], fun k _ ho => Below.heap_setCell _ _ _ _ (by omega)⟩
theorem u64_range (n : Int) : 0 ≤ IntKind.u64.wrap n ∧ IntKind.u64.wrap n < 18446744073709551616 := by
  simp [IntKind.wrap, IntKind.bits, IntKind.signed]; omega
theorem u64_self (n : Int) (h0 : 0 ≤ n) (h1 : n < 2 ^ 64) : IntKind.u64.wrap n = n := by
  simp [IntKind.wrap, IntKind.bits, IntKind.signed]; omega
theorem next_val (s : Int) (h0 : 0 ≤ s) (h1 : s < 18446744073709551616) : 0 ≤ wrap64 (bits BinOp.and IntKind.u64 (s / 1099511627776) 255) ∧ wrap64 (bits BinOp.and IntKind.u64 (s / 1099511627776) 255) ≤ 255 := by
  have hm := bits_mask .u64 64 (by decide) u64_self 8 (by decide) (s / 1099511627776) (by omega) (by omega)
  have e : (2 : Int) ^ 8 - 1 = 255 := by decide
  rw [e] at hm
  rw [hm]
  unfold wrap64
  omega
set_option maxRecDepth 100000 in
set_option maxHeartbeats 4000000 in
theorem l00From_any (bs : List Int) (A : Option Addr) (c : Nat) (w : World) (hl : bs.length ≤ 4096) (h1 : RdB w w.heap.size A bs) :
    Calls Tryd.prog 54 #[.slice A bs.length c] w fun e w' => e = .returned (.pointer (some ⟨w.heap.size, 0, none⟩)) ∧ SrcAt w.heap.size bs 0 w' ∧ w'.heap.size = w.heap.size + 1 ∧ Below w.heap.size w w' := by
  have hb : Below w.heap.size w (w.alloc (.cells #[.slice A bs.length c, .int .i64 0, .int .u64 0] 118)) := (by repeat (first | exact Below.refl _ _ | assumption | (refine Below.alloc ?_ (by simp <;> omega) _) | refine Below.drew ?_ | refine bdn ?_ _))
  have hr := h1.below hb
  have X := BoxN.new w #[.slice A bs.length c, .int .i64 0, .int .u64 0] 118
  clear h1
  go_enter Tryd.func54, Tryd.ntmps54
  go_wp2_with fail
  go_ret
  exact ⟨rfl, ⟨A, c, 0, 0, X, ⟨by omega, by omega⟩, hr⟩, by simp, hb⟩
set_option maxRecDepth 100000 in
set_option maxHeartbeats 4000000 in
theorem next_any (b : Nat) (bs : List Int) (N : Int) (w : World) (hbs : BsOk bs) (hN : N ≤ 1099511627776) (h : SrcAt b bs N w) :
    Calls Tryd.prog 103 #[.pointer (some ⟨b, 0, none⟩)] w fun e w' => ∃ z, e = .returned (.int .i64 z) ∧ (0 ≤ z ∧ z ≤ 255) ∧ SrcAt b bs (N + 1) w' ∧ Only b (b + 1) w w' := by
  obtain ⟨A, c, at_, sd, X, ⟨h0, h1⟩, hr⟩ := h
  obtain ⟨n, rfl⟩ := Int.eq_ofNat_of_zero_le h0
  obtain ⟨hl, hb⟩ := hbs
  have hN2 := hN
  have k0 : w.cell? ⟨b, 0, none⟩ = some (.slice A bs.length c) := X.cell 0
  have k1 : w.cell? ⟨b, 1, none⟩ = some (.int .i64 n) := X.cell 1
  have X0 := hide X
  have HR := hide hr
  have HBD := hide hb
  clear X hr hb
  by_cases hlt : n < bs.length
  · obtain ⟨b1, o1, z, rfl, hb1, hz, hcz⟩ := HR.out.at_ hlt
    obtain ⟨hz0, hz1⟩ := HBD.out z (List.mem_of_getElem? hz)
    have hnl : (n : Int) < bs.length := by omega
    have hB1 : decide ((n : Int) < bs.length) = true := decide_eq_true hnl
    clear hz
    go_enter Tryd.func103, Tryd.ntmps103
    go_wp2_with fail
    go_quiet (fail)
    have X1 : Hid (BoxN (w.drewN nq) b #[.slice (some ⟨b1, o1, none⟩) bs.length c, .int .i64 n, .int .u64 sd] 118) := X0.out
    have hcz1 : (w.drewN nq).cell? ⟨b1, o1 + n, none⟩ = some (.int .u8 z) := hcz
    have k01 : (w.drewN nq).cell? ⟨b, 0, none⟩ = some (.slice (some ⟨b1, o1, none⟩) bs.length c) := k0
    have k11 : (w.drewN nq).cell? ⟨b, 1, none⟩ = some (.int .i64 n) := k1
    have o1' : Only b (b + 1) w (w.drewN nq) := only_of_below (bdn (Below.refl _ _) nq)
    clear k0 k1 hcz
    generalize w.drewN nq = wq at *
    go_wp2_with fail
    go_quiet (fail)
    have X2 : Hid (BoxN (wq.drewN nq) b #[.slice (some ⟨b1, o1, none⟩) bs.length c, .int .i64 n, .int .u64 sd] 118) := X1.out
    have o2' : Only b (b + 1) w (wq.drewN nq) := only_trans o1' (only_of_below (bdn (Below.refl _ _) nq))
    clear k01 k11 hcz1
    generalize wq.drewN nq = wp at *
    have k12 : wp.cell? ⟨b, 1, none⟩ = some (.int .i64 n) := X2.out.cell 1
    have f12 := X2.out.fro 1
    have X3 := hide (X2.out.set 1 (.int .i64 ((n : Int) + 1)))
    have k22 : (wp.setCell ⟨b, 1, none⟩ (.int .i64 ((n : Int) + 1))).cell? ⟨b, 2, none⟩ = some (.int .u64 sd) := X3.out.cell 2
    have f22 := X3.out.fro 2
    go_wp2_with fail
    generalize hE : IntKind.u64.wrap (IntKind.u64.wrap (IntKind.u64.wrap (sd * 6364136223846793005) + z) + 1442695040888963407) = s2 at *
    clear hE k12 f12 k22 f22
    have X4 := hide (X3.out.set 2 (.int .u64 s2))
    have o4 := only_trans o2' (only_trans (only_setC wp ⟨b, 1, none⟩ (.int .i64 ((n : Int) + 1)) ⟨Nat.le_refl b, Nat.lt_succ_self b⟩) (only_setC _ ⟨b, 2, none⟩ (.int .u64 s2) ⟨Nat.le_refl b, Nat.lt_succ_self b⟩))
    generalize (wp.setCell ⟨b, 1, none⟩ (.int .i64 ((n : Int) + 1))).setCell ⟨b, 2, none⟩ (.int .u64 s2) = w4 at *
    have k0 : w4.cell? ⟨b, 0, none⟩ = some (.slice (some ⟨b1, o1, none⟩) bs.length c) := X4.out.cell 0
    have k1 : w4.cell? ⟨b, 1, none⟩ = some (.int .i64 ((n : Int) + 1)) := X4.out.cell 1
    have hB2 : decide ((n : Int) + 1 ≤ bs.length) = true := decide_eq_true (by omega)
    go_quiet (fail)
    go_wp2_with fail
    go_ret
    exact ⟨z, rfl, ⟨hz0, hz1⟩, ⟨_, c, (n : Int) + 1, s2, X4.out, ⟨by omega, by omega⟩, HR.out.below ((o4.below (B := b) (Nat.le_refl _) (Nat.le_of_lt X0.out.lt)).trans (bdn (Below.refl _ _) nq))⟩, only_trans o4 (only_of_below (bdn (Below.refl _ _) nq))⟩
  · have hnl : (bs.length : Int) ≤ n := by omega
    have hB1 : decide ((n : Int) < bs.length) = false := decide_eq_false (by omega)
    go_enter Tryd.func103, Tryd.ntmps103
    go_wp2_with fail
    go_quiet (fail)
    have X2 : Hid (BoxN (w.drewN nq) b #[.slice A bs.length c, .int .i64 n, .int .u64 sd] 118) := X0.out
    have o2' : Only b (b + 1) w (w.drewN nq) := only_of_below (bdn (Below.refl _ _) nq)
    clear k0 k1
    generalize w.drewN nq = wp at *
    have k12 : wp.cell? ⟨b, 1, none⟩ = some (.int .i64 n) := X2.out.cell 1
    have f12 := X2.out.fro 1
    have X3 := hide (X2.out.set 1 (.int .i64 ((n : Int) + 1)))
    have k22 : (wp.setCell ⟨b, 1, none⟩ (.int .i64 ((n : Int) + 1))).cell? ⟨b, 2, none⟩ = some (.int .u64 sd) := X3.out.cell 2
    have f22 := X3.out.fro 2
    go_wp2_with fail
    generalize hE : IntKind.u64.wrap (IntKind.u64.wrap (IntKind.u64.wrap (sd * 6364136223846793005)) + 1442695040888963407) = s2 at *
    have HS2 := hide (hE ▸ u64_range (IntKind.u64.wrap (IntKind.u64.wrap (sd * 6364136223846793005)) + 1442695040888963407) : 0 ≤ s2 ∧ s2 < 18446744073709551616)
    clear hE k12 f12 k22 f22
    have X4 := hide (X3.out.set 2 (.int .u64 s2))
    have o4 := only_trans o2' (only_trans (only_setC wp ⟨b, 1, none⟩ (.int .i64 ((n : Int) + 1)) ⟨Nat.le_refl b, Nat.lt_succ_self b⟩) (only_setC _ ⟨b, 2, none⟩ (.int .u64 s2) ⟨Nat.le_refl b, Nat.lt_succ_self b⟩))
    generalize (wp.setCell ⟨b, 1, none⟩ (.int .i64 ((n : Int) + 1))).setCell ⟨b, 2, none⟩ (.int .u64 s2) = w4 at *
    have k0 : w4.cell? ⟨b, 0, none⟩ = some (.slice A bs.length c) := X4.out.cell 0
    have k1 : w4.cell? ⟨b, 1, none⟩ = some (.int .i64 ((n : Int) + 1)) := X4.out.cell 1
    have k2 : w4.cell? ⟨b, 2, none⟩ = some (.int .u64 s2) := X4.out.cell 2
    have hB2 : decide ((n : Int) + 1 ≤ bs.length) = false := decide_eq_false (by omega)
    go_quiet (fail)
    go_wp2_with fail
    have hv := next_val s2 HS2.out.1 HS2.out.2
    go_ret
    exact ⟨_, rfl, hv, ⟨_, c, (n : Int) + 1, s2, X4.out, ⟨by omega, by omega⟩, HR.out.below ((o4.below (B := b) (Nat.le_refl _) (Nat.le_of_lt X0.out.lt)).trans (bdn (Below.refl _ _) nq))⟩, only_trans o4 (only_of_below (bdn (Below.refl _ _) nq))⟩
end Go.Proofs.YtofjnmeblmbnmaaDoor
namespace Go.Proofs.YtofjnmeblmbnmaaDoor
open Go.RowKit

set_option maxRecDepth 100000 in
set_option maxHeartbeats 4000000 in
theorem pick_any (b : Nat) (bs : List Int) (N n : Int) (w : World) (hbs : BsOk bs) (hN : N ≤ 1099511000000) (h : SrcAt b bs N w) :
    Calls Tryd.prog 58 #[.pointer (some ⟨b, 0, none⟩), .int .i64 n] w fun e w' => ∃ z, e = .returned (.int .i64 z) ∧ (0 ≤ z ∧ (1 ≤ n → z < n) ∧ (n ≤ 1 → z = 0)) ∧ SrcAt b bs (N + 2) w' ∧ Only b (b + 1) w w' := by
  by_cases h1 : n ≤ 1
  · have HS := hide h
    clear h
    go_enter Tryd.func58, Tryd.ntmps58
    go_wp2_with fail
    go_ret
    exact ⟨0, rfl, ⟨by omega, by omega, fun _ => rfl⟩, HS.out.more (by omega), only_of_below (Below.refl _ _)⟩
  have HC := hide (next_any b bs N w hbs (by omega) h)
  clear h
  by_cases h2 : n ≤ 200
  · go_enter Tryd.func58, Tryd.ntmps58
    go_wp2_with (go_at_call 103; refine (HC.out).mono ?_; rintro e w1 ⟨z, rfl, ⟨hz0, hz1⟩, hs1, ho1⟩)
    have hm0 := Int.emod_nonneg z (show n ≠ 0 by omega)
    have hm1 := Int.emod_lt_of_pos z (show 0 < n by omega)
    go_ret
    exact ⟨z % n, rfl, ⟨hm0, fun _ => hm1, fun h => by omega⟩, hs1.more (by omega), ho1⟩
  · have HC2 := hide fun W (hW : SrcAt b bs (N + 1) W) => next_any b bs (N + 1) W hbs (by omega) hW
    go_enter Tryd.func58, Tryd.ntmps58
    go_wp2_with (go_at_call 103; refine (HC.out).mono ?_; rintro e w1 ⟨z, rfl, ⟨hz0, hz1⟩, hs1, ho1⟩)
    have HS1 := hide hs1
    clear hs1 HC
    go_wp2_with (go_at_call 103; refine (HC2.out _ HS1.out).mono ?_; rintro e w2 ⟨z2, rfl, ⟨hy0, hy1⟩, hs2, ho2⟩)
    have hm0 := Int.emod_nonneg (z * 256 + z2) (show n ≠ 0 by omega)
    have hm1 := Int.emod_lt_of_pos (z * 256 + z2) (show 0 < n by omega)
    go_ret
    exact ⟨(z * 256 + z2) % n, rfl, ⟨hm0, fun _ => hm1, fun h => by omega⟩, hs2.more (by omega), only_trans ho1 ho2⟩
end Go.Proofs.YtofjnmeblmbnmaaDoor
