/-
  The arguments of a law, opened into the words of the walks: slices of numbers and of records. Printed by gen_open.py. No program is named.
  The parameter 'code []byte' of a law: what it reads.
  Drawing numbers from bytes: what the source keeps, and the bounds of what it gives.
  Drawing a number below another one, and one of some numbers.
  The laws' helpers mark and held for lists whose elements hold a list of numbers, by contract.
  Runs: copies of their own, and a run delayed; in the program and in the reference.
-/
import Derived.Test.YtlkccijlbeibjaaQPlaces0
import Derived.ProofKit
import Derived.OpenShut
import Derived.Deep.Slices
import Derived.Deep.Fields
import Derived.ChangeOld
import Derived.Test.YtlkccijlbeibjaaQPlaces3
import Derived.Laws.BitsLemmas
import Derived.Test.YtlkccijlbeibjaaQPlaces6
import Derived.Test.YtlkccijlbeibjaaQPlaces2
import Derived.Deep.RegionHeld3
namespace Go.Proofs.Ytlkccijlbeibjaa
open Go.ChangeShapes Go.WideShapes Go.ChangeAt Go.RowKit Go.Deep

theorem wf64 {z : Int} (h : (Lit.int .i64 z).wf = true) : -9223372036854775808 ≤ z ∧ z ≤ 9223372036854775807 := by
  simp [Lit.wf, IntKind.min, IntKind.max, IntKind.signed, IntKind.bits] at h
  exact ⟨by omega, by omega⟩

section
variable {w : World}
theorem addr_of_cell {a : Addr} {u : Value} (h : w.cell? a = some u) : a = ⟨a.block, a.off, none⟩ := by
  obtain ⟨b, o, s⟩ := a
  have := World.cell?_spot h
  simp at this; subst this; rfl
theorem rd_of_cells {a : Addr} {xs : List Value} (h : ∀ j, j < xs.length → w.cell? (a.add j) = xs[j]?) : Rd w w.heap.size (some a) xs := fun hn => by
  have hl : 0 < xs.length := List.length_pos_iff.2 hn
  have h0 := h 0 hl
  rw [List.getElem?_eq_getElem hl] at h0
  have ha : a.add 0 = a := by simp [Addr.add]
  rw [ha] at h0
  have e := addr_of_cell h0
  have hlt := World.block_lt_of_cell? w _ h0
  refine ⟨a.block, a.off, by rw [← e], hlt, fun j u hu => ?_⟩
  have hj := (List.getElem?_eq_some_iff.1 hu).1
  have := h j hj
  rw [e, Addr.add_lit] at this
  rw [this, hu]
theorem rd_family {α : Type} (f : α → List Value) (s : Nat) (hs : ∀ x, (f x).length = s) (hs0 : 0 < s) (X : Nat → α) (len : Nat) {a : Addr} (h : ∀ i, i < len → ∀ j, j < s → w.cell? (a.add (i * s + j)) = (f (X i))[j]?) :
    Rd w w.heap.size (some a) (((List.range len).map X).flatMap f) := by
  refine rd_of_cells fun q hq => ?_
  rw [flatMap_len f s hs] at hq
  simp only [List.length_map, List.length_range] at hq
  have hk : q / s < len := by rw [Nat.div_lt_iff_lt_mul hs0]; exact hq
  have hm := Nat.mod_lt q hs0
  have e : q / s * s + q % s = q := by rw [Nat.mul_comm]; exact Nat.div_add_mod q s
  have h1 := h (q / s) hk (q % s) hm
  have h2 := flatMap_get f s hs ((List.range len).map X) (q / s) (q % s) (X (q / s)) (by simp [hk]) hm
  rw [e] at h1 h2
  rw [h1, h2]
end

section
variable {H : Type} {enc : TypeId × Value → H} {P : Program} {w : World} {spare : Nat → Bool} {held : Bool} {b0 : Nat}
theorem trod_I {t e : TypeId} {fuel : Nat} {v : Value} {x : DataW H × List MemPlace} (ht : P.underlying t = some (.slice e)) (he : P.underlying e = some (.int .i64)) (hc : P.cellsOf e = 1)
    (h : DataW.trod enc P w b0 spare held fuel t [v] = some x) :
    ∃ A c, ∃ zs : List Int, v = .slice A zs.length c ∧ RdI w w.heap.size A zs ∧ zs.length ≤ 9223372036854775807 ∧ ∀ z ∈ zs, -9223372036854775808 ≤ z ∧ z ≤ 9223372036854775807 := by
  rcases open_ints ht he hc h with ⟨hcs, _⟩ | ⟨a, l, c, zs, hcs, _, hl, hm, hz, _, hcell, hwz⟩
  · simp at hcs; subst hcs
    exact ⟨none, 0, [], rfl, Rd.nil _ _ _, by simp, by simp⟩
  · simp at hcs; subst hcs
    have hll : l ≤ zs.length := by rw [hz]; split <;> omega
    unfold maxLen at hm
    refine ⟨some a, c, zs.take l, by simp [Nat.min_eq_left hll], ?_, by simp [Nat.min_eq_left hll]; omega, fun z hz' => wf64 (hwz z (List.mem_of_mem_take hz'))⟩
    refine rd_of_cells fun j hj => ?_
    simp only [List.length_map, List.length_take] at hj
    rw [hcell j (by omega)]
    simp [List.getD, show j < l by omega, show j < zs.length by omega]
theorem open_I {r : Reach} {b1 : Nat} {t e : TypeId} {v : Value} {d : DataW H} {p : List MemPlace} (ht : P.underlying t = some (.slice e)) (he : P.underlying e = some (.int .i64)) (hc : P.cellsOf e = 1)
    (hval : Value.okWide P w r b1 t v) (h : DataW.Trod enc P w b0 spare held t v d p) :
    ∃ A c, ∃ zs : List Int, v = .slice A zs.length c ∧ RdI w w.heap.size A zs ∧ zs.length ≤ 9223372036854775807 ∧ ∀ z ∈ zs, -9223372036854775808 ≤ z ∧ z ≤ 9223372036854775807 := by
  obtain ⟨a, l, c, rfl⟩ := okWide_slice ht hval
  obtain ⟨fuel, hf⟩ := h
  exact trod_I ht he hc (by simpa [Value.cells] using hf)
theorem open_Z {r : Reach} {b1 : Nat} {t : TypeId} {v : Value} {d : DataW H} {p : List MemPlace} (ht : P.underlying t = some (.int .i64))
    (hval : Value.okWide P w r b1 t v) (h : DataW.Trod enc P w b0 spare held t v d p) : ∃ z, v = .int .i64 z ∧ -9223372036854775808 ≤ z ∧ z ≤ 9223372036854775807 := by
  obtain ⟨z, rfl, _, _, hw⟩ := open_int ht hval h
  exact ⟨z, rfl, wf64 hw⟩
instance : Inhabited T2 := ⟨⟨0, 0⟩⟩
theorem rec_2 {e : TypeId} {fuel : Nat} {cs : List Value} {x : DataW H × List MemPlace} {f0 f1 : Field} (he : P.underlying e = some (.struct #[f0, f1])) (hone : oneCellFields P #[f0, f1] = true) (hC : P.cellsOf e = 2)
    (h0 : P.underlying f0.type = some (.int .i64)) (h1 : P.underlying f1.type = some (.int .i64)) (h : DataW.trod enc P w b0 spare held fuel e cs = some x) : ∃ y : T2, cs = y.cells ∧ y.Fits := by
  obtain ⟨xs, m, _, _, hlen, hxl, hg⟩ := DataW.trod_struct he h
  rw [hC] at hlen
  match cs, hlen with
  | [v0, v1], _ =>
    match xs, hxl with
    | [y0, y1], _ =>
      obtain ⟨o0, k0⟩ := hone_of hone 0 f0 rfl
      have t0 := hg 0 f0 rfl
      rw [o0, k0] at t0
      obtain ⟨n0, e0, _, w0⟩ := DataW.trod_int h0 (x := y0) (by simpa using t0)
      simp at e0
      obtain ⟨o1, k1⟩ := hone_of hone 1 f1 rfl
      have t1 := hg 1 f1 rfl
      rw [o1, k1] at t1
      obtain ⟨n1, e1, _, w1⟩ := DataW.trod_int h1 (x := y1) (by simpa using t1)
      simp at e1
      subst e0 e1
      exact ⟨⟨n0, n1⟩, rfl, wf64 w0, wf64 w1⟩
theorem trod_S2 {t e : TypeId} {fuel : Nat} {v : Value} {x : DataW H × List MemPlace} {f0 f1 : Field} (ht : P.underlying t = some (.slice e)) (he : P.underlying e = some (.struct #[f0, f1])) (hone : oneCellFields P #[f0, f1] = true) (hC : P.cellsOf e = 2)
    (h0 : P.underlying f0.type = some (.int .i64)) (h1 : P.underlying f1.type = some (.int .i64)) (h : DataW.trod enc P w b0 spare held fuel t [v] = some x) :
    ∃ A c, ∃ xs : List T2, v = .slice A xs.length c ∧ Rd2 w w.heap.size A xs ∧ xs.length ≤ 9223372036854775807 ∧ ∀ y ∈ xs, y.Fits := by
  rcases open_slice ht h with ⟨hcs, _⟩ | ⟨a, l, c, m, n, D, Pl, hcs, _, hl, hm, hmm, _, hi⟩
  · simp at hcs; subst hcs
    exact ⟨none, 0, [], rfl, Rd.nil _ _ _, by simp, by simp⟩
  · simp at hcs; subst hcs
    have hll : l ≤ m := by rw [hmm]; split <;> omega
    unfold maxLen at hm
    obtain ⟨X, hX⟩ := choose_lt (α := T2) (n := l) (p := fun i y => (∀ j, j < 2 → w.cell? (a.add (i * 2 + j)) = y.cells[j]?) ∧ y.Fits) (fun i hil => by
      obtain ⟨cs', q1, q2⟩ := hi i (by omega)
      rw [hC] at q1
      obtain ⟨y, rfl, hy⟩ := rec_2 he hone hC h0 h1 q2
      obtain ⟨_, _, hat⟩ := World.cells?_some q1
      exact ⟨y, fun j hj => by rw [← Go.Deep.add_add]; exact hat j hj, hy⟩)
    refine ⟨some a, c, (List.range l).map X, by simp, rd_family T2.cells 2 (fun _ => rfl) (by omega) X l fun i hil j hj => (hX i hil).1 j hj, by simp; omega, fun y hy => ?_⟩
    obtain ⟨i, hi', rfl⟩ := List.mem_map.1 hy
    exact (hX i (List.mem_range.1 hi')).2
theorem open_S2 {r : Reach} {b1 : Nat} {t e : TypeId} {v : Value} {d : DataW H} {p : List MemPlace} {f0 f1 : Field} (ht : P.underlying t = some (.slice e)) (he : P.underlying e = some (.struct #[f0, f1])) (hone : oneCellFields P #[f0, f1] = true) (hC : P.cellsOf e = 2)
    (h0 : P.underlying f0.type = some (.int .i64)) (h1 : P.underlying f1.type = some (.int .i64)) (hval : Value.okWide P w r b1 t v) (h : DataW.Trod enc P w b0 spare held t v d p) :
    ∃ A c, ∃ xs : List T2, v = .slice A xs.length c ∧ Rd2 w w.heap.size A xs ∧ xs.length ≤ 9223372036854775807 ∧ ∀ y ∈ xs, y.Fits := by
  obtain ⟨a, l, c, rfl⟩ := okWide_slice ht hval
  obtain ⟨fuel, hf⟩ := h
  exact trod_S2 ht he hone hC h0 h1 (by simpa [Value.cells] using hf)
theorem open_V2 {r : Reach} {b1 : Nat} {e : TypeId} {v : Value} {d : DataW H} {p : List MemPlace} {f0 f1 : Field} (he : P.underlying e = some (.struct #[f0, f1])) (hone : oneCellFields P #[f0, f1] = true) (hC : P.cellsOf e = 2)
    (h0 : P.underlying f0.type = some (.int .i64)) (h1 : P.underlying f1.type = some (.int .i64)) (hval : Value.okWide P w r b1 e v) (h : DataW.Trod enc P w b0 spare held e v d p) : ∃ y : T2, v = .agg #[.int .i64 y.a, .int .i64 y.b] ∧ y.Fits := by
  obtain ⟨cs, rfl, hsz⟩ := okWide_struct he hval
  obtain ⟨fuel, hf⟩ := h
  obtain ⟨y, hy, hfit⟩ := rec_2 he hone hC h0 h1 hf
  refine ⟨y, ?_, hfit⟩
  simp only [Value.cells] at hy
  obtain ⟨l⟩ := cs
  simp only at hy
  subst hy; rfl
instance : Inhabited T3 := ⟨⟨0, 0, 0⟩⟩
theorem rec_3 {e : TypeId} {fuel : Nat} {cs : List Value} {x : DataW H × List MemPlace} {f0 f1 f2 : Field} (he : P.underlying e = some (.struct #[f0, f1, f2])) (hone : oneCellFields P #[f0, f1, f2] = true) (hC : P.cellsOf e = 3)
    (h0 : P.underlying f0.type = some (.int .i64)) (h1 : P.underlying f1.type = some (.int .i64)) (h2 : P.underlying f2.type = some (.int .i64)) (h : DataW.trod enc P w b0 spare held fuel e cs = some x) : ∃ y : T3, cs = y.cells ∧ y.Fits := by
  obtain ⟨xs, m, _, _, hlen, hxl, hg⟩ := DataW.trod_struct he h
  rw [hC] at hlen
  match cs, hlen with
  | [v0, v1, v2], _ =>
    match xs, hxl with
    | [y0, y1, y2], _ =>
      obtain ⟨o0, k0⟩ := hone_of hone 0 f0 rfl
      have t0 := hg 0 f0 rfl
      rw [o0, k0] at t0
      obtain ⟨n0, e0, _, w0⟩ := DataW.trod_int h0 (x := y0) (by simpa using t0)
      simp at e0
      obtain ⟨o1, k1⟩ := hone_of hone 1 f1 rfl
      have t1 := hg 1 f1 rfl
      rw [o1, k1] at t1
      obtain ⟨n1, e1, _, w1⟩ := DataW.trod_int h1 (x := y1) (by simpa using t1)
      simp at e1
      obtain ⟨o2, k2⟩ := hone_of hone 2 f2 rfl
      have t2 := hg 2 f2 rfl
      rw [o2, k2] at t2
      obtain ⟨n2, e2, _, w2⟩ := DataW.trod_int h2 (x := y2) (by simpa using t2)
      simp at e2
      subst e0 e1 e2
      exact ⟨⟨n0, n1, n2⟩, rfl, wf64 w0, wf64 w1, wf64 w2⟩
theorem trod_S3 {t e : TypeId} {fuel : Nat} {v : Value} {x : DataW H × List MemPlace} {f0 f1 f2 : Field} (ht : P.underlying t = some (.slice e)) (he : P.underlying e = some (.struct #[f0, f1, f2])) (hone : oneCellFields P #[f0, f1, f2] = true) (hC : P.cellsOf e = 3)
    (h0 : P.underlying f0.type = some (.int .i64)) (h1 : P.underlying f1.type = some (.int .i64)) (h2 : P.underlying f2.type = some (.int .i64)) (h : DataW.trod enc P w b0 spare held fuel t [v] = some x) :
    ∃ A c, ∃ xs : List T3, v = .slice A xs.length c ∧ Rd3 w w.heap.size A xs ∧ xs.length ≤ 9223372036854775807 ∧ ∀ y ∈ xs, y.Fits := by
  rcases open_slice ht h with ⟨hcs, _⟩ | ⟨a, l, c, m, n, D, Pl, hcs, _, hl, hm, hmm, _, hi⟩
  · simp at hcs; subst hcs
    exact ⟨none, 0, [], rfl, Rd.nil _ _ _, by simp, by simp⟩
  · simp at hcs; subst hcs
    have hll : l ≤ m := by rw [hmm]; split <;> omega
    unfold maxLen at hm
    obtain ⟨X, hX⟩ := choose_lt (α := T3) (n := l) (p := fun i y => (∀ j, j < 3 → w.cell? (a.add (i * 3 + j)) = y.cells[j]?) ∧ y.Fits) (fun i hil => by
      obtain ⟨cs', q1, q2⟩ := hi i (by omega)
      rw [hC] at q1
      obtain ⟨y, rfl, hy⟩ := rec_3 he hone hC h0 h1 h2 q2
      obtain ⟨_, _, hat⟩ := World.cells?_some q1
      exact ⟨y, fun j hj => by rw [← Go.Deep.add_add]; exact hat j hj, hy⟩)
    refine ⟨some a, c, (List.range l).map X, by simp, rd_family T3.cells 3 (fun _ => rfl) (by omega) X l fun i hil j hj => (hX i hil).1 j hj, by simp; omega, fun y hy => ?_⟩
    obtain ⟨i, hi', rfl⟩ := List.mem_map.1 hy
    exact (hX i (List.mem_range.1 hi')).2
theorem open_S3 {r : Reach} {b1 : Nat} {t e : TypeId} {v : Value} {d : DataW H} {p : List MemPlace} {f0 f1 f2 : Field} (ht : P.underlying t = some (.slice e)) (he : P.underlying e = some (.struct #[f0, f1, f2])) (hone : oneCellFields P #[f0, f1, f2] = true) (hC : P.cellsOf e = 3)
    (h0 : P.underlying f0.type = some (.int .i64)) (h1 : P.underlying f1.type = some (.int .i64)) (h2 : P.underlying f2.type = some (.int .i64)) (hval : Value.okWide P w r b1 t v) (h : DataW.Trod enc P w b0 spare held t v d p) :
    ∃ A c, ∃ xs : List T3, v = .slice A xs.length c ∧ Rd3 w w.heap.size A xs ∧ xs.length ≤ 9223372036854775807 ∧ ∀ y ∈ xs, y.Fits := by
  obtain ⟨a, l, c, rfl⟩ := okWide_slice ht hval
  obtain ⟨fuel, hf⟩ := h
  exact trod_S3 ht he hone hC h0 h1 h2 (by simpa [Value.cells] using hf)
theorem open_V3 {r : Reach} {b1 : Nat} {e : TypeId} {v : Value} {d : DataW H} {p : List MemPlace} {f0 f1 f2 : Field} (he : P.underlying e = some (.struct #[f0, f1, f2])) (hone : oneCellFields P #[f0, f1, f2] = true) (hC : P.cellsOf e = 3)
    (h0 : P.underlying f0.type = some (.int .i64)) (h1 : P.underlying f1.type = some (.int .i64)) (h2 : P.underlying f2.type = some (.int .i64)) (hval : Value.okWide P w r b1 e v) (h : DataW.Trod enc P w b0 spare held e v d p) : ∃ y : T3, v = .agg #[.int .i64 y.a, .int .i64 y.b, .int .i64 y.c] ∧ y.Fits := by
  obtain ⟨cs, rfl, hsz⟩ := okWide_struct he hval
  obtain ⟨fuel, hf⟩ := h
  obtain ⟨y, hy, hfit⟩ := rec_3 he hone hC h0 h1 h2 hf
  refine ⟨y, ?_, hfit⟩
  simp only [Value.cells] at hy
  obtain ⟨l⟩ := cs
  simp only at hy
  subst hy; rfl
instance : Inhabited T4 := ⟨⟨0, 0, 0, 0⟩⟩
theorem rec_4 {e : TypeId} {fuel : Nat} {cs : List Value} {x : DataW H × List MemPlace} {f0 f1 f2 f3 : Field} (he : P.underlying e = some (.struct #[f0, f1, f2, f3])) (hone : oneCellFields P #[f0, f1, f2, f3] = true) (hC : P.cellsOf e = 4)
    (h0 : P.underlying f0.type = some (.int .i64)) (h1 : P.underlying f1.type = some (.int .i64)) (h2 : P.underlying f2.type = some (.int .i64)) (h3 : P.underlying f3.type = some (.int .i64)) (h : DataW.trod enc P w b0 spare held fuel e cs = some x) : ∃ y : T4, cs = y.cells ∧ y.Fits := by
  obtain ⟨xs, m, _, _, hlen, hxl, hg⟩ := DataW.trod_struct he h
  rw [hC] at hlen
  match cs, hlen with
  | [v0, v1, v2, v3], _ =>
    match xs, hxl with
    | [y0, y1, y2, y3], _ =>
      obtain ⟨o0, k0⟩ := hone_of hone 0 f0 rfl
      have t0 := hg 0 f0 rfl
      rw [o0, k0] at t0
      obtain ⟨n0, e0, _, w0⟩ := DataW.trod_int h0 (x := y0) (by simpa using t0)
      simp at e0
      obtain ⟨o1, k1⟩ := hone_of hone 1 f1 rfl
      have t1 := hg 1 f1 rfl
      rw [o1, k1] at t1
      obtain ⟨n1, e1, _, w1⟩ := DataW.trod_int h1 (x := y1) (by simpa using t1)
      simp at e1
      obtain ⟨o2, k2⟩ := hone_of hone 2 f2 rfl
      have t2 := hg 2 f2 rfl
      rw [o2, k2] at t2
      obtain ⟨n2, e2, _, w2⟩ := DataW.trod_int h2 (x := y2) (by simpa using t2)
      simp at e2
      obtain ⟨o3, k3⟩ := hone_of hone 3 f3 rfl
      have t3 := hg 3 f3 rfl
      rw [o3, k3] at t3
      obtain ⟨n3, e3, _, w3⟩ := DataW.trod_int h3 (x := y3) (by simpa using t3)
      simp at e3
      subst e0 e1 e2 e3
      exact ⟨⟨n0, n1, n2, n3⟩, rfl, wf64 w0, wf64 w1, wf64 w2, wf64 w3⟩
theorem trod_S4 {t e : TypeId} {fuel : Nat} {v : Value} {x : DataW H × List MemPlace} {f0 f1 f2 f3 : Field} (ht : P.underlying t = some (.slice e)) (he : P.underlying e = some (.struct #[f0, f1, f2, f3])) (hone : oneCellFields P #[f0, f1, f2, f3] = true) (hC : P.cellsOf e = 4)
    (h0 : P.underlying f0.type = some (.int .i64)) (h1 : P.underlying f1.type = some (.int .i64)) (h2 : P.underlying f2.type = some (.int .i64)) (h3 : P.underlying f3.type = some (.int .i64)) (h : DataW.trod enc P w b0 spare held fuel t [v] = some x) :
    ∃ A c, ∃ xs : List T4, v = .slice A xs.length c ∧ Rd4 w w.heap.size A xs ∧ xs.length ≤ 9223372036854775807 ∧ ∀ y ∈ xs, y.Fits := by
  rcases open_slice ht h with ⟨hcs, _⟩ | ⟨a, l, c, m, n, D, Pl, hcs, _, hl, hm, hmm, _, hi⟩
  · simp at hcs; subst hcs
    exact ⟨none, 0, [], rfl, Rd.nil _ _ _, by simp, by simp⟩
  · simp at hcs; subst hcs
    have hll : l ≤ m := by rw [hmm]; split <;> omega
    unfold maxLen at hm
    obtain ⟨X, hX⟩ := choose_lt (α := T4) (n := l) (p := fun i y => (∀ j, j < 4 → w.cell? (a.add (i * 4 + j)) = y.cells[j]?) ∧ y.Fits) (fun i hil => by
      obtain ⟨cs', q1, q2⟩ := hi i (by omega)
      rw [hC] at q1
      obtain ⟨y, rfl, hy⟩ := rec_4 he hone hC h0 h1 h2 h3 q2
      obtain ⟨_, _, hat⟩ := World.cells?_some q1
      exact ⟨y, fun j hj => by rw [← Go.Deep.add_add]; exact hat j hj, hy⟩)
    refine ⟨some a, c, (List.range l).map X, by simp, rd_family T4.cells 4 (fun _ => rfl) (by omega) X l fun i hil j hj => (hX i hil).1 j hj, by simp; omega, fun y hy => ?_⟩
    obtain ⟨i, hi', rfl⟩ := List.mem_map.1 hy
    exact (hX i (List.mem_range.1 hi')).2
theorem open_S4 {r : Reach} {b1 : Nat} {t e : TypeId} {v : Value} {d : DataW H} {p : List MemPlace} {f0 f1 f2 f3 : Field} (ht : P.underlying t = some (.slice e)) (he : P.underlying e = some (.struct #[f0, f1, f2, f3])) (hone : oneCellFields P #[f0, f1, f2, f3] = true) (hC : P.cellsOf e = 4)
    (h0 : P.underlying f0.type = some (.int .i64)) (h1 : P.underlying f1.type = some (.int .i64)) (h2 : P.underlying f2.type = some (.int .i64)) (h3 : P.underlying f3.type = some (.int .i64)) (hval : Value.okWide P w r b1 t v) (h : DataW.Trod enc P w b0 spare held t v d p) :
    ∃ A c, ∃ xs : List T4, v = .slice A xs.length c ∧ Rd4 w w.heap.size A xs ∧ xs.length ≤ 9223372036854775807 ∧ ∀ y ∈ xs, y.Fits := by
  obtain ⟨a, l, c, rfl⟩ := okWide_slice ht hval
  obtain ⟨fuel, hf⟩ := h
  exact trod_S4 ht he hone hC h0 h1 h2 h3 (by simpa [Value.cells] using hf)
theorem open_V4 {r : Reach} {b1 : Nat} {e : TypeId} {v : Value} {d : DataW H} {p : List MemPlace} {f0 f1 f2 f3 : Field} (he : P.underlying e = some (.struct #[f0, f1, f2, f3])) (hone : oneCellFields P #[f0, f1, f2, f3] = true) (hC : P.cellsOf e = 4)
    (h0 : P.underlying f0.type = some (.int .i64)) (h1 : P.underlying f1.type = some (.int .i64)) (h2 : P.underlying f2.type = some (.int .i64)) (h3 : P.underlying f3.type = some (.int .i64)) (hval : Value.okWide P w r b1 e v) (h : DataW.Trod enc P w b0 spare held e v d p) : ∃ y : T4, v = .agg #[.int .i64 y.a, .int .i64 y.b, .int .i64 y.c, .int .i64 y.d] ∧ y.Fits := by
  obtain ⟨cs, rfl, hsz⟩ := okWide_struct he hval
  obtain ⟨fuel, hf⟩ := h
  obtain ⟨y, hy, hfit⟩ := rec_4 he hone hC h0 h1 h2 h3 hf
  refine ⟨y, ?_, hfit⟩
  simp only [Value.cells] at hy
  obtain ⟨l⟩ := cs
  simp only at hy
  subst hy; rfl
end
end Go.Proofs.Ytlkccijlbeibjaa
namespace Go.Proofs.Ytlkccijlbeibjaa
open Go.ChangeShapes Go.WideShapes Go.ChangeAt Go.RowKit Go.Deep

/-- From A on the cells hold bytes. -/
def RdB (w : World) (B : Nat) (A : Option Addr) (zs : List Int) : Prop := Rd w B A (zs.map (Value.int .u8))
section
variable {w w' : World} {B B' : Nat} {A : Option Addr} {zs : List Int}
theorem RdB.at_ (h : RdB w B A zs) {k : Nat} (hk : k < zs.length) : ∃ b o z, A = some ⟨b, o, none⟩ ∧ b < B ∧ zs[k]? = some z ∧ w.cell? ⟨b, o + k, none⟩ = some (.int .u8 z) := by
  obtain ⟨b, o, u, hA, hb, hu, hc⟩ := Rd.at_ (j := k) h (by simpa using hk)
  rw [List.getElem?_map, List.getElem?_eq_getElem hk] at hu
  simp at hu; subst hu
  exact ⟨b, o, zs[k], hA, hb, List.getElem?_eq_getElem hk, hc⟩
theorem RdB.below (h : RdB w B A zs) (hb : Below B w w') : RdB w' B A zs := Rd.below h hb
theorem RdB.more (h : RdB w B A zs) (hB : B ≤ B') : RdB w B' A zs := Rd.more h hB
end
theorem wf8 {z : Int} (h : (Lit.int .u8 z).wf = true) : 0 ≤ z ∧ z ≤ 255 := by
  simp [Lit.wf, IntKind.min, IntKind.max, IntKind.signed, IntKind.bits] at h
  exact ⟨by omega, by omega⟩
section
variable {H : Type} {enc : TypeId × Value → H} {P : Program} {w : World} {spare : Nat → Bool} {held : Bool} {b0 : Nat}
theorem trod_B {t e : TypeId} {fuel : Nat} {v : Value} {x : DataW H × List MemPlace} (ht : P.underlying t = some (.slice e)) (he : P.underlying e = some (.int .u8)) (hc : P.cellsOf e = 1)
    (h : DataW.trod enc P w b0 spare held fuel t [v] = some x) :
    ∃ A c, ∃ zs : List Int, v = .slice A zs.length c ∧ RdB w w.heap.size A zs ∧ zs.length ≤ 9223372036854775807 ∧ ∀ z ∈ zs, 0 ≤ z ∧ z ≤ 255 := by
  rcases open_ints ht he hc h with ⟨hcs, _⟩ | ⟨a, l, c, zs, hcs, _, hl, hm, hz, _, hcell, hwz⟩
  · simp at hcs; subst hcs
    exact ⟨none, 0, [], rfl, Rd.nil _ _ _, by simp, by simp⟩
  · simp at hcs; subst hcs
    have hll : l ≤ zs.length := by rw [hz]; split <;> omega
    unfold maxLen at hm
    refine ⟨some a, c, zs.take l, by simp [Nat.min_eq_left hll], ?_, by simp [Nat.min_eq_left hll]; omega, fun z hz' => wf8 (hwz z (List.mem_of_mem_take hz'))⟩
    refine rd_of_cells fun j hj => ?_
    simp only [List.length_map, List.length_take] at hj
    rw [hcell j (by omega)]
    simp [List.getD, show j < l by omega, show j < zs.length by omega]
theorem open_B {r : Reach} {b1 : Nat} {t e : TypeId} {v : Value} {d : DataW H} {p : List MemPlace} (ht : P.underlying t = some (.slice e)) (he : P.underlying e = some (.int .u8)) (hc : P.cellsOf e = 1)
    (hval : Value.okWide P w r b1 t v) (h : DataW.Trod enc P w b0 spare held t v d p) :
    ∃ A c, ∃ zs : List Int, v = .slice A zs.length c ∧ RdB w w.heap.size A zs ∧ zs.length ≤ 9223372036854775807 ∧ ∀ z ∈ zs, 0 ≤ z ∧ z ≤ 255 := by
  obtain ⟨a, l, c, rfl⟩ := okWide_slice ht hval
  obtain ⟨fuel, hf⟩ := h
  exact trod_B ht he hc (by simpa [Value.cells] using hf)
end
end Go.Proofs.Ytlkccijlbeibjaa
namespace Go.Proofs.Ytlkccijlbeibjaa
open Go.RowKit

/-- The source lies in block b: its code, where it stands (at most N), and its seed. -/
def SrcAt (b : Nat) (bs : List Int) (N : Int) (W : World) : Prop :=
  ∃ A c at_ sd, BoxN W b #[.slice A bs.length c, .int .i64 at_, .int .u64 sd] 164 ∧ (0 ≤ at_ ∧ at_ ≤ N) ∧ RdB W b A bs
/-- What all draws take for granted. -/
def BsOk (bs : List Int) : Prop := bs.length ≤ 4096 ∧ ∀ z ∈ bs, 0 ≤ z ∧ z ≤ 255
theorem SrcAt.below {b : Nat} {bs : List Int} {N : Int} {W W' : World} {B : Nat} (h : SrcAt b bs N W) (k : Below B W W') (hb : b < B) : SrcAt b bs N W' := by
  obtain ⟨A, c, at_, sd, X, h1, h2⟩ := h
  exact ⟨A, c, at_, sd, X.below k hb, h1, h2.below (k.mono (by omega))⟩
theorem SrcAt.lt {b : Nat} {bs : List Int} {N : Int} {W : World} (h : SrcAt b bs N W) : b < W.heap.size := by
  obtain ⟨A, c, at_, sd, X, _⟩ := h
  exact X.lt
theorem SrcAt.more {b : Nat} {bs : List Int} {N N' : Int} {W : World} (h : SrcAt b bs N W) (hN : N ≤ N') : SrcAt b bs N' W := by
  obtain ⟨A, c, at_, sd, X, h1, h2⟩ := h
  exact ⟨A, c, at_, sd, X, ⟨h1.1, by omega⟩, h2⟩
theorem only_setC {lo hi : Nat} (w : World) (a : Addr) (v : Value) (h : lo ≤ a.block ∧ a.block < hi) : Only lo hi w (w.setCell a v) :=
  ⟨rfl, rfl, rfl, by simp [World.setCell], fun k _ ho => Below.heap_setCell _ _ _ _ (by omega)⟩
theorem u64_range (n : Int) : 0 ≤ IntKind.u64.wrap n ∧ IntKind.u64.wrap n < 18446744073709551616 := by
  simp [IntKind.wrap, IntKind.bits, IntKind.signed]; omega
theorem u64_self (n : Int) (h0 : 0 ≤ n) (h1 : n < 2 ^ 64) : IntKind.u64.wrap n = n := by
  simp [IntKind.wrap, IntKind.bits, IntKind.signed]; omega
theorem next_val (s : Int) (h0 : 0 ≤ s) (h1 : s < 18446744073709551616) : 0 ≤ wrap64 (bits BinOp.and IntKind.u64 (s / 1099511627776) 255) ∧ wrap64 (bits BinOp.and IntKind.u64 (s / 1099511627776) 255) ≤ 255 := by
  have hm := bits_mask .u64 64 (by decide) u64_self 8 (by decide) (s / 1099511627776) (by omega) (by omega)
  have e : (2 : Int) ^ 8 - 1 = 255 := by decide
  rw [e] at hm
  rw [hm]
  unfold wrap64
  omega
set_option maxRecDepth 100000 in
set_option maxHeartbeats 4000000 in
theorem l00From_any (bs : List Int) (A : Option Addr) (c : Nat) (w : World) (hl : bs.length ≤ 4096) (h1 : RdB w w.heap.size A bs) :
    Calls Try.prog 81 #[.slice A bs.length c] w fun e w' => e = .returned (.pointer (some ⟨w.heap.size, 0, none⟩)) ∧ SrcAt w.heap.size bs 0 w' ∧ w'.heap.size = w.heap.size + 1 ∧ Below w.heap.size w w' := by
  have hb : Below w.heap.size w (w.alloc (.cells #[.slice A bs.length c, .int .i64 0, .int .u64 0] 164)) := (by repeat (first | exact Below.refl _ _ | assumption | (refine Below.alloc ?_ (by simp <;> omega) _) | refine Below.drew ?_ | refine bdn ?_ _))
  have hr := h1.below hb
  have X := BoxN.new w #[.slice A bs.length c, .int .i64 0, .int .u64 0] 164
  clear h1
  go_enter Try.func81, Try.ntmps81
  go_wp2_with fail
  go_ret
  exact ⟨rfl, ⟨A, c, 0, 0, X, ⟨by omega, by omega⟩, hr⟩, by simp, hb⟩
set_option maxRecDepth 100000 in
set_option maxHeartbeats 4000000 in
theorem next_any (b : Nat) (bs : List Int) (N : Int) (w : World) (hbs : BsOk bs) (hN : N ≤ 1099511627776) (h : SrcAt b bs N w) :
    Calls Try.prog 149 #[.pointer (some ⟨b, 0, none⟩)] w fun e w' => ∃ z, e = .returned (.int .i64 z) ∧ (0 ≤ z ∧ z ≤ 255) ∧ SrcAt b bs (N + 1) w' ∧ Only b (b + 1) w w' := by
  obtain ⟨A, c, at_, sd, X, ⟨h0, h1⟩, hr⟩ := h
  obtain ⟨n, rfl⟩ := Int.eq_ofNat_of_zero_le h0
  obtain ⟨hl, hb⟩ := hbs
  have hN2 := hN
  have k0 : w.cell? ⟨b, 0, none⟩ = some (.slice A bs.length c) := X.cell 0
  have k1 : w.cell? ⟨b, 1, none⟩ = some (.int .i64 n) := X.cell 1
  have X0 := hide X
  have HR := hide hr
  have HBD := hide hb
  clear X hr hb
  by_cases hlt : n < bs.length
  · obtain ⟨b1, o1, z, rfl, hb1, hz, hcz⟩ := HR.out.at_ hlt
    obtain ⟨hz0, hz1⟩ := HBD.out z (List.mem_of_getElem? hz)
    have hnl : (n : Int) < bs.length := by omega
    have hB1 : decide ((n : Int) < bs.length) = true := decide_eq_true hnl
    clear hz
    go_enter Try.func149, Try.ntmps149
    go_wp2_with fail
    go_quiet (fail)
    have X1 : Hid (BoxN (w.drewN nq) b #[.slice (some ⟨b1, o1, none⟩) bs.length c, .int .i64 n, .int .u64 sd] 164) := X0.out
    have hcz1 : (w.drewN nq).cell? ⟨b1, o1 + n, none⟩ = some (.int .u8 z) := hcz
    have k01 : (w.drewN nq).cell? ⟨b, 0, none⟩ = some (.slice (some ⟨b1, o1, none⟩) bs.length c) := k0
    have k11 : (w.drewN nq).cell? ⟨b, 1, none⟩ = some (.int .i64 n) := k1
    have o1' : Only b (b + 1) w (w.drewN nq) := only_of_below (bdn (Below.refl _ _) nq)
    clear k0 k1 hcz
    generalize w.drewN nq = wq at *
    go_wp2_with fail
    go_quiet (fail)
    have X2 : Hid (BoxN (wq.drewN nq) b #[.slice (some ⟨b1, o1, none⟩) bs.length c, .int .i64 n, .int .u64 sd] 164) := X1.out
    have o2' : Only b (b + 1) w (wq.drewN nq) := only_trans o1' (only_of_below (bdn (Below.refl _ _) nq))
    clear k01 k11 hcz1
    generalize wq.drewN nq = wp at *
    have k12 : wp.cell? ⟨b, 1, none⟩ = some (.int .i64 n) := X2.out.cell 1
    have f12 := X2.out.fro 1
    have X3 := hide (X2.out.set 1 (.int .i64 ((n : Int) + 1)))
    have k22 : (wp.setCell ⟨b, 1, none⟩ (.int .i64 ((n : Int) + 1))).cell? ⟨b, 2, none⟩ = some (.int .u64 sd) := X3.out.cell 2
    have f22 := X3.out.fro 2
    go_wp2_with fail
    generalize hE : IntKind.u64.wrap (IntKind.u64.wrap (IntKind.u64.wrap (sd * 6364136223846793005) + z) + 1442695040888963407) = s2 at *
    clear hE k12 f12 k22 f22
    have X4 := hide (X3.out.set 2 (.int .u64 s2))
    have o4 := only_trans o2' (only_trans (only_setC wp ⟨b, 1, none⟩ (.int .i64 ((n : Int) + 1)) ⟨Nat.le_refl b, Nat.lt_succ_self b⟩) (only_setC _ ⟨b, 2, none⟩ (.int .u64 s2) ⟨Nat.le_refl b, Nat.lt_succ_self b⟩))
    generalize (wp.setCell ⟨b, 1, none⟩ (.int .i64 ((n : Int) + 1))).setCell ⟨b, 2, none⟩ (.int .u64 s2) = w4 at *
    have k0 : w4.cell? ⟨b, 0, none⟩ = some (.slice (some ⟨b1, o1, none⟩) bs.length c) := X4.out.cell 0
    have k1 : w4.cell? ⟨b, 1, none⟩ = some (.int .i64 ((n : Int) + 1)) := X4.out.cell 1
    have hB2 : decide ((n : Int) + 1 ≤ bs.length) = true := decide_eq_true (by omega)
    go_quiet (fail)
    go_wp2_with fail
    go_ret
    exact ⟨z, rfl, ⟨hz0, hz1⟩, ⟨_, c, (n : Int) + 1, s2, X4.out, ⟨by omega, by omega⟩, HR.out.below ((o4.below (B := b) (Nat.le_refl _) (Nat.le_of_lt X0.out.lt)).trans (bdn (Below.refl _ _) nq))⟩, only_trans o4 (only_of_below (bdn (Below.refl _ _) nq))⟩
  · have hnl : (bs.length : Int) ≤ n := by omega
    have hB1 : decide ((n : Int) < bs.length) = false := decide_eq_false (by omega)
    go_enter Try.func149, Try.ntmps149
    go_wp2_with fail
    go_quiet (fail)
    have X2 : Hid (BoxN (w.drewN nq) b #[.slice A bs.length c, .int .i64 n, .int .u64 sd] 164) := X0.out
    have o2' : Only b (b + 1) w (w.drewN nq) := only_of_below (bdn (Below.refl _ _) nq)
    clear k0 k1
    generalize w.drewN nq = wp at *
    have k12 : wp.cell? ⟨b, 1, none⟩ = some (.int .i64 n) := X2.out.cell 1
    have f12 := X2.out.fro 1
    have X3 := hide (X2.out.set 1 (.int .i64 ((n : Int) + 1)))
    have k22 : (wp.setCell ⟨b, 1, none⟩ (.int .i64 ((n : Int) + 1))).cell? ⟨b, 2, none⟩ = some (.int .u64 sd) := X3.out.cell 2
    have f22 := X3.out.fro 2
    go_wp2_with fail
    generalize hE : IntKind.u64.wrap (IntKind.u64.wrap (IntKind.u64.wrap (sd * 6364136223846793005)) + 1442695040888963407) = s2 at *
    have HS2 := hide (hE ▸ u64_range (IntKind.u64.wrap (IntKind.u64.wrap (sd * 6364136223846793005)) + 1442695040888963407) : 0 ≤ s2 ∧ s2 < 18446744073709551616)
    clear hE k12 f12 k22 f22
    have X4 := hide (X3.out.set 2 (.int .u64 s2))
    have o4 := only_trans o2' (only_trans (only_setC wp ⟨b, 1, none⟩ (.int .i64 ((n : Int) + 1)) ⟨Nat.le_refl b, Nat.lt_succ_self b⟩) (only_setC _ ⟨b, 2, none⟩ (.int .u64 s2) ⟨Nat.le_refl b, Nat.lt_succ_self b⟩))
    generalize (wp.setCell ⟨b, 1, none⟩ (.int .i64 ((n : Int) + 1))).setCell ⟨b, 2, none⟩ (.int .u64 s2) = w4 at *
    have k0 : w4.cell? ⟨b, 0, none⟩ = some (.slice A bs.length c) := X4.out.cell 0
    have k1 : w4.cell? ⟨b, 1, none⟩ = some (.int .i64 ((n : Int) + 1)) := X4.out.cell 1
    have k2 : w4.cell? ⟨b, 2, none⟩ = some (.int .u64 s2) := X4.out.cell 2
    have hB2 : decide ((n : Int) + 1 ≤ bs.length) = false := decide_eq_false (by omega)
    go_quiet (fail)
    go_wp2_with fail
    have hv := next_val s2 HS2.out.1 HS2.out.2
    go_ret
    exact ⟨_, rfl, hv, ⟨_, c, (n : Int) + 1, s2, X4.out, ⟨by omega, by omega⟩, HR.out.below ((o4.below (B := b) (Nat.le_refl _) (Nat.le_of_lt X0.out.lt)).trans (bdn (Below.refl _ _) nq))⟩, only_trans o4 (only_of_below (bdn (Below.refl _ _) nq))⟩
end Go.Proofs.Ytlkccijlbeibjaa
namespace Go.Proofs.Ytlkccijlbeibjaa
open Go.RowKit

set_option maxRecDepth 100000 in
set_option maxHeartbeats 4000000 in
theorem pick_any (b : Nat) (bs : List Int) (N n : Int) (w : World) (hbs : BsOk bs) (hN : N ≤ 1099511000000) (h : SrcAt b bs N w) :
    Calls Try.prog 94 #[.pointer (some ⟨b, 0, none⟩), .int .i64 n] w fun e w' => ∃ z, e = .returned (.int .i64 z) ∧ (0 ≤ z ∧ (1 ≤ n → z < n) ∧ (n ≤ 1 → z = 0)) ∧ SrcAt b bs (N + 2) w' ∧ Only b (b + 1) w w' := by
  by_cases h1 : n ≤ 1
  · have HS := hide h
    clear h
    go_enter Try.func94, Try.ntmps94
    go_wp2_with fail
    go_ret
    exact ⟨0, rfl, ⟨by omega, by omega, fun _ => rfl⟩, HS.out.more (by omega), only_of_below (Below.refl _ _)⟩
  have HC := hide (next_any b bs N w hbs (by omega) h)
  clear h
  by_cases h2 : n ≤ 200
  · go_enter Try.func94, Try.ntmps94
    go_wp2_with (go_at_call 149; refine (HC.out).mono ?_; rintro e w1 ⟨z, rfl, ⟨hz0, hz1⟩, hs1, ho1⟩)
    have hm0 := Int.emod_nonneg z (show n ≠ 0 by omega)
    have hm1 := Int.emod_lt_of_pos z (show 0 < n by omega)
    go_ret
    exact ⟨z % n, rfl, ⟨hm0, fun _ => hm1, fun h => by omega⟩, hs1.more (by omega), ho1⟩
  · have HC2 := hide fun W (hW : SrcAt b bs (N + 1) W) => next_any b bs (N + 1) W hbs (by omega) hW
    go_enter Try.func94, Try.ntmps94
    go_wp2_with (go_at_call 149; refine (HC.out).mono ?_; rintro e w1 ⟨z, rfl, ⟨hz0, hz1⟩, hs1, ho1⟩)
    have HS1 := hide hs1
    clear hs1 HC
    go_wp2_with (go_at_call 149; refine (HC2.out _ HS1.out).mono ?_; rintro e w2 ⟨z2, rfl, ⟨hy0, hy1⟩, hs2, ho2⟩)
    have hm0 := Int.emod_nonneg (z * 256 + z2) (show n ≠ 0 by omega)
    have hm1 := Int.emod_lt_of_pos (z * 256 + z2) (show 0 < n by omega)
    go_ret
    exact ⟨(z * 256 + z2) % n, rfl, ⟨hm0, fun _ => hm1, fun h => by omega⟩, hs2.more (by omega), only_trans ho1 ho2⟩
end Go.Proofs.Ytlkccijlbeibjaa
namespace Go.Proofs.Ytlkccijlbeibjaa
open Go.RowKit

theorem own_only {w w' : World} {g a b n c s : Nat} {e : TypeId} {xs : List Value} (h : w.ownsRow g e s (.slice (some ⟨g, 0, none⟩) n c) n xs) (k : Only a b w w') (hd : b ≤ g ∨ g < a) : w'.ownsRow g e s (.slice (some ⟨g, 0, none⟩) n c) n xs := by
  refine ⟨h.1, ?_⟩
  rcases h.2 with h0 | ⟨g', cap, cur, he, hb, hg, rest⟩
  · exact .inl h0
  · simp only [Value.slice.injEq, Option.some.injEq, Addr.mk.injEq, and_true, true_and] at he
    obtain ⟨rfl, rfl⟩ := he
    exact .inr ⟨g, _, cur, rfl, hb, (k.2.2.2.2 g (lt_of_block hg) (by omega)).trans hg, rest⟩
theorem onv_block {e : TypeId} {s : Nat} {w : World} {lo hi n : Nat} {v : Value} {xs : List Value} (h : OwnV e s w lo hi v n xs) (hn : 0 < n) : ∃ g c, v = .slice (some ⟨g, 0, none⟩) n c ∧ lo ≤ g ∧ g < hi ∧ w.ownsRow g e s v n xs ∧ w.ownsRow lo e s v n xs := by
  obtain ⟨⟨A, c, rfl⟩, _, h0 | ⟨ho, hlt⟩⟩ := h
  · omega
  · rcases ho.2 with ⟨_, h0⟩ | ⟨g, cap, cur, he, hb, hg, rest⟩
    · omega
    · simp only [Value.slice.injEq, true_and] at he
      obtain ⟨rfl, rfl⟩ := he
      exact ⟨g, _, rfl, hb, hlt g rfl, ⟨ho.1, .inr ⟨g, _, cur, rfl, Nat.le_refl _, hg, rest⟩⟩, ho⟩
theorem set_mid {α : Type} {us vs : List α} {p q : α} {j : Nat} (h : us.length = j) : (us ++ p :: vs).set j q = (us ++ [q]) ++ vs := by
  rw [List.set_append_right _ _ (by omega), h, Nat.sub_self, List.set_cons_zero, List.append_assoc]; rfl
theorem get_mid {α : Type} {us vs : List α} {p : α} {j : Nat} (h : us.length = j) : (us ++ p :: vs)[j]? = some p := by
  rw [List.getElem?_append_right (by omega), h, Nat.sub_self]; rfl
theorem mark1 {L : List (Value × TN)} {k : Nat} {p : Value × TN} (h : L[k]? = some p) (way : List Int) (a : Int) : (L.flatMap (Nc 1)).set (k * 2 + 1) (.int .i64 a) = (L.set k (p.1, ⟨way, a, p.2.q⟩)).flatMap (Nc 1) :=
  flatMap_set (Nc 1) 2 (fun _ => rfl) L k 1 p (p.1, ⟨way, a, p.2.q⟩) (.int .i64 a) h (by omega) rfl
theorem mark2 {L : List (Value × TN)} {k : Nat} {p : Value × TN} (h : L[k]? = some p) (way : List Int) (a b : Int) : ((L.flatMap (Nc 2)).set (k * 3 + 1) (.int .i64 a)).set (k * 3 + 2) (.int .i64 b) = (L.set k (p.1, ⟨way, a, b⟩)).flatMap (Nc 2) := by
  have h1 := flatMap_set (Nc 2) 3 (fun _ => rfl) L k 1 p (p.1, ⟨way, a, p.2.q⟩) (.int .i64 a) h (by omega) rfl
  have h2 := flatMap_set (Nc 2) 3 (fun _ => rfl) (L.set k (p.1, ⟨way, a, p.2.q⟩)) k 2 (p.1, ⟨way, a, p.2.q⟩) (p.1, ⟨way, a, b⟩) (.int .i64 b) (List.getElem?_set_self (lt_of_get h)) (by omega) rfl
  rw [h1, h2, set_set_same]
theorem mark0 {L : List (Value × TN)} {k : Nat} {p : Value × TN} (h : L[k]? = some p) (z : TN) : L.flatMap (Nc 0) = (L.set k (p.1, z)).flatMap (Nc 0) := by
  have h1 := flatMap_set (Nc 0) 1 (fun _ => rfl) L k 0 p (p.1, z) p.1 h (by omega) rfl
  rw [Nat.add_zero, Nat.mul_one] at h1
  rw [← h1]
  have h2 := flatMap_get (Nc 0) 1 (fun _ => rfl) L k 0 p h (by omega)
  rw [Nat.add_zero, Nat.mul_one] at h2
  refine (List.ext_getElem? fun i => ?_)
  by_cases hi : i = k
  · subst hi; rw [List.getElem?_set_self (lt_of_get h2), h2]; rfl
  · rw [List.getElem?_set_ne (fun e => hi e.symm)]
theorem take_next {α : Type} {x : List α} {j : Nat} {e : α} (h : x[j]? = some e) : x.take (j + 1) = x.take j ++ [e] := by
  obtain ⟨hl, he⟩ := List.getElem?_eq_some_iff.1 h
  rw [List.take_succ_eq_append_getElem hl, he]
theorem mkN_next {m : Nat} {x : List TN} {j : Nat} {e : TN} (h : x[j]? = some e) (k : Int) : mkN m (x.take (j + 1)) k = mkN m (x.take j) k ++ [⟨mark_Int64S e.way (k + cntN m (x.take j)), if 1 ≤ m then k + cntN m (x.take j) + e.way.length else e.p, if 2 ≤ m then k + cntN m (x.take j) + e.way.length + 1 else e.q⟩] := by
  rw [take_next h, mkN_append, mkN, mkN]
theorem cntN_le {m : Nat} (hm : m ≤ 2) {x : List TN} (hs : SmallN x) (j : Nat) : 0 ≤ cntN m (x.take j) ∧ cntN m (x.take j) ≤ 4194304 := by
  have h1 := cntN_bd m hm x
  have h2 := cntN_bd m hm (x.take j)
  have h3 := cntN_bd m hm (x.drop j)
  have h4 := cntN_append m (x.take j) (x.drop j)
  rw [List.take_append_drop] at h4
  unfold SmallN at hs
  omega
end Go.Proofs.Ytlkccijlbeibjaa
namespace Go.Proofs.Ytlkccijlbeibjaa
open Go.RowKit

section
variable {P : Program}
theorem op_app {o : Oper} {a : Act} {K : Act → World → Prop} {Q : Exit → Act → World → Prop} (w : World) (s x : Operand) (t : TypeId)
    (ho : o.op = .call { callee := .builtin .append, args := #[s, x], argTypes := #[t, t] })
    (base : Nat) (e : TypeId) (i : TypeInfo) (z : Value) (size bytes : Nat) (ht : P.underlying t = some (.slice e)) (hi : P.info? e = some i) (hz : i.zero = some z)
    (hsize : i.size = size) (hby : i.bytes = bytes) (hzs : z.cells.size = size) (hsz : 0 < size)
    (v : Value) (n : Nat) (xs : List Value) (hs : a.eval s = v) (hown : w.ownsRow base e size v n xs)
    (B : Nat) (A : Option Addr) (m c : Nat) (news : List Value) (hx : a.eval x = .slice A m c) (hl : news.length = m * size) (hr : Rd w B A news) (h1 : ∀ u ∈ news, u.oneCell' = true)
    (hn : n + m ≤ 1099511627776) (hb : bytes ≤ 64) (hbase : base ≤ w.heap.size)
    (h : ∀ v' w', w'.ownsRow base e size v' (n + m) (xs ++ news) → w.grownBy w' v.ownBlock → (v'.ownBlock = v.ownBlock ∨ v'.ownBlock = some w.heap.size) → K (a.put o.dst v') w') :
    o.wp P a w K Q := by
  obtain ⟨v', w', hrun, h2, h3, h4⟩ := run_app (P := P) w base t o.type e i z size bytes ht hi hz hsize hby hzs hsz v n xs hown B A m c news hl hr h1 (by unfold maxLen; omega)
    (Nat.le_trans (Nat.mul_le_mul hn hb) (by omega)) hbase
  unfold Oper.wp execOp
  simp only [ho, resolve, invoke, builtin, Sem.run_bind, Sem.run_pure, Result.andThen_ok, List.map_toArray, List.map_cons, List.map_nil, hs, hx, hrun]
  exact h v' w' h2 h3 h4
end
theorem famO_grown {w w' : World} {v v' : Value} {lo : Nat} {ps : List (Value × TN)} {T : TypeId} {s n : Nat} {xs : List Value} (h : FamO w v.ownBlock lo w.heap.size ps) (ho : w.ownsRow lo T s v n xs) (hg : w.grownBy w' v.ownBlock) (hb : v'.ownBlock = v.ownBlock ∨ v'.ownBlock = some w.heap.size) : FamO w' v'.ownBlock lo w'.heap.size ps := by
  have key : ∀ {ps : List (Value × TN)} {lo' : Nat}, FamO w v.ownBlock lo' w.heap.size ps → FamO w' v'.ownBlock lo' w'.heap.size ps := by
    intro ps
    induction ps with
    | nil => intro lo' _; trivial
    | cons p ps ih =>
      intro lo' h
      obtain ⟨a, b, h1, h2, h3, h4, h5, h6⟩ := h
      refine ⟨a, b, h1, h2, Nat.le_trans h3 hg.size, fun g hgg => ?_, ?_, ih h6⟩
      · rcases hb with h | h
        · exact h4 g (by rw [← h]; exact hgg)
        · rw [h] at hgg; cases hgg; exact .inl h3
      · cases hv : v.ownBlock with
        | none =>
          rw [hv] at hg
          exact h5.below (B := w.heap.size) ⟨hg.os, hg.tape, hg.output, hg.size, fun k hk => hg.block k hk (by simp)⟩ h3
        | some g0 =>
          have hg0 := (ho.lt g0 hv).2
          rw [hv] at hg
          exact h5.kept (lo' := g0) (hi' := g0 + 1) ⟨hg.os, hg.tape, hg.output, hg.size, fun k hk ho' => hg.block k hk (by simp; omega)⟩ (by have := h4 g0 hv; omega)
  exact key h
set_option maxRecDepth 100000 in
set_option maxHeartbeats 1000000 in
theorem l00OwnN_any (xs : List Int) (A : Option Addr) (c : Nat) (w : World) (hx : xs.length ≤ 1048576) (h1 : RdI w w.heap.size A xs) :
    Calls Try.prog 136 #[.slice A xs.length c] w fun e w' => ∃ A' c', e = .returned (.slice A' xs.length c') ∧ w'.ownsRow w.heap.size 2 1 (.slice A' xs.length c') xs.length (xs.map (Value.int .i64)) ∧ Below w.heap.size w w' := by
  obtain ⟨i0, hi0, hz0, hs0, hb0⟩ := info_parts int64_info
  have HX := hide h1; clear h1
  go_enter Try.func136, Try.ntmps136
  have ho0 := own_new0 w w.heap.size 2 1 (Nat.le_refl _)
  have hb1 : Below w.heap.size w (w.alloc (.cells #[] 2)) := (Below.refl _ _).alloc (Nat.le_refl _) _
  have HR := hide (Rd.below HX.out hb1)
  go_wp2_with (at_builtin; go_must (refine wp_app _ rfl _ _ 22 rfl w.heap.size 2 i0 (.int .i64 0) 1 8 Try.underlying22 hi0 hz0 hs0 hb0 rfl (by decide) _ _ _ rfl ho0 _ _ xs.length c _ rfl (by simp) HR.out (ints_one _) (by omega) (by decide) (by simp) ?_); intro v' w1 hown' hgrow hat)
  go_ret
  simp only [Nat.zero_add, List.nil_append] at hown'
  obtain ⟨A', c', rfl, _⟩ := own_shape hown'
  exact ⟨A', c', rfl, hown', app_below hb1 ho0 hgrow (Nat.le_refl _) (by simp)⟩

def lateR (x : List TN) (k by_ : Int) : List TN := match x[k.toNat]? with | none => x | some e => x.set k.toNat ⟨e.way, e.p + by_, e.q⟩
def delayRun (ts : List Int) (x : List TN) (k by_ : Int) : List TN × Int :=
  if vRuns ts x = true then (if (0 ≤ k ∧ k ≤ (x.length : Int) - 1) ∧ (0 ≤ by_ ∧ by_ ≤ 100000) then (if ((x[k.toNat]?).map fun e => e.p + by_).getD 0 ≤ 100000 then (lateR x k by_, 0) else ([], 5)) else ([], 2)) else ([], 1)
theorem onl_set {T : TypeId} {w : World} {lo hi n g c i : Nat} {x : List TN} {e : TN} {a : Int} (h : ON T 1 w lo hi (.slice (some ⟨g, 0, none⟩) n c) x) (hi' : x[i]? = some e) (hg : lo ≤ g ∧ g < hi) : ON T 1 (w.setCell ⟨g, i * 2 + 1, none⟩ (.int .i64 a)) lo hi (.slice (some ⟨g, 0, none⟩) n c) (x.set i ⟨e.way, a, e.q⟩) := by
  obtain ⟨ps, hP, hO, hF, hS⟩ := h
  obtain ⟨p, hp, hp2⟩ : ∃ p, ps[i]? = some p ∧ p.2 = e := by
    rw [← hP, List.getElem?_map] at hi'
    cases hq : ps[i]? with
    | none => rw [hq] at hi'; cases hi'
    | some p => rw [hq] at hi'; exact ⟨p, rfl, Option.some.inj hi'⟩
  refine ⟨ps.set i (p.1, ⟨e.way, a, e.q⟩), ?_, ?_, ?_, ?_⟩
  · rw [List.map_set, hP]
  · have hm := mark1 hp e.way a
    rw [hp2] at hm
    rw [← hm]
    obtain ⟨h1, h2, h3⟩ := hO
    rw [List.length_set]
    refine ⟨h1, h2, ?_⟩
    rcases h3 with ⟨h0, hx⟩ | ⟨ho, hlt⟩
    · exact absurd (lt_of_get hi') (by omega)
    · obtain ⟨_, _, he⟩ := h1
      simp only [Value.slice.injEq] at he
      obtain ⟨_, rfl, _⟩ := he
      exact .inr ⟨(ho.stored (i * 2 + 1) (.int .i64 a)).1, hlt⟩
  · have hF2 := FamO.keptB (g := g) (onlyN_set (w := w) (b := g) (j := i * 2 + 1) (v := .int .i64 a) (lo := g) (hi := g + 1) (Nat.le_refl _) (by omega)) hF
    have key : ∀ {ps : List (Value × TN)} {lo i : Nat} {p : Value × TN}, FamO (w.setCell ⟨g, i * 2 + 1, none⟩ (.int .i64 a)) (some g) lo hi ps → True := fun _ => trivial
    clear key
    have key : ∀ (W : World) (ps : List (Value × TN)) (lo i : Nat) (p q : Value × TN), ps[i]? = some p → q.1 = p.1 → q.2.way = p.2.way → FamO W (some g) lo hi ps → FamO W (some g) lo hi (ps.set i q) := by
      intro W ps
      induction ps with
      | nil => intro lo i p q h; simp at h
      | cons p' ps ih =>
        intro lo i p q hq h1 h2 hF
        obtain ⟨a1, b1, k1, k2, k3, k4, k5, k6⟩ := hF
        cases i with
        | zero => simp at hq; subst hq; rw [List.set_cons_zero]; exact ⟨a1, b1, k1, k2, k3, k4, by rw [h1, h2]; exact k5, k6⟩
        | succ i => rw [List.set_cons_succ]; exact ⟨a1, b1, k1, k2, k3, k4, k5, ih _ i p q (by simpa using hq) h1 h2 k6⟩
    exact key _ ps lo i p _ hp rfl (by rw [hp2]) hF2
  · unfold SmallN at hS ⊢
    have hm : ((x.set i ⟨e.way, a, e.q⟩).map fun e => e.way.length) = x.map fun e => e.way.length := by
      rw [List.map_set]
      refine List.ext_getElem? fun j => ?_
      by_cases hj : j = i
      · subst hj
        rw [List.getElem?_set_self (by rw [List.length_map]; exact lt_of_get hi'), List.getElem?_map, hi']; rfl
      · rw [List.getElem?_set_ne (fun e => hj e.symm)]
    rw [hm, List.length_set]; exact hS
end Go.Proofs.Ytlkccijlbeibjaa
