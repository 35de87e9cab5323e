/-
  The arguments of a law, opened into the words of the walks: slices of numbers and of records. Printed by gen_open.py. No program is named.
  The parameter 'code []byte' of a law: what it reads.
  Distances of two words, and words, in both packages.
-/
import Derived.Test.YtaajkmjilcamgaaDoorQCodes50
import Derived.ProofKit
import Derived.OpenShut
import Derived.Deep.Slices
import Derived.Deep.Fields
import Derived.ChangeOld
import Derived.Test.YtaajkmjilcamgaaDoorQCodes51
import Derived.BigQuiet
import Derived.Deep.DeepCutAuto
namespace Go.Proofs.YtaajkmjilcamgaaDoor
open Go.ChangeShapes Go.WideShapes Go.ChangeAt Go.RowKit Go.Deep

theorem wf64 {z : Int} (h : (Lit.int .i64 z).wf = true) : -9223372036854775808 ≤ z ∧ z ≤ 9223372036854775807 := by
  simp [Lit.wf, IntKind.min, IntKind.max, IntKind.signed, IntKind.bits] at h
  exact ⟨by omega, by omega⟩

section
variable {w : World}
theorem addr_of_cell {a : Addr} {u : Value} (h : w.cell? a = some u) : a = ⟨a.block, a.off, none⟩ := by
  obtain ⟨b, o, s⟩ := a
  have := World.cell?_spot h
  simp at this; subst this; rfl
theorem rd_of_cells {a : Addr} {xs : List Value} (h : ∀ j, j < xs.length → w.cell? (a.add j) = xs[j]?) : Rd w w.heap.size (some a) xs := fun hn => by
  have hl : 0 < xs.length := List.length_pos_iff.2 hn
  have h0 := h 0 hl
  rw [List.getElem?_eq_getElem hl] at h0
  have ha : a.add 0 = a := by simp [Addr.add]
  rw [ha] at h0
  have e := addr_of_cell h0
  have hlt := World.block_lt_of_cell? w _ h0
  refine ⟨a.block, a.off, by rw [← e], hlt, fun j u hu => ?_⟩
  have hj := (List.getElem?_eq_some_iff.1 hu).1
  have := h j hj
  rw [e, Addr.add_lit] at this
  rw [this, hu]
theorem rd_family {α : Type} (f : α → List Value) (s : Nat) (hs : ∀ x, (f x).length = s) (hs0 : 0 < s) (X : Nat → α) (len : Nat) {a : Addr} (h : ∀ i, i < len → ∀ j, j < s → w.cell? (a.add (i * s + j)) = (f (X i))[j]?) :
    Rd w w.heap.size (some a) (((List.range len).map X).flatMap f) := by
  refine rd_of_cells fun q hq => ?_
  rw [flatMap_len f s hs] at hq
  simp only [List.length_map, List.length_range] at hq
  have hk : q / s < len := by rw [Nat.div_lt_iff_lt_mul hs0]; exact hq
  have hm := Nat.mod_lt q hs0
  have e : q / s * s + q % s = q := by rw [Nat.mul_comm]; exact Nat.div_add_mod q s
  have h1 := h (q / s) hk (q % s) hm
  have h2 := flatMap_get f s hs ((List.range len).map X) (q / s) (q % s) (X (q / s)) (by simp [hk]) hm
  rw [e] at h1 h2
  rw [h1, h2]
end

section
variable {H : Type} {enc : TypeId × Value → H} {P : Program} {w : World} {spare : Nat → Bool} {held : Bool} {b0 : Nat}
theorem trod_I {t e : TypeId} {fuel : Nat} {v : Value} {x : DataW H × List MemPlace} (ht : P.underlying t = some (.slice e)) (he : P.underlying e = some (.int .i64)) (hc : P.cellsOf e = 1)
    (h : DataW.trod enc P w b0 spare held fuel t [v] = some x) :
    ∃ A c, ∃ zs : List Int, v = .slice A zs.length c ∧ RdI w w.heap.size A zs ∧ zs.length ≤ 9223372036854775807 ∧ ∀ z ∈ zs, -9223372036854775808 ≤ z ∧ z ≤ 9223372036854775807 := by
  rcases open_ints ht he hc h with ⟨hcs, _⟩ | ⟨a, l, c, zs, hcs, _, hl, hm, hz, _, hcell, hwz⟩
  · simp at hcs; subst hcs
    exact ⟨none, 0, [], rfl, Rd.nil _ _ _, by simp, by simp⟩
  · simp at hcs; subst hcs
    have hll : l ≤ zs.length := by rw [hz]; split <;> omega
    unfold maxLen at hm
    refine ⟨some a, c, zs.take l, by simp [Nat.min_eq_left hll], ?_, by simp [Nat.min_eq_left hll]; omega, fun z hz' => wf64 (hwz z (List.mem_of_mem_take hz'))⟩
    refine rd_of_cells fun j hj => ?_
    simp only [List.length_map, List.length_take] at hj
    rw [hcell j (by omega)]
    simp [List.getD, show j < l by omega, show j < zs.length by omega]
theorem open_I {r : Reach} {b1 : Nat} {t e : TypeId} {v : Value} {d : DataW H} {p : List MemPlace} (ht : P.underlying t = some (.slice e)) (he : P.underlying e = some (.int .i64)) (hc : P.cellsOf e = 1)
    (hval : Value.okWide P w r b1 t v) (h : DataW.Trod enc P w b0 spare held t v d p) :
    ∃ A c, ∃ zs : List Int, v = .slice A zs.length c ∧ RdI w w.heap.size A zs ∧ zs.length ≤ 9223372036854775807 ∧ ∀ z ∈ zs, -9223372036854775808 ≤ z ∧ z ≤ 9223372036854775807 := by
  obtain ⟨a, l, c, rfl⟩ := okWide_slice ht hval
  obtain ⟨fuel, hf⟩ := h
  exact trod_I ht he hc (by simpa [Value.cells] using hf)
theorem open_Z {r : Reach} {b1 : Nat} {t : TypeId} {v : Value} {d : DataW H} {p : List MemPlace} (ht : P.underlying t = some (.int .i64))
    (hval : Value.okWide P w r b1 t v) (h : DataW.Trod enc P w b0 spare held t v d p) : ∃ z, v = .int .i64 z ∧ -9223372036854775808 ≤ z ∧ z ≤ 9223372036854775807 := by
  obtain ⟨z, rfl, _, _, hw⟩ := open_int ht hval h
  exact ⟨z, rfl, wf64 hw⟩
instance : Inhabited T2 := ⟨⟨0, 0⟩⟩
theorem rec_2 {e : TypeId} {fuel : Nat} {cs : List Value} {x : DataW H × List MemPlace} {f0 f1 : Field} (he : P.underlying e = some (.struct #[f0, f1])) (hone : oneCellFields P #[f0, f1] = true) (hC : P.cellsOf e = 2)
    (h0 : P.underlying f0.type = some (.int .i64)) (h1 : P.underlying f1.type = some (.int .i64)) (h : DataW.trod enc P w b0 spare held fuel e cs = some x) : ∃ y : T2, cs = y.cells ∧ y.Fits := by
  obtain ⟨xs, m, _, _, hlen, hxl, hg⟩ := DataW.trod_struct he h
  rw [hC] at hlen
  match cs, hlen with
  | [v0, v1], _ =>
    match xs, hxl with
    | [y0, y1], _ =>
      obtain ⟨o0, k0⟩ := hone_of hone 0 f0 rfl
      have t0 := hg 0 f0 rfl
      rw [o0, k0] at t0
      obtain ⟨n0, e0, _, w0⟩ := DataW.trod_int h0 (x := y0) (by simpa using t0)
      simp at e0
      obtain ⟨o1, k1⟩ := hone_of hone 1 f1 rfl
      have t1 := hg 1 f1 rfl
      rw [o1, k1] at t1
      obtain ⟨n1, e1, _, w1⟩ := DataW.trod_int h1 (x := y1) (by simpa using t1)
      simp at e1
      subst e0 e1
      exact ⟨⟨n0, n1⟩, rfl, wf64 w0, wf64 w1⟩
theorem trod_S2 {t e : TypeId} {fuel : Nat} {v : Value} {x : DataW H × List MemPlace} {f0 f1 : Field} (ht : P.underlying t = some (.slice e)) (he : P.underlying e = some (.struct #[f0, f1])) (hone : oneCellFields P #[f0, f1] = true) (hC : P.cellsOf e = 2)
    (h0 : P.underlying f0.type = some (.int .i64)) (h1 : P.underlying f1.type = some (.int .i64)) (h : DataW.trod enc P w b0 spare held fuel t [v] = some x) :
    ∃ A c, ∃ xs : List T2, v = .slice A xs.length c ∧ Rd2 w w.heap.size A xs ∧ xs.length ≤ 9223372036854775807 ∧ ∀ y ∈ xs, y.Fits := by
  rcases open_slice ht h with ⟨hcs, _⟩ | ⟨a, l, c, m, n, D, Pl, hcs, _, hl, hm, hmm, _, hi⟩
  · simp at hcs; subst hcs
    exact ⟨none, 0, [], rfl, Rd.nil _ _ _, by simp, by simp⟩
  · simp at hcs; subst hcs
    have hll : l ≤ m := by rw [hmm]; split <;> omega
    unfold maxLen at hm
    obtain ⟨X, hX⟩ := choose_lt (α := T2) (n := l) (p := fun i y => (∀ j, j < 2 → w.cell? (a.add (i * 2 + j)) = y.cells[j]?) ∧ y.Fits) (fun i hil => by
      obtain ⟨cs', q1, q2⟩ := hi i (by omega)
      rw [hC] at q1
      obtain ⟨y, rfl, hy⟩ := rec_2 he hone hC h0 h1 q2
      obtain ⟨_, _, hat⟩ := World.cells?_some q1
      exact ⟨y, fun j hj => by rw [← Go.Deep.add_add]; exact hat j hj, hy⟩)
    refine ⟨some a, c, (List.range l).map X, by simp, rd_family T2.cells 2 (fun _ => rfl) (by omega) X l fun i hil j hj => (hX i hil).1 j hj, by simp; omega, fun y hy => ?_⟩
    obtain ⟨i, hi', rfl⟩ := List.mem_map.1 hy
    exact (hX i (List.mem_range.1 hi')).2
theorem open_S2 {r : Reach} {b1 : Nat} {t e : TypeId} {v : Value} {d : DataW H} {p : List MemPlace} {f0 f1 : Field} (ht : P.underlying t = some (.slice e)) (he : P.underlying e = some (.struct #[f0, f1])) (hone : oneCellFields P #[f0, f1] = true) (hC : P.cellsOf e = 2)
    (h0 : P.underlying f0.type = some (.int .i64)) (h1 : P.underlying f1.type = some (.int .i64)) (hval : Value.okWide P w r b1 t v) (h : DataW.Trod enc P w b0 spare held t v d p) :
    ∃ A c, ∃ xs : List T2, v = .slice A xs.length c ∧ Rd2 w w.heap.size A xs ∧ xs.length ≤ 9223372036854775807 ∧ ∀ y ∈ xs, y.Fits := by
  obtain ⟨a, l, c, rfl⟩ := okWide_slice ht hval
  obtain ⟨fuel, hf⟩ := h
  exact trod_S2 ht he hone hC h0 h1 (by simpa [Value.cells] using hf)
theorem open_V2 {r : Reach} {b1 : Nat} {e : TypeId} {v : Value} {d : DataW H} {p : List MemPlace} {f0 f1 : Field} (he : P.underlying e = some (.struct #[f0, f1])) (hone : oneCellFields P #[f0, f1] = true) (hC : P.cellsOf e = 2)
    (h0 : P.underlying f0.type = some (.int .i64)) (h1 : P.underlying f1.type = some (.int .i64)) (hval : Value.okWide P w r b1 e v) (h : DataW.Trod enc P w b0 spare held e v d p) : ∃ y : T2, v = .agg #[.int .i64 y.a, .int .i64 y.b] ∧ y.Fits := by
  obtain ⟨cs, rfl, hsz⟩ := okWide_struct he hval
  obtain ⟨fuel, hf⟩ := h
  obtain ⟨y, hy, hfit⟩ := rec_2 he hone hC h0 h1 hf
  refine ⟨y, ?_, hfit⟩
  simp only [Value.cells] at hy
  obtain ⟨l⟩ := cs
  simp only at hy
  subst hy; rfl
instance : Inhabited T3 := ⟨⟨0, 0, 0⟩⟩
theorem rec_3 {e : TypeId} {fuel : Nat} {cs : List Value} {x : DataW H × List MemPlace} {f0 f1 f2 : Field} (he : P.underlying e = some (.struct #[f0, f1, f2])) (hone : oneCellFields P #[f0, f1, f2] = true) (hC : P.cellsOf e = 3)
    (h0 : P.underlying f0.type = some (.int .i64)) (h1 : P.underlying f1.type = some (.int .i64)) (h2 : P.underlying f2.type = some (.int .i64)) (h : DataW.trod enc P w b0 spare held fuel e cs = some x) : ∃ y : T3, cs = y.cells ∧ y.Fits := by
  obtain ⟨xs, m, _, _, hlen, hxl, hg⟩ := DataW.trod_struct he h
  rw [hC] at hlen
  match cs, hlen with
  | [v0, v1, v2], _ =>
    match xs, hxl with
    | [y0, y1, y2], _ =>
      obtain ⟨o0, k0⟩ := hone_of hone 0 f0 rfl
      have t0 := hg 0 f0 rfl
      rw [o0, k0] at t0
      obtain ⟨n0, e0, _, w0⟩ := DataW.trod_int h0 (x := y0) (by simpa using t0)
      simp at e0
      obtain ⟨o1, k1⟩ := hone_of hone 1 f1 rfl
      have t1 := hg 1 f1 rfl
      rw [o1, k1] at t1
      obtain ⟨n1, e1, _, w1⟩ := DataW.trod_int h1 (x := y1) (by simpa using t1)
      simp at e1
      obtain ⟨o2, k2⟩ := hone_of hone 2 f2 rfl
      have t2 := hg 2 f2 rfl
      rw [o2, k2] at t2
      obtain ⟨n2, e2, _, w2⟩ := DataW.trod_int h2 (x := y2) (by simpa using t2)
      simp at e2
      subst e0 e1 e2
      exact ⟨⟨n0, n1, n2⟩, rfl, wf64 w0, wf64 w1, wf64 w2⟩
theorem trod_S3 {t e : TypeId} {fuel : Nat} {v : Value} {x : DataW H × List MemPlace} {f0 f1 f2 : Field} (ht : P.underlying t = some (.slice e)) (he : P.underlying e = some (.struct #[f0, f1, f2])) (hone : oneCellFields P #[f0, f1, f2] = true) (hC : P.cellsOf e = 3)
    (h0 : P.underlying f0.type = some (.int .i64)) (h1 : P.underlying f1.type = some (.int .i64)) (h2 : P.underlying f2.type = some (.int .i64)) (h : DataW.trod enc P w b0 spare held fuel t [v] = some x) :
    ∃ A c, ∃ xs : List T3, v = .slice A xs.length c ∧ Rd3 w w.heap.size A xs ∧ xs.length ≤ 9223372036854775807 ∧ ∀ y ∈ xs, y.Fits := by
  rcases open_slice ht h with ⟨hcs, _⟩ | ⟨a, l, c, m, n, D, Pl, hcs, _, hl, hm, hmm, _, hi⟩
  · simp at hcs; subst hcs
    exact ⟨none, 0, [], rfl, Rd.nil _ _ _, by simp, by simp⟩
  · simp at hcs; subst hcs
    have hll : l ≤ m := by rw [hmm]; split <;> omega
    unfold maxLen at hm
    obtain ⟨X, hX⟩ := choose_lt (α := T3) (n := l) (p := fun i y => (∀ j, j < 3 → w.cell? (a.add (i * 3 + j)) = y.cells[j]?) ∧ y.Fits) (fun i hil => by
      obtain ⟨cs', q1, q2⟩ := hi i (by omega)
      rw [hC] at q1
      obtain ⟨y, rfl, hy⟩ := rec_3 he hone hC h0 h1 h2 q2
      obtain ⟨_, _, hat⟩ := World.cells?_some q1
      exact ⟨y, fun j hj => by rw [← Go.Deep.add_add]; exact hat j hj, hy⟩)
    refine ⟨some a, c, (List.range l).map X, by simp, rd_family T3.cells 3 (fun _ => rfl) (by omega) X l fun i hil j hj => (hX i hil).1 j hj, by simp; omega, fun y hy => ?_⟩
    obtain ⟨i, hi', rfl⟩ := List.mem_map.1 hy
    exact (hX i (List.mem_range.1 hi')).2
theorem open_S3 {r : Reach} {b1 : Nat} {t e : TypeId} {v : Value} {d : DataW H} {p : List MemPlace} {f0 f1 f2 : Field} (ht : P.underlying t = some (.slice e)) (he : P.underlying e = some (.struct #[f0, f1, f2])) (hone : oneCellFields P #[f0, f1, f2] = true) (hC : P.cellsOf e = 3)
    (h0 : P.underlying f0.type = some (.int .i64)) (h1 : P.underlying f1.type = some (.int .i64)) (h2 : P.underlying f2.type = some (.int .i64)) (hval : Value.okWide P w r b1 t v) (h : DataW.Trod enc P w b0 spare held t v d p) :
    ∃ A c, ∃ xs : List T3, v = .slice A xs.length c ∧ Rd3 w w.heap.size A xs ∧ xs.length ≤ 9223372036854775807 ∧ ∀ y ∈ xs, y.Fits := by
  obtain ⟨a, l, c, rfl⟩ := okWide_slice ht hval
  obtain ⟨fuel, hf⟩ := h
  exact trod_S3 ht he hone hC h0 h1 h2 (by simpa [Value.cells] using hf)
theorem open_V3 {r : Reach} {b1 : Nat} {e : TypeId} {v : Value} {d : DataW H} {p : List MemPlace} {f0 f1 f2 : Field} (he : P.underlying e = some (.struct #[f0, f1, f2])) (hone : oneCellFields P #[f0, f1, f2] = true) (hC : P.cellsOf e = 3)
    (h0 : P.underlying f0.type = some (.int .i64)) (h1 : P.underlying f1.type = some (.int .i64)) (h2 : P.underlying f2.type = some (.int .i64)) (hval : Value.okWide P w r b1 e v) (h : DataW.Trod enc P w b0 spare held e v d p) : ∃ y : T3, v = .agg #[.int .i64 y.a, .int .i64 y.b, .int .i64 y.c] ∧ y.Fits := by
  obtain ⟨cs, rfl, hsz⟩ := okWide_struct he hval
  obtain ⟨fuel, hf⟩ := h
  obtain ⟨y, hy, hfit⟩ := rec_3 he hone hC h0 h1 h2 hf
  refine ⟨y, ?_, hfit⟩
  simp only [Value.cells] at hy
  obtain ⟨l⟩ := cs
  simp only at hy
  subst hy; rfl
instance : Inhabited T4 := ⟨⟨0, 0, 0, 0⟩⟩
theorem rec_4 {e : TypeId} {fuel : Nat} {cs : List Value} {x : DataW H × List MemPlace} {f0 f1 f2 f3 : Field} (he : P.underlying e = some (.struct #[f0, f1, f2, f3])) (hone : oneCellFields P #[f0, f1, f2, f3] = true) (hC : P.cellsOf e = 4)
    (h0 : P.underlying f0.type = some (.int .i64)) (h1 : P.underlying f1.type = some (.int .i64)) (h2 : P.underlying f2.type = some (.int .i64)) (h3 : P.underlying f3.type = some (.int .i64)) (h : DataW.trod enc P w b0 spare held fuel e cs = some x) : ∃ y : T4, cs = y.cells ∧ y.Fits := by
  obtain ⟨xs, m, _, _, hlen, hxl, hg⟩ := DataW.trod_struct he h
  rw [hC] at hlen
  match cs, hlen with
  | [v0, v1, v2, v3], _ =>
    match xs, hxl with
    | [y0, y1, y2, y3], _ =>
      obtain ⟨o0, k0⟩ := hone_of hone 0 f0 rfl
      have t0 := hg 0 f0 rfl
      rw [o0, k0] at t0
      obtain ⟨n0, e0, _, w0⟩ := DataW.trod_int h0 (x := y0) (by simpa using t0)
      simp at e0
      obtain ⟨o1, k1⟩ := hone_of hone 1 f1 rfl
      have t1 := hg 1 f1 rfl
      rw [o1, k1] at t1
      obtain ⟨n1, e1, _, w1⟩ := DataW.trod_int h1 (x := y1) (by simpa using t1)
      simp at e1
      obtain ⟨o2, k2⟩ := hone_of hone 2 f2 rfl
      have t2 := hg 2 f2 rfl
      rw [o2, k2] at t2
      obtain ⟨n2, e2, _, w2⟩ := DataW.trod_int h2 (x := y2) (by simpa using t2)
      simp at e2
      obtain ⟨o3, k3⟩ := hone_of hone 3 f3 rfl
      have t3 := hg 3 f3 rfl
      rw [o3, k3] at t3
      obtain ⟨n3, e3, _, w3⟩ := DataW.trod_int h3 (x := y3) (by simpa using t3)
      simp at e3
      subst e0 e1 e2 e3
      exact ⟨⟨n0, n1, n2, n3⟩, rfl, wf64 w0, wf64 w1, wf64 w2, wf64 w3⟩
theorem trod_S4 {t e : TypeId} {fuel : Nat} {v : Value} {x : DataW H × List MemPlace} {f0 f1 f2 f3 : Field} (ht : P.underlying t = some (.slice e)) (he : P.underlying e = some (.struct #[f0, f1, f2, f3])) (hone : oneCellFields P #[f0, f1, f2, f3] = true) (hC : P.cellsOf e = 4)
    (h0 : P.underlying f0.type = some (.int .i64)) (h1 : P.underlying f1.type = some (.int .i64)) (h2 : P.underlying f2.type = some (.int .i64)) (h3 : P.underlying f3.type = some (.int .i64)) (h : DataW.trod enc P w b0 spare held fuel t [v] = some x) :
    ∃ A c, ∃ xs : List T4, v = .slice A xs.length c ∧ Rd4 w w.heap.size A xs ∧ xs.length ≤ 9223372036854775807 ∧ ∀ y ∈ xs, y.Fits := by
  rcases open_slice ht h with ⟨hcs, _⟩ | ⟨a, l, c, m, n, D, Pl, hcs, _, hl, hm, hmm, _, hi⟩
  · simp at hcs; subst hcs
    exact ⟨none, 0, [], rfl, Rd.nil _ _ _, by simp, by simp⟩
  · simp at hcs; subst hcs
    have hll : l ≤ m := by rw [hmm]; split <;> omega
    unfold maxLen at hm
    obtain ⟨X, hX⟩ := choose_lt (α := T4) (n := l) (p := fun i y => (∀ j, j < 4 → w.cell? (a.add (i * 4 + j)) = y.cells[j]?) ∧ y.Fits) (fun i hil => by
      obtain ⟨cs', q1, q2⟩ := hi i (by omega)
      rw [hC] at q1
      obtain ⟨y, rfl, hy⟩ := rec_4 he hone hC h0 h1 h2 h3 q2
      obtain ⟨_, _, hat⟩ := World.cells?_some q1
      exact ⟨y, fun j hj => by rw [← Go.Deep.add_add]; exact hat j hj, hy⟩)
    refine ⟨some a, c, (List.range l).map X, by simp, rd_family T4.cells 4 (fun _ => rfl) (by omega) X l fun i hil j hj => (hX i hil).1 j hj, by simp; omega, fun y hy => ?_⟩
    obtain ⟨i, hi', rfl⟩ := List.mem_map.1 hy
    exact (hX i (List.mem_range.1 hi')).2
theorem open_S4 {r : Reach} {b1 : Nat} {t e : TypeId} {v : Value} {d : DataW H} {p : List MemPlace} {f0 f1 f2 f3 : Field} (ht : P.underlying t = some (.slice e)) (he : P.underlying e = some (.struct #[f0, f1, f2, f3])) (hone : oneCellFields P #[f0, f1, f2, f3] = true) (hC : P.cellsOf e = 4)
    (h0 : P.underlying f0.type = some (.int .i64)) (h1 : P.underlying f1.type = some (.int .i64)) (h2 : P.underlying f2.type = some (.int .i64)) (h3 : P.underlying f3.type = some (.int .i64)) (hval : Value.okWide P w r b1 t v) (h : DataW.Trod enc P w b0 spare held t v d p) :
    ∃ A c, ∃ xs : List T4, v = .slice A xs.length c ∧ Rd4 w w.heap.size A xs ∧ xs.length ≤ 9223372036854775807 ∧ ∀ y ∈ xs, y.Fits := by
  obtain ⟨a, l, c, rfl⟩ := okWide_slice ht hval
  obtain ⟨fuel, hf⟩ := h
  exact trod_S4 ht he hone hC h0 h1 h2 h3 (by simpa [Value.cells] using hf)
theorem open_V4 {r : Reach} {b1 : Nat} {e : TypeId} {v : Value} {d : DataW H} {p : List MemPlace} {f0 f1 f2 f3 : Field} (he : P.underlying e = some (.struct #[f0, f1, f2, f3])) (hone : oneCellFields P #[f0, f1, f2, f3] = true) (hC : P.cellsOf e = 4)
    (h0 : P.underlying f0.type = some (.int .i64)) (h1 : P.underlying f1.type = some (.int .i64)) (h2 : P.underlying f2.type = some (.int .i64)) (h3 : P.underlying f3.type = some (.int .i64)) (hval : Value.okWide P w r b1 e v) (h : DataW.Trod enc P w b0 spare held e v d p) : ∃ y : T4, v = .agg #[.int .i64 y.a, .int .i64 y.b, .int .i64 y.c, .int .i64 y.d] ∧ y.Fits := by
  obtain ⟨cs, rfl, hsz⟩ := okWide_struct he hval
  obtain ⟨fuel, hf⟩ := h
  obtain ⟨y, hy, hfit⟩ := rec_4 he hone hC h0 h1 h2 h3 hf
  refine ⟨y, ?_, hfit⟩
  simp only [Value.cells] at hy
  obtain ⟨l⟩ := cs
  simp only at hy
  subst hy; rfl
end
end Go.Proofs.YtaajkmjilcamgaaDoor
namespace Go.Proofs.YtaajkmjilcamgaaDoor
open Go.ChangeShapes Go.WideShapes Go.ChangeAt Go.RowKit Go.Deep

/-- From A on the cells hold bytes. -/
def RdB (w : World) (B : Nat) (A : Option Addr) (zs : List Int) : Prop := Rd w B A (zs.map (Value.int .u8))
section
variable {w w' : World} {B B' : Nat} {A : Option Addr} {zs : List Int}
theorem RdB.at_ (h : RdB w B A zs) {k : Nat} (hk : k < zs.length) : ∃ b o z, A = some ⟨b, o, none⟩ ∧ b < B ∧ zs[k]? = some z ∧ w.cell? ⟨b, o + k, none⟩ = some (.int .u8 z) := by
  obtain ⟨b, o, u, hA, hb, hu, hc⟩ := Rd.at_ (j := k) h (by simpa using hk)
  rw [List.getElem?_map, List.getElem?_eq_getElem hk] at hu
  simp at hu; subst hu
  exact ⟨b, o, zs[k], hA, hb, List.getElem?_eq_getElem hk, hc⟩
theorem RdB.below (h : RdB w B A zs) (hb : Below B w w') : RdB w' B A zs := Rd.below h hb
theorem RdB.more (h : RdB w B A zs) (hB : B ≤ B') : RdB w B' A zs := Rd.more h hB
end
theorem wf8 {z : Int} (h : (Lit.int .u8 z).wf = true) : 0 ≤ z ∧ z ≤ 255 := by
  simp [Lit.wf, IntKind.min, IntKind.max, IntKind.signed, IntKind.bits] at h
  exact ⟨by omega, by omega⟩
section
variable {H : Type} {enc : TypeId × Value → H} {P : Program} {w : World} {spare : Nat → Bool} {held : Bool} {b0 : Nat}
theorem trod_B {t e : TypeId} {fuel : Nat} {v : Value} {x : DataW H × List MemPlace} (ht : P.underlying t = some (.slice e)) (he : P.underlying e = some (.int .u8)) (hc : P.cellsOf e = 1)
    (h : DataW.trod enc P w b0 spare held fuel t [v] = some x) :
    ∃ A c, ∃ zs : List Int, v = .slice A zs.length c ∧ RdB w w.heap.size A zs ∧ zs.length ≤ 9223372036854775807 ∧ ∀ z ∈ zs, 0 ≤ z ∧ z ≤ 255 := by
  rcases open_ints ht he hc h with ⟨hcs, _⟩ | ⟨a, l, c, zs, hcs, _, hl, hm, hz, _, hcell, hwz⟩
  · simp at hcs; subst hcs
    exact ⟨none, 0, [], rfl, Rd.nil _ _ _, by simp, by simp⟩
  · simp at hcs; subst hcs
    have hll : l ≤ zs.length := by rw [hz]; split <;> omega
    unfold maxLen at hm
    refine ⟨some a, c, zs.take l, by simp [Nat.min_eq_left hll], ?_, by simp [Nat.min_eq_left hll]; omega, fun z hz' => wf8 (hwz z (List.mem_of_mem_take hz'))⟩
    refine rd_of_cells fun j hj => ?_
    simp only [List.length_map, List.length_take] at hj
    rw [hcell j (by omega)]
    simp [List.getD, show j < l by omega, show j < zs.length by omega]
theorem open_B {r : Reach} {b1 : Nat} {t e : TypeId} {v : Value} {d : DataW H} {p : List MemPlace} (ht : P.underlying t = some (.slice e)) (he : P.underlying e = some (.int .u8)) (hc : P.cellsOf e = 1)
    (hval : Value.okWide P w r b1 t v) (h : DataW.Trod enc P w b0 spare held t v d p) :
    ∃ A c, ∃ zs : List Int, v = .slice A zs.length c ∧ RdB w w.heap.size A zs ∧ zs.length ≤ 9223372036854775807 ∧ ∀ z ∈ zs, 0 ≤ z ∧ z ≤ 255 := by
  obtain ⟨a, l, c, rfl⟩ := okWide_slice ht hval
  obtain ⟨fuel, hf⟩ := h
  exact trod_B ht he hc (by simpa [Value.cells] using hf)
end
end Go.Proofs.YtaajkmjilcamgaaDoor
namespace Go.Proofs.YtaajkmjilcamgaaDoor
open Go.RowKit
theorem chr_of {s : ByteArray} {i : Nat} (h : i < s.size) : (((s[i]'h).toNat : Nat) : Int) = chr s i := by
  unfold chr
  congr 2
  cases s with
  | mk d =>
    show d[i] = d[i]!
    exact (getElem!_pos d i h).symm
theorem qdn {P : Program} {f : FuncId} {args : Array Value} {w : World} {n : Nat} {v : Value}
    (h : Calls P f args (w.drewN n) fun e w' => e = .returned v ∧ ∃ m, w' = (w.drewN n).drewN m) : Calls P f args (w.drewN n) fun e w'' => e = .returned v ∧ ∃ m, w'' = w.drewN m :=
  h.mono fun _ _ ⟨he, m, hm⟩ => ⟨he, n + m, by rw [hm, World.drewN_drewN]⟩
set_option maxRecDepth 100000 in
set_option maxHeartbeats 4000000 in
theorem l05Far_any (a b : ByteArray) (w : World) (hs : a.size = b.size) (hl : a.size ≤ 1048576) :
    Calls Tryd.prog 28 #[.string a, .string b] w fun e w' => e = .returned (.int .i64 (farB a b)) ∧ ∃ m, w' = w.drewN m := by
  have ka : ∀ (i : Nat) (h : i < a.size), (((a[i]'h).toNat : Nat) : Int) = chr a i := fun i h => chr_of h
  have kb : ∀ (i : Nat) (h : i < b.size), (((b[i]'h).toNat : Nat) : Int) = chr b i := fun i h => chr_of h
  have HS := hide hs
  clear hs
  go_enter Tryd.func28, Tryd.ntmps28
  go_wp2_with fail
  go_loopg [6, 5] a.size (fun g i s wr => ∃ (j : Nat) (x : Int), j ≤ a.size ∧ Hid (g = a.size - j) ∧ i = .int .i64 j ∧ s = .int .i64 x ∧ 0 ≤ x ∧ x ≤ j ∧ Hid (farB a b = x + farN a b j (a.size - j)) ∧ ∃ m, wr = w.drewN m)
  case atStart => exact ⟨0, 0, by omega, by simp [Hid], rfl, rfl, by omega, by omega, by simp [Hid, farB], 0, rfl⟩
  case round =>
    obtain ⟨j, x, hj, hgj, rfl, rfl, hx0, hx1, HT, m, rfl⟩ := hrel
    by_cases hjt : j < a.size
    · have hjb : j < b.size := by have := HS.out; omega
      have hT := HT.out
      rw [show a.size - j = (a.size - (j + 1)) + 1 by omega, farN] at hT
      have hji : (j : Int) < (a.size : Int) := by omega
      have hjc : (j : Int) < (b.size : Int) := by omega
      have hj0 : (0 : Int) ≤ (j : Int) := by omega
      by_cases hc : chr a j = chr b j
      · rw [if_pos hc] at hT
        have HT2 : Hid (farB a b = x + farN a b (j + 1) (a.size - (j + 1))) := by unfold Hid; omega
        have hB : (chr a j != chr b j) = false := by simp [hc]
        have HC := hide hc
        clear hT hc
        go_wp2_with fail
        go_quiet (fail)
        go_wp2_with fail
        go_roundg (a.size - (j + 1))
        case measure => have := hgj.out; omega
        case rel => exact ⟨j + 1, x, by omega, rfl, by go_num, rfl, by omega, by omega, HT2, m + nq, rfl⟩
      · rw [if_neg hc] at hT
        have HT2 : Hid (farB a b = (x + 1) + farN a b (j + 1) (a.size - (j + 1))) := by unfold Hid; omega
        have hB : (chr a j != chr b j) = true := by simp [hc]
        have HC := hide hc
        have hwr : IntKind.i64.wrap (x + 1) = x + 1 := by rw [IntKind.wrap_i64] <;> omega
        clear hT hc
        go_wp2_with fail
        go_quiet (fail)
        go_wp2_with fail
        go_roundg (a.size - (j + 1))
        case measure => have := hgj.out; omega
        case rel => exact ⟨j + 1, x + 1, by omega, rfl, by go_num, rfl, by omega, by omega, HT2, m + nq, rfl⟩
    · have hd := HT.out
      rw [show a.size - j = 0 by omega, farN, Int.add_zero] at hd
      have HD := hide hd
      clear hd
      go_wp2_with fail
      go_ret
      exact ⟨ret_i HD.out.symm, m, rfl⟩
set_option maxRecDepth 100000 in
set_option maxHeartbeats 4000000 in
theorem distance_any (a b : ByteArray) (w : World) (hs : a.size = b.size) (hl : a.size ≤ 1048576) :
    Calls Tryd.prog 26 #[.string a, .string b] w fun e w' => e = .returned (.int .i64 (farB a b)) ∧ ∃ m, w' = w.drewN m := by
  have ka : ∀ (i : Nat) (h : i < a.size), (((a[i]'h).toNat : Nat) : Int) = chr a i := fun i h => chr_of h
  have kb : ∀ (i : Nat) (h : i < b.size), (((b[i]'h).toNat : Nat) : Int) = chr b i := fun i h => chr_of h
  have HS := hide hs
  clear hs
  go_enter Tryd.func26, Tryd.ntmps26
  go_wp2_with fail
  go_loopg [9, 5] a.size (fun g i s wr => ∃ (j : Nat) (x : Int), j ≤ a.size ∧ Hid (g = a.size - j) ∧ i = .int .i64 j ∧ s = .int .i64 x ∧ 0 ≤ x ∧ x ≤ j ∧ Hid (farB a b = x + farN a b j (a.size - j)) ∧ ∃ m, wr = w.drewN m)
  case atStart => exact ⟨0, 0, by omega, by simp [Hid], rfl, rfl, by omega, by omega, by simp [Hid, farB], 0, rfl⟩
  case round =>
    obtain ⟨j, x, hj, hgj, rfl, rfl, hx0, hx1, HT, m, rfl⟩ := hrel
    by_cases hjt : j < a.size
    · have hjb : j < b.size := by have := HS.out; omega
      have hT := HT.out
      rw [show a.size - j = (a.size - (j + 1)) + 1 by omega, farN] at hT
      have hji : (j : Int) < (a.size : Int) := by omega
      have hjc : (j : Int) < (b.size : Int) := by omega
      have hj0 : (0 : Int) ≤ (j : Int) := by omega
      by_cases hc : chr a j = chr b j
      · rw [if_pos hc] at hT
        have HT2 : Hid (farB a b = x + farN a b (j + 1) (a.size - (j + 1))) := by unfold Hid; omega
        have hB : (chr a j != chr b j) = false := by simp [hc]
        have HC := hide hc
        clear hT hc
        go_wp2_with fail
        go_quiet (fail)
        go_wp2_with fail
        go_roundg (a.size - (j + 1))
        case measure => have := hgj.out; omega
        case rel => exact ⟨j + 1, x, by omega, rfl, by go_num, rfl, by omega, by omega, HT2, m + nq, rfl⟩
      · rw [if_neg hc] at hT
        have HT2 : Hid (farB a b = (x + 1) + farN a b (j + 1) (a.size - (j + 1))) := by unfold Hid; omega
        have hB : (chr a j != chr b j) = true := by simp [hc]
        have HC := hide hc
        have hwr : IntKind.i64.wrap (x + 1) = x + 1 := by rw [IntKind.wrap_i64] <;> omega
        clear hT hc
        go_wp2_with fail
        go_quiet (fail)
        go_wp2_with fail
        go_roundg (a.size - (j + 1))
        case measure => have := hgj.out; omega
        case rel => exact ⟨j + 1, x + 1, by omega, rfl, by go_num, rfl, by omega, by omega, HT2, m + nq, rfl⟩
    · have hd := HT.out
      rw [show a.size - j = 0 by omega, farN, Int.add_zero] at hd
      have HD := hide hd
      clear hd
      go_wp2_with fail
      go_ret
      exact ⟨ret_i HD.out.symm, m, rfl⟩
set_option maxRecDepth 100000 in
set_option maxHeartbeats 4000000 in
theorem l05Word_any (n : Int) (s : ByteArray) (w : World) (hn : 0 ≤ n ∧ n ≤ 100) (hl : s.size ≤ 1048576) :
    Calls Tryd.prog 54 #[.int .i64 n, .string s] w fun e w' => e = .returned (.bool (wordB n s)) ∧ w = w' := by
  have ka : ∀ (i : Nat) (h : i < s.size), (((s[i]'h).toNat : Nat) : Int) = chr s i := fun i h => chr_of h
  obtain ⟨hn0, hn1⟩ := hn
  go_enter Tryd.func54, Tryd.ntmps54
  go_wp2_with fail
  go_loopg [5] s.size (fun g i wr => ∃ j : Nat, j ≤ s.size ∧ Hid (g = s.size - j) ∧ i = .int .i64 j ∧ Hid (letN n s 0 s.size = letN n s j (s.size - j)) ∧ wr = w)
  case atStart => exact ⟨0, by omega, by simp [Hid], rfl, hide rfl, rfl⟩
  case round =>
    obtain ⟨j, hj, hgj, rfl, HT, rfl⟩ := hrel
    by_cases hjt : j < s.size
    · have hd := HT.out
      rw [show s.size - j = (s.size - (j + 1)) + 1 by omega] at hd
      have hji : (j : Int) < (s.size : Int) := by omega
      have hb := chr_bd s j
      by_cases hcc : 97 ≤ chr s j ∧ chr s j ≤ 97 + n - 1
      case neg =>
        rw [letN_false hcc] at hd
        have hw1 : IntKind.i64.wrap (97 + n) = 97 + n := by rw [IntKind.wrap_i64] <;> omega
        have hw2 : IntKind.i64.wrap (97 + n - 1) = 97 + n - 1 := by rw [IntKind.wrap_i64] <;> omega
        have hw3 : IntKind.i64.wrap (chr s j) = chr s j := by rw [IntKind.wrap_i64] <;> omega
        have HD := hide hd
        clear hd
        go_wp2_with (go_at_call 41; first | (refine (l00In_t _ _ _ _ (by omega)).mono ?_; rintro e w' ⟨rfl, rfl⟩) | (refine (l00In_f _ _ _ _ (by omega)).mono ?_; rintro e w' ⟨rfl, rfl⟩))
        go_ret
        exact ⟨ret_b (by rw [wordB_bad HD.out]), rfl⟩
      case pos =>
        rw [letN_true hcc] at hd
        obtain ⟨hc1, hc2⟩ := hcc
        have hw1 : IntKind.i64.wrap (97 + n) = 97 + n := by rw [IntKind.wrap_i64] <;> omega
        have hw2 : IntKind.i64.wrap (97 + n - 1) = 97 + n - 1 := by rw [IntKind.wrap_i64] <;> omega
        have hw3 : IntKind.i64.wrap (chr s j) = chr s j := by rw [IntKind.wrap_i64] <;> omega
        have HT2 := hide hd
        clear hd
        go_wp2_with (go_at_call 41; first | (refine (l00In_t _ _ _ _ (by omega)).mono ?_; rintro e w' ⟨rfl, rfl⟩) | (refine (l00In_f _ _ _ _ (by omega)).mono ?_; rintro e w' ⟨rfl, rfl⟩))
        go_roundg (s.size - (j + 1))
        case measure => have := hgj.out; omega
        case rel => exact ⟨j + 1, by omega, rfl, by go_num, HT2, rfl⟩
    · have hd := HT.out
      rw [show s.size - j = 0 by omega] at hd
      have HD := hide (wordB_good hd)
      clear hd
      by_cases hz : 1 ≤ s.size ∧ s.size ≤ 8
      · have HE := hide (show wordB n s = true by rw [HD.out, decide_eq_true hz])
        obtain ⟨hz1, hz2⟩ := hz
        go_wp2_with (go_at_call 41; first | (refine (l00In_t _ _ _ _ (by omega)).mono ?_; rintro e w' ⟨rfl, rfl⟩) | (refine (l00In_f _ _ _ _ (by omega)).mono ?_; rintro e w' ⟨rfl, rfl⟩))
        go_ret
        exact ⟨ret_b HE.out.symm, rfl⟩
      · have HE := hide (show wordB n s = false by rw [HD.out, decide_eq_false hz])
        go_wp2_with (go_at_call 41; first | (refine (l00In_t _ _ _ _ (by omega)).mono ?_; rintro e w' ⟨rfl, rfl⟩) | (refine (l00In_f _ _ _ _ (by omega)).mono ?_; rintro e w' ⟨rfl, rfl⟩))
        go_ret
        exact ⟨ret_b HE.out.symm, rfl⟩
set_option maxRecDepth 100000 in
set_option maxHeartbeats 4000000 in
theorem isWord_any (n : Int) (s : ByteArray) (w : World) (hn : 0 ≤ n ∧ n ≤ 100) (hl : s.size ≤ 1048576) :
    Calls Tryd.prog 42 #[.int .i64 n, .string s] w fun e w' => e = .returned (.bool (wordB n s)) ∧ w = w' := by
  have ka : ∀ (i : Nat) (h : i < s.size), (((s[i]'h).toNat : Nat) : Int) = chr s i := fun i h => chr_of h
  obtain ⟨hn0, hn1⟩ := hn
  go_enter Tryd.func42, Tryd.ntmps42
  go_wp2_with fail
  go_loopg [8] s.size (fun g i wr => ∃ j : Nat, j ≤ s.size ∧ Hid (g = s.size - j) ∧ i = .int .i64 j ∧ Hid (letN n s 0 s.size = letN n s j (s.size - j)) ∧ wr = w)
  case atStart => exact ⟨0, by omega, by simp [Hid], rfl, hide rfl, rfl⟩
  case round =>
    obtain ⟨j, hj, hgj, rfl, HT, rfl⟩ := hrel
    by_cases hjt : j < s.size
    · have hd := HT.out
      rw [show s.size - j = (s.size - (j + 1)) + 1 by omega] at hd
      have hji : (j : Int) < (s.size : Int) := by omega
      have hb := chr_bd s j
      by_cases hcc : 97 ≤ chr s j ∧ chr s j ≤ 97 + n - 1
      case neg =>
        rw [letN_false hcc] at hd
        by_cases h97 : chr s j < 97
        · have HD := hide hd
          clear hd hcc
          go_wp2_with fail
          go_ret
          exact ⟨ret_b (by rw [wordB_bad HD.out]), rfl⟩
        · have hge : n ≤ chr s j - 97 := by omega
          have hw1 : IntKind.u8.wrap (chr s j - 97) = chr s j - 97 := by rw [IntKind.wrap_u8] <;> omega
          have hw2 : IntKind.i64.wrap (chr s j - 97) = chr s j - 97 := by rw [IntKind.wrap_i64] <;> omega
          have HD := hide hd
          clear hd hcc
          go_wp2_with fail
          go_ret
          exact ⟨ret_b (by rw [wordB_bad HD.out]), rfl⟩
      case pos =>
        rw [letN_true hcc] at hd
        obtain ⟨hc1, hc2⟩ := hcc
        have h97 : ¬ chr s j < 97 := by omega
        have hge : ¬ n ≤ chr s j - 97 := by omega
        have hw1 : IntKind.u8.wrap (chr s j - 97) = chr s j - 97 := by rw [IntKind.wrap_u8] <;> omega
        have hw2 : IntKind.i64.wrap (chr s j - 97) = chr s j - 97 := by rw [IntKind.wrap_i64] <;> omega
        have HT2 := hide hd
        clear hd
        go_wp2_with fail
        go_roundg (s.size - (j + 1))
        case measure => have := hgj.out; omega
        case rel => exact ⟨j + 1, by omega, rfl, by go_num, HT2, rfl⟩
    · have hd := HT.out
      rw [show s.size - j = 0 by omega] at hd
      have HD := hide (wordB_good hd)
      clear hd
      by_cases hz : 1 ≤ s.size ∧ s.size ≤ 8
      · have HE := hide (show wordB n s = true by rw [HD.out, decide_eq_true hz])
        obtain ⟨hz1, hz2⟩ := hz
        go_wp2_with (go_at_call 37; first | (refine (within_t _ _ _ _ (by omega)).mono ?_; rintro e w' ⟨rfl, rfl⟩) | (refine (within_f _ _ _ _ (by omega)).mono ?_; rintro e w' ⟨rfl, rfl⟩))
        go_ret
        exact ⟨ret_b HE.out.symm, rfl⟩
      · have HE := hide (show wordB n s = false by rw [HD.out, decide_eq_false hz])
        go_wp2_with (go_at_call 37; first | (refine (within_t _ _ _ _ (by omega)).mono ?_; rintro e w' ⟨rfl, rfl⟩) | (refine (within_f _ _ _ _ (by omega)).mono ?_; rintro e w' ⟨rfl, rfl⟩))
        go_ret
        exact ⟨ret_b HE.out.symm, rfl⟩
end Go.Proofs.YtaajkmjilcamgaaDoor
