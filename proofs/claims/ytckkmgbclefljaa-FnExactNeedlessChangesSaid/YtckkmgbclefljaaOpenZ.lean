/-
  Zones as an argument of a law, opened into the words of the walks.
-/
import Derived.Test.YtckkmgbclefljaaOpenW
import Derived.Test.YtckkmgbclefljaaZonW
namespace Go.Proofs.Ytckkmgbclefljaa
open Go.ChangeShapes Go.WideShapes Go.ChangeAt Go.RowKit Go.Deep

section
variable {H : Type} {enc : TypeId × Value → H} {P : Program} {w : World} {spare : Nat → Bool} {held : Bool} {b0 : Nat}
theorem rec_ZN {e e1 e2 : TypeId} {fuel : Nat} {cs : List Value} {x : DataW H × List MemPlace} {f0 f1 f2 d0 d1 d2 : Field} (he : P.underlying e = some (.struct #[f0, f1, f2])) (hone : oneCellFields P #[f0, f1, f2] = true) (hC : P.cellsOf e = 3)
    (h0 : P.underlying f0.type = some (.int .i64)) (h1 : P.underlying f1.type = some (.slice e1)) (g1 : P.underlying e1 = some (.int .i64)) (c1 : P.cellsOf e1 = 1)
    (h2 : P.underlying f2.type = some (.slice e2)) (g2 : P.underlying e2 = some (.struct #[d0, d1, d2])) (hone2 : oneCellFields P #[d0, d1, d2] = true) (hC2 : P.cellsOf e2 = 3)
    (k0 : P.underlying d0.type = some (.int .i64)) (k1 : P.underlying d1.type = some (.int .i64)) (k2 : P.underlying d2.type = some (.int .i64))
    (h : DataW.trod enc P w b0 spare held fuel e cs = some x) :
    ∃ y : TZ, ∃ A c A2 c2, cs = [.int .i64 y.z, .slice A y.of.length c, .slice A2 y.ch.length c2] ∧ RdI w w.heap.size A y.of ∧ Rd3 w w.heap.size A2 y.ch ∧ Len_Zoned y ∧ Fit_Zoned y := by
  obtain ⟨xs, m, _, _, hlen, hxl, hg⟩ := DataW.trod_struct he h
  rw [hC] at hlen
  match cs, hlen with
  | [v0, v1, v2], _ =>
    match xs, hxl with
    | [y0, y1, y2], _ =>
      obtain ⟨o0, j0⟩ := hone_of hone 0 f0 rfl
      have t0 := hg 0 f0 rfl
      rw [o0, j0] at t0
      obtain ⟨n0, e0, _, w0⟩ := DataW.trod_int h0 (x := y0) (by simpa using t0)
      simp at e0
      obtain ⟨o1, j1⟩ := hone_of hone 1 f1 rfl
      have t1 := hg 1 f1 rfl
      rw [o1, j1] at t1
      obtain ⟨A, c, zs, rfl, r1, l1, b1⟩ := trod_I h1 g1 c1 (x := y1) (by simpa using t1)
      obtain ⟨o2, j2⟩ := hone_of hone 2 f2 rfl
      have t2 := hg 2 f2 rfl
      rw [o2, j2] at t2
      obtain ⟨A2, c2, ys, rfl, r2, l2, b2⟩ := trod_S3 h2 g2 hone2 hC2 k0 k1 k2 (x := y2) (by simpa using t2)
      subst e0
      exact ⟨⟨n0, zs, ys⟩, A, c, A2, c2, rfl, r1, r2, ⟨l1, l2⟩, wf64 w0, b1, b2⟩
theorem open_ZN {r : Reach} {b1 : Nat} {e e1 e2 : TypeId} {v : Value} {d : DataW H} {p : List MemPlace} {f0 f1 f2 d0 d1 d2 : Field} (he : P.underlying e = some (.struct #[f0, f1, f2])) (hone : oneCellFields P #[f0, f1, f2] = true) (hC : P.cellsOf e = 3)
    (h0 : P.underlying f0.type = some (.int .i64)) (h1 : P.underlying f1.type = some (.slice e1)) (g1 : P.underlying e1 = some (.int .i64)) (c1 : P.cellsOf e1 = 1)
    (h2 : P.underlying f2.type = some (.slice e2)) (g2 : P.underlying e2 = some (.struct #[d0, d1, d2])) (hone2 : oneCellFields P #[d0, d1, d2] = true) (hC2 : P.cellsOf e2 = 3)
    (k0 : P.underlying d0.type = some (.int .i64)) (k1 : P.underlying d1.type = some (.int .i64)) (k2 : P.underlying d2.type = some (.int .i64))
    (hval : Value.okWide P w r b1 e v) (h : DataW.Trod enc P w b0 spare held e v d p) :
    ∃ y : TZ, ∃ A c A2 c2, v = .agg #[.int .i64 y.z, .slice A y.of.length c, .slice A2 y.ch.length c2] ∧ RdI w w.heap.size A y.of ∧ Rd3 w w.heap.size A2 y.ch ∧ Len_Zoned y ∧ Fit_Zoned y := by
  obtain ⟨cs, rfl, hsz⟩ := okWide_struct he hval
  obtain ⟨fuel, hf⟩ := h
  obtain ⟨y, A, c, A2, c2, hy, hr⟩ := rec_ZN he hone hC h0 h1 g1 c1 h2 g2 hone2 hC2 k0 k1 k2 hf
  refine ⟨y, A, c, A2, c2, ?_, hr⟩
  simp only [Value.cells] at hy
  obtain ⟨l⟩ := cs
  simp only at hy
  subst hy; rfl
end
end Go.Proofs.Ytckkmgbclefljaa
