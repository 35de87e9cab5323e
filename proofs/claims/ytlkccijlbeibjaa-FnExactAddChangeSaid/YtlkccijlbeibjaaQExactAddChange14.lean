/-
  The words of the law on AddChange: struct variables that hold zones of the call's own.
  Zones as an argument of a law, opened into the words of the walks.
-/
import Derived.Test.YtlkccijlbeibjaaQExactAddChange13
import Derived.Test.YtlkccijlbeibjaaQExactAddChange6
import Derived.Test.YtlkccijlbeibjaaQExactAddChange2
namespace Go.Proofs.Ytlkccijlbeibjaa
open Go.RowKit
/-- The law's own parameters. -/
structure XP (w0 : World) (x : TZ) (A : Option Addr) (c : Nat) (B : Option Addr) (d : Nat) (y : T3) (w : World) : Prop where
  p : BoxN w w0.heap.size #[.int .i64 x.z, .slice A x.of.length c, .slice B x.ch.length d] 25
  q : BoxN w (w0.heap.size + 1) #[.int .i64 y.a, .int .i64 y.b, .int .i64 y.c] 27
  bel : Below w0.heap.size w0 w
  sz : w0.heap.size + 2 ≤ w.heap.size
section
variable {w0 : World} {x : TZ} {A : Option Addr} {c : Nat} {B : Option Addr} {d : Nat} {y : T3} {w w' : World}
theorem XP.belowB {b : Nat} (h : XP w0 x A c B d y w) (k : Below b w w') (hb : w0.heap.size + 2 ≤ b) : XP w0 x A c B d y w' :=
  ⟨h.p.below k (by omega), h.q.below k (by omega), h.bel.trans (k.mono (by omega)), Nat.le_trans h.sz k.size⟩
theorem XP.below (h : XP w0 x A c B d y w) (k : Below w.heap.size w w') : XP w0 x A c B d y w' := h.belowB k h.sz
end
/-- A struct variable with zones of the call's own: it and its rows lie in the blocks from L to H. -/
def ZB (w : World) (L H b : Nat) (cs : Array Value) (x : TZ) : Prop :=
  ∃ lo hi, BoxN w b cs 31 ∧ O_Zoned w lo hi (.agg cs) x ∧ L ≤ lo ∧ hi ≤ H ∧ L ≤ b ∧ b < H ∧ (b < lo ∨ hi ≤ b)
theorem ZB.box {w : World} {L H b : Nat} {cs : Array Value} {x : TZ} (h : ZB w L H b cs x) : BoxN w b cs 31 := by obtain ⟨_, _, h, _⟩ := h; exact h
theorem ZB.own {w : World} {L H b : Nat} {cs : Array Value} {x : TZ} (h : ZB w L H b cs x) : ∃ lo hi, O_Zoned w lo hi (.agg cs) x ∧ L ≤ lo ∧ hi ≤ H ∧ (b < lo ∨ hi ≤ b) := by obtain ⟨lo, hi, _, h1, h2, h3, _, _, h4⟩ := h; exact ⟨lo, hi, h1, h2, h3, h4⟩
theorem ZB.below {w w' : World} {L H b B : Nat} {cs : Array Value} {x : TZ} (h : ZB w L H b cs x) (k : Below B w w') (hB : H ≤ B) : ZB w' L H b cs x := by
  obtain ⟨lo, hi, h1, h2, h3, h4, h5, h6, h7⟩ := h
  exact ⟨lo, hi, h1.below k (by omega), h2.below k (by omega), h3, h4, h5, h6, h7⟩
theorem ZB.only {w w' : World} {L H b lo' hi' : Nat} {cs : Array Value} {x : TZ} (h : ZB w L H b cs x) (k : Only lo' hi' w w') (hd : H ≤ lo' ∨ hi' ≤ L) : ZB w' L H b cs x := by
  obtain ⟨lo, hi, h1, h2, h3, h4, h5, h6, h7⟩ := h
  exact ⟨lo, hi, (k.2.2.2.2 b h1.lt (by omega)).trans h1, h2.kept k (by omega), h3, h4, h5, h6, h7⟩
/-- A zone is marked: its rows alone turn. -/
theorem ZB.marked {w w' : World} {L H b lo hi : Nat} {cs : Array Value} {x x' : TZ} (h : ZB w L H b cs x) (ho : O_Zoned w' lo hi (.agg cs) x') (k : Only lo hi w w') (h3 : L ≤ lo) (h4 : hi ≤ H) (h7 : b < lo ∨ hi ≤ b) : ZB w' L H b cs x' := by
  obtain ⟨_, _, h1, _, _, _, h5, h6, _⟩ := h
  exact ⟨lo, hi, (k.2.2.2.2 b h1.lt h7).trans h1, ho, h3, h4, h5, h6, h7⟩
/-- Zones are stored into a new struct variable. -/
theorem ZB.stored {w : World} {L H nb lo hi : Nat} {v0 v1 v2 : Value} {x : TZ} (hN : BoxN w nb #[.int .i64 0, .slice none 0 0, .slice none 0 0] 31) (ho : O_Zoned w lo hi (.agg #[v0, v1, v2]) x) (h3 : L ≤ lo) (h4 : hi ≤ H) (h5 : L ≤ nb) (h6 : nb < H) (h7 : nb < lo ∨ hi ≤ nb) :
    ZB (((w.setCell ⟨nb, 0, none⟩ v0).setCell ⟨nb, 1, none⟩ v1).setCell ⟨nb, 2, none⟩ v2) L H nb #[v0, v1, v2] x := by
  refine ⟨lo, hi, ((hN.set 0 v0).set 1 v1).set 2 v2, ?_, h3, h4, h5, h6, h7⟩
  exact ((ho.kept (lo' := nb) (hi' := nb + 1) (onlyN_set (Nat.le_refl _) (by omega)) (by omega)).kept (lo' := nb) (hi' := nb + 1) (onlyN_set (Nat.le_refl _) (by omega)) (by omega)).kept (lo' := nb) (hi' := nb + 1) (onlyN_set (Nat.le_refl _) (by omega)) (by omega)
end Go.Proofs.Ytlkccijlbeibjaa
namespace Go.Proofs.Ytlkccijlbeibjaa
open Go.ChangeShapes Go.WideShapes Go.ChangeAt Go.RowKit Go.Deep

section
variable {H : Type} {enc : TypeId × Value → H} {P : Program} {w : World} {spare : Nat → Bool} {held : Bool} {b0 : Nat}
theorem rec_ZN {e e1 e2 : TypeId} {fuel : Nat} {cs : List Value} {x : DataW H × List MemPlace} {f0 f1 f2 d0 d1 d2 : Field} (he : P.underlying e = some (.struct #[f0, f1, f2])) (hone : oneCellFields P #[f0, f1, f2] = true) (hC : P.cellsOf e = 3)
    (h0 : P.underlying f0.type = some (.int .i64)) (h1 : P.underlying f1.type = some (.slice e1)) (g1 : P.underlying e1 = some (.int .i64)) (c1 : P.cellsOf e1 = 1)
    (h2 : P.underlying f2.type = some (.slice e2)) (g2 : P.underlying e2 = some (.struct #[d0, d1, d2])) (hone2 : oneCellFields P #[d0, d1, d2] = true) (hC2 : P.cellsOf e2 = 3)
    (k0 : P.underlying d0.type = some (.int .i64)) (k1 : P.underlying d1.type = some (.int .i64)) (k2 : P.underlying d2.type = some (.int .i64))
    (h : DataW.trod enc P w b0 spare held fuel e cs = some x) :
    ∃ y : TZ, ∃ A c A2 c2, cs = [.int .i64 y.z, .slice A y.of.length c, .slice A2 y.ch.length c2] ∧ RdI w w.heap.size A y.of ∧ Rd3 w w.heap.size A2 y.ch ∧ Len_Zoned y ∧ Fit_Zoned y := by
  obtain ⟨xs, m, _, _, hlen, hxl, hg⟩ := DataW.trod_struct he h
  rw [hC] at hlen
  match cs, hlen with
  | [v0, v1, v2], _ =>
    match xs, hxl with
    | [y0, y1, y2], _ =>
      obtain ⟨o0, j0⟩ := hone_of hone 0 f0 rfl
      have t0 := hg 0 f0 rfl
      rw [o0, j0] at t0
      obtain ⟨n0, e0, _, w0⟩ := DataW.trod_int h0 (x := y0) (by simpa using t0)
      simp at e0
      obtain ⟨o1, j1⟩ := hone_of hone 1 f1 rfl
      have t1 := hg 1 f1 rfl
      rw [o1, j1] at t1
      obtain ⟨A, c, zs, rfl, r1, l1, b1⟩ := trod_I h1 g1 c1 (x := y1) (by simpa using t1)
      obtain ⟨o2, j2⟩ := hone_of hone 2 f2 rfl
      have t2 := hg 2 f2 rfl
      rw [o2, j2] at t2
      obtain ⟨A2, c2, ys, rfl, r2, l2, b2⟩ := trod_S3 h2 g2 hone2 hC2 k0 k1 k2 (x := y2) (by simpa using t2)
      subst e0
      exact ⟨⟨n0, zs, ys⟩, A, c, A2, c2, rfl, r1, r2, ⟨l1, l2⟩, wf64 w0, b1, b2⟩
theorem open_ZN {r : Reach} {b1 : Nat} {e e1 e2 : TypeId} {v : Value} {d : DataW H} {p : List MemPlace} {f0 f1 f2 d0 d1 d2 : Field} (he : P.underlying e = some (.struct #[f0, f1, f2])) (hone : oneCellFields P #[f0, f1, f2] = true) (hC : P.cellsOf e = 3)
    (h0 : P.underlying f0.type = some (.int .i64)) (h1 : P.underlying f1.type = some (.slice e1)) (g1 : P.underlying e1 = some (.int .i64)) (c1 : P.cellsOf e1 = 1)
    (h2 : P.underlying f2.type = some (.slice e2)) (g2 : P.underlying e2 = some (.struct #[d0, d1, d2])) (hone2 : oneCellFields P #[d0, d1, d2] = true) (hC2 : P.cellsOf e2 = 3)
    (k0 : P.underlying d0.type = some (.int .i64)) (k1 : P.underlying d1.type = some (.int .i64)) (k2 : P.underlying d2.type = some (.int .i64))
    (hval : Value.okWide P w r b1 e v) (h : DataW.Trod enc P w b0 spare held e v d p) :
    ∃ y : TZ, ∃ A c A2 c2, v = .agg #[.int .i64 y.z, .slice A y.of.length c, .slice A2 y.ch.length c2] ∧ RdI w w.heap.size A y.of ∧ Rd3 w w.heap.size A2 y.ch ∧ Len_Zoned y ∧ Fit_Zoned y := by
  obtain ⟨cs, rfl, hsz⟩ := okWide_struct he hval
  obtain ⟨fuel, hf⟩ := h
  obtain ⟨y, A, c, A2, c2, hy, hr⟩ := rec_ZN he hone hC h0 h1 g1 c1 h2 g2 hone2 hC2 k0 k1 k2 hf
  refine ⟨y, A, c, A2, c2, ?_, hr⟩
  simp only [Value.cells] at hy
  obtain ⟨l⟩ := cs
  simp only at hy
  subst hy; rfl
end
end Go.Proofs.Ytlkccijlbeibjaa
