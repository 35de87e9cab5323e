/-
  The parameter 'code []byte' of a law: what it reads.
-/
import Derived.Test.YtofjnmeblmbnmaaOpenW
namespace Go.Proofs.Ytofjnmeblmbnmaa
open Go.ChangeShapes Go.WideShapes Go.ChangeAt Go.RowKit Go.Deep

/-- From A on the cells hold bytes. -/
def RdB (w : World) (B : Nat) (A : Option Addr) (zs : List Int) : Prop := Rd w B A (zs.map (Value.int .u8))
section
variable {w w' : World} {B B' : Nat} {A : Option Addr} {zs : List Int}
theorem RdB.at_ (h : RdB w B A zs) {k : Nat} (hk : k < zs.length) : ∃ b o z, A = some ⟨b, o, none⟩ ∧ b < B ∧ zs[k]? = some z ∧ w.cell? ⟨b, o + k, none⟩ = some (.int .u8 z) := by
  obtain ⟨b, o, u, hA, hb, hu, hc⟩ := Rd.at_ (j := k) h (by simpa using hk)
  rw [List.getElem?_map, List.getElem?_eq_getElem hk] at hu
  simp at hu; subst hu
  exact ⟨b, o, zs[k], hA, hb, List.getElem?_eq_getElem hk, hc⟩
theorem RdB.below (h : RdB w B A zs) (hb : Below B w w') : RdB w' B A zs := Rd.below h hb
theorem RdB.more (h : RdB w B A zs) (hB : B ≤ B') : RdB w B' A zs := Rd.more h hB
end
theorem wf8 {z : Int} (h : (Lit.int .u8 z).wf = true) : 0 ≤ z ∧ z ≤ 255 := by
  simp [Lit.wf, IntKind.min, IntKind.max, IntKind.signed, IntKind.bits] at h
  exact ⟨by omega, by omega⟩
section
variable {H : Type} {enc : TypeId × Value → H} {P : Program} {w : World} {spare : Nat → Bool} {held : Bool} {b0 : Nat}
theorem trod_B {t e : TypeId} {fuel : Nat} {v : Value} {x : DataW H × List MemPlace} (ht : P.underlying t = some (.slice e)) (he : P.underlying e = some (.int .u8)) (hc : P.cellsOf e = 1)
    (h : DataW.trod enc P w b0 spare held fuel t [v] = some x) :
    ∃ A c, ∃ zs : List Int, v = .slice A zs.length c ∧ RdB w w.heap.size A zs ∧ zs.length ≤ 9223372036854775807 ∧ ∀ z ∈ zs, 0 ≤ z ∧ z ≤ 255 := by
  rcases open_ints ht he hc h with ⟨hcs, _⟩ | ⟨a, l, c, zs, hcs, _, hl, hm, hz, _, hcell, hwz⟩
  · simp at hcs; subst hcs
    exact ⟨none, 0, [], rfl, Rd.nil _ _ _, by simp, by simp⟩
  · simp at hcs; subst hcs
    have hll : l ≤ zs.length := by rw [hz]; split <;> omega
    unfold maxLen at hm
    refine ⟨some a, c, zs.take l, by simp [Nat.min_eq_left hll], ?_, by simp [Nat.min_eq_left hll]; omega, fun z hz' => wf8 (hwz z (List.mem_of_mem_take hz'))⟩
    refine rd_of_cells fun j hj => ?_
    simp only [List.length_map, List.length_take] at hj
    rw [hcell j (by omega)]
    simp [List.getD, show j < l by omega, show j < zs.length by omega]
theorem open_B {r : Reach} {b1 : Nat} {t e : TypeId} {v : Value} {d : DataW H} {p : List MemPlace} (ht : P.underlying t = some (.slice e)) (he : P.underlying e = some (.int .u8)) (hc : P.cellsOf e = 1)
    (hval : Value.okWide P w r b1 t v) (h : DataW.Trod enc P w b0 spare held t v d p) :
    ∃ A c, ∃ zs : List Int, v = .slice A zs.length c ∧ RdB w w.heap.size A zs ∧ zs.length ≤ 9223372036854775807 ∧ ∀ z ∈ zs, 0 ≤ z ∧ z ≤ 255 := by
  obtain ⟨a, l, c, rfl⟩ := okWide_slice ht hval
  obtain ⟨fuel, hf⟩ := h
  exact trod_B ht he hc (by simpa [Value.cells] using hf)
end
end Go.Proofs.Ytofjnmeblmbnmaa
