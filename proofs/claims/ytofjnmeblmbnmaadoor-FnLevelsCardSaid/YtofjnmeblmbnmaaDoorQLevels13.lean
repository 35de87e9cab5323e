/-
  Zones are bent: what is drawn for the laws.
-/
import Derived.Test.YtofjnmeblmbnmaaDoorQLevels12
namespace Go.Proofs.YtofjnmeblmbnmaaDoor
open Go.RowKit
section
variable {b : Nat} {bs : List Int} {N N' : Int} {w0 : World} {gz : Nat} {w w' w5 : World} {x : TZ} {A : Option Addr} {c : Nat} {A2 : Option Addr} {c2 : Nat}
theorem ZSt.putZ (h : ZSt b bs N w0 gz w x A c A2 c2) (hb : b < w0.heap.size) (z : Int) : ZSt b bs N w0 gz (w.setCell ⟨gz, 0, none⟩ (.int .i64 z)) ⟨z, x.of, x.ch⟩ A c A2 c2 := by
  have hgz := h.gzl
  exact ⟨h.box.set 0 (.int .i64 z), h.ro.kept (grown_setCell w ⟨gz, 0, none⟩ (.int .i64 z)) (.inr h.nz.1), h.rc.kept (grown_setCell w ⟨gz, 0, none⟩ (.int .i64 z)) (.inr h.nz.2), h.ap, h.nz, h.res.other (by omega) 0 _, h.src.set ⟨gz, 0, none⟩ _ (by dsimp only; omega), only_setNew h.onl ⟨gz, 0, none⟩ _ (by dsimp only; omega), hgz⟩
theorem ZSt.putOf (h : ZSt b bs N w0 gz w x A c A2 c2) (hb : b < w0.heap.size) {B : Option Addr} {d : Nat} {l : List Int} (ho : w.ownsRow (w0.heap.size + 1) 2 1 (.slice B l.length d) l.length (l.map (Value.int .i64))) (hap : ∀ g, (Value.slice B l.length d).ownBlock = some g → (Value.slice A2 x.ch.length c2).ownBlock ≠ some g) (hn : (Value.slice B l.length d).ownBlock ≠ some gz) :
    ZSt b bs N w0 gz (w.setCell ⟨gz, 1, none⟩ (.slice B l.length d)) ⟨x.z, l, x.ch⟩ B d A2 c2 := by
  have hgz := h.gzl
  exact ⟨h.box.set 1 _, ho.kept (grown_setCell w ⟨gz, 1, none⟩ (.slice B l.length d)) (.inr hn), h.rc.kept (grown_setCell w ⟨gz, 1, none⟩ (.slice B l.length d)) (.inr h.nz.2), hap, ⟨hn, h.nz.2⟩, h.res.other (by omega) 1 _, h.src.set ⟨gz, 1, none⟩ _ (by dsimp only; omega), only_setNew h.onl ⟨gz, 1, none⟩ _ (by dsimp only; omega), hgz⟩
theorem ZSt.putCh (h : ZSt b bs N w0 gz w x A c A2 c2) (hb : b < w0.heap.size) {B : Option Addr} {d : Nat} {l : List T3} (ho : w.ownsRow (w0.heap.size + 1) 41 3 (.slice B l.length d) l.length (l.flatMap T3.cells)) (hap : ∀ g, (Value.slice A x.of.length c).ownBlock = some g → (Value.slice B l.length d).ownBlock ≠ some g) (hn : (Value.slice B l.length d).ownBlock ≠ some gz) :
    ZSt b bs N w0 gz (w.setCell ⟨gz, 2, none⟩ (.slice B l.length d)) ⟨x.z, x.of, l⟩ A c B d := by
  have hgz := h.gzl
  exact ⟨h.box.set 2 _, h.ro.kept (grown_setCell w ⟨gz, 2, none⟩ (.slice B l.length d)) (.inr h.nz.1), ho.kept (grown_setCell w ⟨gz, 2, none⟩ (.slice B l.length d)) (.inr hn), hap, ⟨h.nz.1, hn⟩, h.res.other (by omega) 2 _, h.src.set ⟨gz, 2, none⟩ _ (by dsimp only; omega), only_setNew h.onl ⟨gz, 2, none⟩ _ (by dsimp only; omega), hgz⟩
/-- A change more. -/
theorem ZSt.pushCh (h : ZSt b bs N w0 gz w x A c A2 c2) (hb : b < w0.heap.size) {t : T3} {A' : Option Addr} {c' : Nat}
    (hown : w5.ownsRow (w0.heap.size + 1) 41 3 (.slice A' (x.ch.length + 1) c') (x.ch.length + 1) (x.ch.flatMap T3.cells ++ [.int .i64 t.a, .int .i64 t.b, .int .i64 t.c])) (hg : w.grownBy w5 (Value.slice A2 x.ch.length c2).ownBlock)
    (hat : (Value.slice A' (x.ch.length + 1) c').ownBlock = (Value.slice A2 x.ch.length c2).ownBlock ∨ (Value.slice A' (x.ch.length + 1) c').ownBlock = some w.heap.size) :
    ZSt b bs N w0 gz (w5.setCell ⟨gz, 2, none⟩ (.slice A' (x.ch.length + 1) c')) ⟨x.z, x.of, x.ch ++ [t]⟩ A c A' c' := by
  have hgz := h.gzl
  have hlt := h.lt
  have hl : (x.ch ++ [t]).length = x.ch.length + 1 := by simp
  have hne : (Value.slice A' (x.ch.length + 1) c').ownBlock ≠ some gz := by
    rcases hat with e | e
    · rw [e]; exact h.nz.2
    · rw [e]; intro e2; have := Option.some.inj e2; omega
  have hbx : BoxN w5 gz #[.int .i64 x.z, .slice A x.of.length c, .slice A2 x.ch.length c2] 47 := (hg.block gz hlt (fun e => h.nz.2 e.symm)).trans h.box
  have hrs : BoxN w5 w0.heap.size #[.int .i64 0, .slice none 0 0, .slice none 0 0] 47 := (hg.block _ h.res.lt (fun e => by have := (h.rc.lt _ e.symm).1; omega)).trans h.res
  have hap2 : ∀ g, (Value.slice A2 x.ch.length c2).ownBlock = some g → (Value.slice A x.of.length c).ownBlock ≠ some g := fun g e e2 => h.ap g e2 e
  refine ⟨by rw [hl]; exact hbx.set 2 _, ?_, ?_, ?_, ⟨h.nz.1, by rw [hl]; exact hne⟩, hrs.other (by omega) 2 _, ?_, ?_, hgz⟩
  · exact (h.ro.kept hg (ap_orZ h.ap).2).kept (grown_setCell w5 ⟨gz, 2, none⟩ (.slice A' (x.ch.length + 1) c')) (.inr h.nz.1)
  · have h2 := hown.kept (grown_setCell w5 ⟨gz, 2, none⟩ (.slice A' (x.ch.length + 1) c')) (.inr hne)
    rw [hl, List.flatMap_append]
    exact h2
  · rw [hl]; exact fun g e e2 => ap_keepZ hap2 hat (fun g e => (h.ro.lt g e).2) g e2 e
  · exact (h.src.grown hg (fun g e => by have := (h.rc.lt g e).1; omega)).set ⟨gz, 2, none⟩ _ (by dsimp only; omega)
  · exact only_setNew (only_app h.onl h.rc hg (by omega)) ⟨gz, 2, none⟩ _ (by dsimp only; omega)
/-- A change's number is spoilt. -/
theorem ZSt.spoil {ga : Nat} (h : ZSt b bs N w0 gz w x A c (some ⟨ga, 0, none⟩) c2) (hb : b < w0.heap.size) {k j : Nat} {z : Int} {t : T3} (hk : x.ch[k]? = some t) (hj : j < 3) {t' : T3} (ht : ∀ v, (T3.cells t').set j v = (T3.cells t).set j v) (hv : (T3.cells t')[j]? = some (.int .i64 z)) :
    ZSt b bs N w0 gz (w.setCell ⟨ga, k * 3 + j, none⟩ (.int .i64 z)) ⟨x.z, x.of, x.ch.set k t'⟩ A c (some ⟨ga, 0, none⟩) c2 := by
  have hgz := h.gzl
  have hgl := h.rc.lt ga rfl
  have hgne : ga ≠ gz := fun e => h.nz.2 (by rw [← e]; rfl)
  have hne : (Value.slice A x.of.length c).ownBlock ≠ some ga := fun e => h.ap ga e rfl
  have hs := (h.rc.stored (k * 3 + j) (.int .i64 z)).1
  have hc : (x.ch.flatMap T3.cells).set (k * 3 + j) (.int .i64 z) = (x.ch.set k t').flatMap T3.cells := flatMap_set T3.cells 3 (fun _ => rfl) x.ch k j t t' (.int .i64 z) hk hj (by
    have h1 := ht (.int .i64 z)
    rw [← h1]
    apply List.ext_getElem?
    intro i
    by_cases hi : i = j
    · subst hi; rw [hv, List.getElem?_set_self (lt_of_get hv)]
    · rw [List.getElem?_set_ne (fun e => hi e.symm)])
  have hl : (x.ch.set k t').length = x.ch.length := List.length_set
  refine ⟨by rw [hl]; exact h.box.other hgne _ _, h.ro.kept (grown_setCell w ⟨ga, k * 3 + j, none⟩ (.int .i64 z)) (.inr hne), ?_, by rw [hl]; exact h.ap, by rw [hl]; exact h.nz, h.res.other (by omega) _ _, h.src.set ⟨ga, k * 3 + j, none⟩ _ (by dsimp only; omega), only_setNew h.onl ⟨ga, k * 3 + j, none⟩ _ (by dsimp only; omega), hgz⟩
  rw [hl, ← hc]
  exact hs
end
/-- Bent zones' numbers. -/
def ZBt (x : TZ) : Prop := (-1 ≤ x.z ∧ x.z ≤ 9) ∧ (x.of.length ≤ 25 ∧ ∀ z ∈ x.of, -1 ≤ z ∧ z ≤ 9) ∧ x.ch.length ≤ 61 ∧ ∀ t ∈ x.ch, CDr t
theorem ZDr.bt {x : TZ} (h : ZDr x) : ZBt x := ⟨⟨by have := h.1; omega, by have := h.1; omega⟩, ⟨by have := h.2.1.1; omega, fun z hz => by have := h.2.1.2 z hz; omega⟩, by have := h.2.2.1; omega, h.2.2.2⟩
end Go.Proofs.YtofjnmeblmbnmaaDoor
