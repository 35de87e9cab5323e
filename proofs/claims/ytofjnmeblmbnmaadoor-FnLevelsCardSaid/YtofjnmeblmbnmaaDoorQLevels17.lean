/-
  Zones: what SameZoned draws.
-/
import Derived.Test.YtofjnmeblmbnmaaDoorQLevels16
import Derived.Test.YtofjnmeblmbnmaaDoorQLevels9
import Derived.Deep.CutBlock
namespace Go.Proofs.YtofjnmeblmbnmaaDoor
open Go.RowKit
/-- The numbers of zones that were drawn and turned once. -/
def YBt (y : TZ) : Prop := (0 ≤ y.z ∧ y.z ≤ 9) ∧ (y.of.length ≤ 8 ∧ ∀ z ∈ y.of, 0 ≤ z ∧ z ≤ 3) ∧ y.ch.length ≤ 12 ∧ ∀ t ∈ y.ch, -9223372036854775808 ≤ t.a ∧ t.a ≤ 10001 ∧ -1 ≤ t.b ∧ t.b ≤ 10 ∧ -101 ≤ t.c ∧ t.c ≤ 102
theorem YBt.small {y : TZ} (h : YBt y) : Small_Zoned y := ⟨by have := h.2.1.1; omega, by have := h.2.2.1; omega⟩
theorem YBt.fit {y : TZ} (h : YBt y) : Fit_Zoned y := ⟨by have := h.1; omega, fun z hz => by have := h.2.1.2 z hz; omega, fun t ht => by have := h.2.2.2 t ht; exact ⟨⟨by omega, by omega⟩, ⟨by omega, by omega⟩, by omega, by omega⟩⟩
theorem ZDr.yb {x : TZ} (h : ZDr x) : YBt x := ⟨by have := h.1; omega, ⟨by have := h.2.1.1; omega, h.2.1.2⟩, by have := h.2.2.1; omega, fun t ht => by have := h.2.2.2 t ht; unfold CDr at this; omega⟩
/-- Two drawn zones in boxes of their own, beside the boxes of the results. -/
structure SmS (b : Nat) (bs : List Int) (N : Int) (w : World) (gr gr2 ga gb base : Nat) (W : World) (x : TZ) (A : Option Addr) (c : Nat) (A2 : Option Addr) (c2 : Nat) (y : TZ) (B : Option Addr) (d : Nat) (B2 : Option Addr) (d2 : Nat) : Prop where
  r : BoxN W gr #[.int .i64 0, .slice none 0 0, .slice none 0 0] 47
  r2 : BoxN W gr2 #[.int .i64 0, .slice none 0 0, .slice none 0 0] 47
  za : BoxN W ga #[.int .i64 x.z, .slice A x.of.length c, .slice A2 x.ch.length c2] 47
  zb : BoxN W gb #[.int .i64 y.z, .slice B y.of.length d, .slice B2 y.ch.length d2] 47
  xo : W.ownsRow (b + 1) 2 1 (.slice A x.of.length c) x.of.length (x.of.map (Value.int .i64))
  xc : W.ownsRow (b + 1) 41 3 (.slice A2 x.ch.length c2) x.ch.length (x.ch.flatMap T3.cells)
  xl1 : ∀ g, (Value.slice A x.of.length c).ownBlock = some g → g < ga
  xl2 : ∀ g, (Value.slice A2 x.ch.length c2).ownBlock = some g → g < ga
  ro : W.ownsRow base 2 1 (.slice B y.of.length d) y.of.length (y.of.map (Value.int .i64))
  rc : W.ownsRow base 41 3 (.slice B2 y.ch.length d2) y.ch.length (y.ch.flatMap T3.cells)
  src : SrcAt b bs N W
  bel : Below w.heap.size w W
  lt : (w.heap.size ≤ gr ∧ gr < gr2 ∧ gr2 < b) ∧ b < ga ∧ ga < base ∧ base ≤ gb
  n1 : (Value.slice B y.of.length d).ownBlock ≠ some gb
  n2 : (Value.slice B2 y.ch.length d2).ownBlock ≠ some gb
  ap : ∀ g, (Value.slice B y.of.length d).ownBlock = some g → (Value.slice B2 y.ch.length d2).ownBlock ≠ some g
theorem kept_or {v : Value} {row : Option Nat} (h : ∀ g, v.ownBlock = some g → row ≠ some g) : v.ownBlock = none ∨ v.ownBlock ≠ row := by
  cases hv : v.ownBlock with
  | none => exact .inl rfl
  | some g => exact .inr fun e => h g hv e.symm
section
variable {b : Nat} {bs : List Int} {N : Int} {w : World} {gr gr2 ga gb base : Nat} {W : World} {x : TZ} {A : Option Addr} {c : Nat} {A2 : Option Addr} {c2 : Nat} {y : TZ} {B : Option Addr} {d : Nat} {B2 : Option Addr} {d2 : Nat} {N' : Int} {W' W5 : World}
theorem SmS.more (h : SmS b bs N w gr gr2 ga gb base W x A c A2 c2 y B d B2 d2) (hN : N ≤ N') : SmS b bs N' w gr gr2 ga gb base W x A c A2 c2 y B d B2 d2 := ⟨h.r, h.r2, h.za, h.zb, h.xo, h.xc, h.xl1, h.xl2, h.ro, h.rc, h.src.more hN, h.bel, h.lt, h.n1, h.n2, h.ap⟩
theorem SmS.only (h : SmS b bs N w gr gr2 ga gb base W x A c A2 c2 y B d B2 d2) (hs : SrcAt b bs N' W') (ho : Only b (b + 1) W W') : SmS b bs N' w gr gr2 ga gb base W' x A c A2 c2 y B d B2 d2 := by
  have hlt := h.lt
  exact ⟨h.r.only ho (.inl (by omega)), h.r2.only ho (.inl (by omega)), h.za.only ho (.inr (by omega)), h.zb.only ho (.inr (by omega)), row_only h.xo ho (Nat.le_refl _), row_only h.xc ho (Nat.le_refl _), h.xl1, h.xl2, row_only h.ro ho (by omega), row_only h.rc ho (by omega), hs, h.bel.trans (ho.below (B := w.heap.size) (by omega) h.bel.size), hlt, h.n1, h.n2, h.ap⟩
theorem SmS.far (h : SmS b bs N w gr gr2 ga gb base W x A c A2 c2 y B d B2 d2) (k : Below W.heap.size W W') : SmS b bs N w gr gr2 ga gb base W' x A c A2 c2 y B d B2 d2 := h.only (h.src.below k h.src.lt) (only_of_below k)
theorem SmS.putZ (h : SmS b bs N w gr gr2 ga gb base W x A c A2 c2 y B d B2 d2) (z : Int) : SmS b bs N w gr gr2 ga gb base (W.setCell ⟨gb, 0, none⟩ (.int .i64 z)) x A c A2 c2 ⟨z, y.of, y.ch⟩ B d B2 d2 := by
  have hlt := h.lt
  exact ⟨h.r.other (by omega) _ _, h.r2.other (by omega) _ _, h.za.other (by omega) _ _, h.zb.set 0 (.int .i64 z), h.xo.kept (grown_setCell W ⟨gb, 0, none⟩ _) (.inr fun e => by have := h.xl1 _ e; (try dsimp only at this); omega), h.xc.kept (grown_setCell W ⟨gb, 0, none⟩ _) (.inr fun e => by have := h.xl2 _ e; (try dsimp only at this); omega), h.xl1, h.xl2, h.ro.kept (grown_setCell W ⟨gb, 0, none⟩ _) (.inr h.n1), h.rc.kept (grown_setCell W ⟨gb, 0, none⟩ _) (.inr h.n2), h.src.set _ _ (by dsimp only; omega), set_nil h.bel _ _ (by omega), hlt, h.n1, h.n2, h.ap⟩
theorem SmS.pushOf (h : SmS b bs N w gr gr2 ga gb base W x A c A2 c2 y B d B2 d2) {z : Int} {A' : Option Addr} {c' : Nat}
    (hown : W5.ownsRow base 2 1 (.slice A' (y.of.length + 1) c') (y.of.length + 1) (y.of.map (Value.int .i64) ++ [.int .i64 z])) (hg : W.grownBy W5 (Value.slice B y.of.length d).ownBlock)
    (hat : (Value.slice A' (y.of.length + 1) c').ownBlock = (Value.slice B y.of.length d).ownBlock ∨ (Value.slice A' (y.of.length + 1) c').ownBlock = some W.heap.size) :
    SmS b bs N w gr gr2 ga gb base (W5.setCell ⟨gb, 1, none⟩ (.slice A' (y.of.length + 1) c')) x A c A2 c2 ⟨y.z, y.of ++ [z], y.ch⟩ A' c' B2 d2 := by
  have hlt := h.lt
  have hbl := h.zb.lt
  have hbs := h.bel.size
  have hl : (y.of ++ [z]).length = y.of.length + 1 := by simp
  have hrow : ∀ g, (Value.slice B y.of.length d).ownBlock = some g → base ≤ g := fun g e => (h.ro.lt g e).1
  have hne : (Value.slice A' (y.of.length + 1) c').ownBlock ≠ some gb := by
    rcases hat with e | e
    · rw [e]; exact h.n1
    · rw [e]; intro e2; have := Option.some.inj e2; omega
  have old : ∀ g, g < W.heap.size → g < base → W5.heap[g]? = W.heap[g]? := fun g h1 h2 => hg.block g h1 (fun e => by have := hrow g e.symm; omega)
  have hzb : BoxN W5 gb #[.int .i64 y.z, .slice B y.of.length d, .slice B2 y.ch.length d2] 47 := (hg.block gb hbl (fun e => h.n1 e.symm)).trans h.zb
  refine ⟨BoxN.other ((old gr h.r.lt (by omega)).trans h.r) (by omega) _ _, BoxN.other ((old gr2 h.r2.lt (by omega)).trans h.r2) (by omega) _ _, BoxN.other ((old ga h.za.lt (by omega)).trans h.za) (by omega) _ _, by rw [hl]; exact hzb.set 1 _, ?_, ?_, h.xl1, h.xl2, ?_, ?_, ?_, ?_, hlt, by rw [hl]; exact hne, h.n2, ?_⟩
  · exact (h.xo.kept hg (kept_or fun g e e2 => by have := h.xl1 g e; have := hrow g e2; omega)).kept (grown_setCell W5 ⟨gb, 1, none⟩ (.slice A' (y.of.length + 1) c')) (.inr fun e => by have := h.xl1 _ e; (try dsimp only at this); omega)
  · exact (h.xc.kept hg (kept_or fun g e e2 => by have := h.xl2 g e; have := hrow g e2; omega)).kept (grown_setCell W5 ⟨gb, 1, none⟩ (.slice A' (y.of.length + 1) c')) (.inr fun e => by have := h.xl2 _ e; (try dsimp only at this); omega)
  · have h2 := hown.kept (grown_setCell W5 ⟨gb, 1, none⟩ (.slice A' (y.of.length + 1) c')) (.inr hne)
    rw [hl, List.map_append]
    exact h2
  · exact (h.rc.kept hg (ap_orZ h.ap).1).kept (grown_setCell W5 ⟨gb, 1, none⟩ (.slice A' (y.of.length + 1) c')) (.inr h.n2)
  · exact (h.src.grown hg (fun g e => by have := hrow g e; omega)).set ⟨gb, 1, none⟩ _ (by dsimp only; omega)
  · exact set_nil (h.bel.grown hg hbs (fun g e => by have := hrow g e; omega)) _ _ (by omega)
  · rw [hl]; exact ap_keepZ h.ap hat (fun g e => (h.rc.lt g e).2)
theorem SmS.pushCh (h : SmS b bs N w gr gr2 ga gb base W x A c A2 c2 y B d B2 d2) {t : T3} {A' : Option Addr} {c' : Nat}
    (hown : W5.ownsRow base 41 3 (.slice A' (y.ch.length + 1) c') (y.ch.length + 1) (y.ch.flatMap T3.cells ++ [.int .i64 t.a, .int .i64 t.b, .int .i64 t.c])) (hg : W.grownBy W5 (Value.slice B2 y.ch.length d2).ownBlock)
    (hat : (Value.slice A' (y.ch.length + 1) c').ownBlock = (Value.slice B2 y.ch.length d2).ownBlock ∨ (Value.slice A' (y.ch.length + 1) c').ownBlock = some W.heap.size) :
    SmS b bs N w gr gr2 ga gb base (W5.setCell ⟨gb, 2, none⟩ (.slice A' (y.ch.length + 1) c')) x A c A2 c2 ⟨y.z, y.of, y.ch ++ [t]⟩ B d A' c' := by
  have hlt := h.lt
  have hbl := h.zb.lt
  have hbs := h.bel.size
  have hl : (y.ch ++ [t]).length = y.ch.length + 1 := by simp
  have hrow : ∀ g, (Value.slice B2 y.ch.length d2).ownBlock = some g → base ≤ g := fun g e => (h.rc.lt g e).1
  have hne : (Value.slice A' (y.ch.length + 1) c').ownBlock ≠ some gb := by
    rcases hat with e | e
    · rw [e]; exact h.n2
    · rw [e]; intro e2; have := Option.some.inj e2; omega
  have old : ∀ g, g < W.heap.size → g < base → W5.heap[g]? = W.heap[g]? := fun g h1 h2 => hg.block g h1 (fun e => by have := hrow g e.symm; omega)
  have hzb : BoxN W5 gb #[.int .i64 y.z, .slice B y.of.length d, .slice B2 y.ch.length d2] 47 := (hg.block gb hbl (fun e => h.n2 e.symm)).trans h.zb
  have hap2 : ∀ g, (Value.slice B2 y.ch.length d2).ownBlock = some g → (Value.slice B y.of.length d).ownBlock ≠ some g := fun g e e2 => h.ap g e2 e
  refine ⟨BoxN.other ((old gr h.r.lt (by omega)).trans h.r) (by omega) _ _, BoxN.other ((old gr2 h.r2.lt (by omega)).trans h.r2) (by omega) _ _, BoxN.other ((old ga h.za.lt (by omega)).trans h.za) (by omega) _ _, by rw [hl]; exact hzb.set 2 _, ?_, ?_, h.xl1, h.xl2, ?_, ?_, ?_, ?_, hlt, h.n1, by rw [hl]; exact hne, ?_⟩
  · exact (h.xo.kept hg (kept_or fun g e e2 => by have := h.xl1 g e; have := hrow g e2; omega)).kept (grown_setCell W5 ⟨gb, 2, none⟩ (.slice A' (y.ch.length + 1) c')) (.inr fun e => by have := h.xl1 _ e; (try dsimp only at this); omega)
  · exact (h.xc.kept hg (kept_or fun g e e2 => by have := h.xl2 g e; have := hrow g e2; omega)).kept (grown_setCell W5 ⟨gb, 2, none⟩ (.slice A' (y.ch.length + 1) c')) (.inr fun e => by have := h.xl2 _ e; (try dsimp only at this); omega)
  · exact (h.ro.kept hg (ap_orZ h.ap).2).kept (grown_setCell W5 ⟨gb, 2, none⟩ (.slice A' (y.ch.length + 1) c')) (.inr h.n1)
  · have h2 := hown.kept (grown_setCell W5 ⟨gb, 2, none⟩ (.slice A' (y.ch.length + 1) c')) (.inr hne)
    rw [hl, List.flatMap_append]
    exact h2
  · exact (h.src.grown hg (fun g e => by have := hrow g e; omega)).set ⟨gb, 2, none⟩ _ (by dsimp only; omega)
  · exact set_nil (h.bel.grown hg hbs (fun g e => by have := hrow g e; omega)) _ _ (by omega)
  · rw [hl]; exact fun g e e2 => ap_keepZ hap2 hat (fun g e => (h.ro.lt g e).2) g e2 e
theorem SmS.bump {g2 : Nat} (h : SmS b bs N w gr gr2 ga gb base W x A c A2 c2 y B d (some ⟨g2, 0, none⟩) d2) {t : T3} (hk : y.ch[0]? = some t) (z : Int) :
    SmS b bs N w gr gr2 ga gb base (W.setCell ⟨g2, 2, none⟩ (.int .i64 z)) x A c A2 c2 ⟨y.z, y.of, y.ch.set 0 ⟨t.a, t.b, z⟩⟩ B d (some ⟨g2, 0, none⟩) d2 := by
  have hlt := h.lt
  have hgl := (h.rc.lt g2 rfl).1
  have hgne : g2 ≠ gb := fun e => h.n2 (by rw [← e]; rfl)
  have hne : (Value.slice B y.of.length d).ownBlock ≠ some g2 := fun e => h.ap g2 e rfl
  have hs := (h.rc.stored (0 * 3 + 2) (.int .i64 z)).1
  have hc : (y.ch.flatMap T3.cells).set (0 * 3 + 2) (.int .i64 z) = (y.ch.set 0 ⟨t.a, t.b, z⟩).flatMap T3.cells := flatMap_set T3.cells 3 (fun _ => rfl) y.ch 0 2 t ⟨t.a, t.b, z⟩ (.int .i64 z) hk (by omega) rfl
  have hl : (y.ch.set 0 (⟨t.a, t.b, z⟩ : T3)).length = y.ch.length := List.length_set
  refine ⟨h.r.other (by omega) _ _, h.r2.other (by omega) _ _, h.za.other (by omega) _ _, by rw [hl]; exact h.zb.other hgne _ _, h.xo.kept (grown_setCell W ⟨g2, 2, none⟩ _) (.inr fun e => by have := h.xl1 _ e; (try dsimp only at this); omega), h.xc.kept (grown_setCell W ⟨g2, 2, none⟩ _) (.inr fun e => by have := h.xl2 _ e; (try dsimp only at this); omega), h.xl1, h.xl2, h.ro.kept (grown_setCell W ⟨g2, 2, none⟩ _) (.inr hne), ?_, h.src.set _ _ (by dsimp only; omega), set_nil h.bel _ _ (by omega), hlt, h.n1, by rw [hl]; exact h.n2, by rw [hl]; exact h.ap⟩
  rw [hl, ← hc]
  exact hs
end
set_option maxRecDepth 100000 in
set_option maxHeartbeats 8000000 in
theorem drawSameZoned_any (bs : List Int) (A0 : Option Addr) (c0 : Nat) (w : World) (hbs : BsOk bs) (h1 : RdB w w.heap.size A0 bs) :
    Calls Tryd.prog 35 #[.slice A0 bs.length c0] w fun e w' => ∃ (x y : TZ) (A : Option Addr) (c : Nat) (A2 : Option Addr) (c2 : Nat) (B : Option Addr) (d : Nat) (B2 : Option Addr) (d2 : Nat), e = .returned (.tuple #[.agg #[.int .i64 x.z, .slice A x.of.length c, .slice A2 x.ch.length c2], .agg #[.int .i64 y.z, .slice B y.of.length d, .slice B2 y.ch.length d2]]) ∧ YBt x ∧ YBt y ∧ RdI w' w'.heap.size A x.of ∧ Rd3 w' w'.heap.size A2 x.ch ∧ RdI w' w'.heap.size B y.of ∧ Rd3 w' w'.heap.size B2 y.ch ∧ Below w.heap.size w w' := by
  obtain ⟨i0, hi0, hz0, hs0, hb0⟩ := info_parts int64_info
  obtain ⟨j0, hj0, hy0, ht0, hc0⟩ := info_parts Change_inf
  have hbA : Below w.heap.size w ((w.alloc (.cells #[.int .i64 0, .slice none 0 0, .slice none 0 0] 47)).alloc (.cells #[.int .i64 0, .slice none 0 0, .slice none 0 0] 47)) := ((Below.refl _ _).alloc (Nat.le_refl _) _).alloc (by simp) _
  have X0 := hide ((BoxN.new w #[.int .i64 0, .slice none 0 0, .slice none 0 0] 47).alloc (.cells #[.int .i64 0, .slice none 0 0, .slice none 0 0] 47))
  have hsA : (w.alloc (.cells #[.int .i64 0, .slice none 0 0, .slice none 0 0] 47)).heap.size = w.heap.size + 1 := by simp
  have Y0 : Hid (BoxN ((w.alloc (.cells #[.int .i64 0, .slice none 0 0, .slice none 0 0] 47)).alloc (.cells #[.int .i64 0, .slice none 0 0, .slice none 0 0] 47)) (w.heap.size + 1) #[.int .i64 0, .slice none 0 0, .slice none 0 0] 47) := hide (hsA ▸ BoxN.new (w.alloc (.cells #[.int .i64 0, .slice none 0 0, .slice none 0 0] 47)) #[.int .i64 0, .slice none 0 0, .slice none 0 0] 47)
  have hz0a : ((w.alloc (.cells #[.int .i64 0, .slice none 0 0, .slice none 0 0] 47)).alloc (.cells #[.int .i64 0, .slice none 0 0, .slice none 0 0] 47)).heap.size = w.heap.size + 1 + 1 := by simp
  have z0a := Nat.le_of_eq hz0a
  have z0b := Nat.le_of_eq hz0a.symm
  have HF := hide (l00From_any bs A0 c0 _ hbs.1 ((h1.below hbA).more hbA.size))
  have HBA := hide hbA
  clear h1 hbA hz0a hsA
  go_enter Tryd.func35, Tryd.ntmps35
  go_upto_region 1 with fail
  generalize (w.alloc (.cells #[.int .i64 0, .slice none 0 0, .slice none 0 0] 47)).alloc (.cells #[.int .i64 0, .slice none 0 0, .slice none 0 0] 47) = w0 at *
  have HBT := hide fun W (hW : SrcAt w0.heap.size bs 0 W) => drawZones_any w0.heap.size bs 0 W hbs (by omega) hW
  go_upto_region 3 with (first | (go_at_call 54; (with_reducible refine (HF.out).mono ?_); rintro e w1 ⟨rfl, hs1, hz1, hb1⟩; have HS1 := hide hs1; have hz1a := Nat.le_of_eq hz1; have hz1b := Nat.le_of_eq hz1.symm; have X1 := hide (X0.out.below hb1 (by omega)); have Y1 := hide (Y0.out.below hb1 (by omega)); have BW1 := hide (HBA.out.trans (hb1.mono HBA.out.size)); clear hs1 hb1 hz1) | (go_at_call 90; (with_reducible refine (HBT.out _ HS1.out).mono ?_); rintro e w2 ⟨x, A, c, A2, c2, rfl, hbt, ro, rc, ap, hs2, ho2⟩))
  have hz2 := ho2.size
  have HBX := hide hbt
  have HSX := hide hbt.yb
  have hxz := hbt.1
  have XR3 := hide ((X1.out.only ho2 (.inl (by omega))).alloc (.cells #[.int .i64 x.z, .slice A x.of.length c, .slice A2 x.ch.length c2] 47))
  have YR3 := hide ((Y1.out.only ho2 (.inl (by omega))).alloc (.cells #[.int .i64 x.z, .slice A x.of.length c, .slice A2 x.ch.length c2] 47))
  have BOX := hide (BoxN.new w2 #[.int .i64 x.z, .slice A x.of.length c, .slice A2 x.ch.length c2] 47)
  have L1 := hide (show ∀ g, (Value.slice A x.of.length c).ownBlock = some g → g < w2.heap.size from fun g e => (ro.lt g e).2)
  have L2 := hide (show ∀ g, (Value.slice A2 x.ch.length c2).ownBlock = some g → g < w2.heap.size from fun g e => (rc.lt g e).2)
  have RO3 := hide (ro.alloc (.cells #[.int .i64 x.z, .slice A x.of.length c, .slice A2 x.ch.length c2] 47))
  have RC3 := hide (rc.alloc (.cells #[.int .i64 x.z, .slice A x.of.length c, .slice A2 x.ch.length c2] 47))
  have BW3 := hide ((BW1.out.trans (ho2.below (B := w.heap.size) (by omega) BW1.out.size)).alloc (by have := BW1.out.size; omega) (.cells #[.int .i64 x.z, .slice A x.of.length c, .slice A2 x.ch.length c2] 47))
  have S3 := hide (hs2.alloc (.cells #[.int .i64 x.z, .slice A x.of.length c, .slice A2 x.ch.length c2] 47))
  have hz3 : w2.heap.size + 1 ≤ (w2.alloc (.cells #[.int .i64 x.z, .slice A x.of.length c, .slice A2 x.ch.length c2] 47)).heap.size := by simp
  have HOW := hide (l09Own_any x A c A2 c2 w2.heap.size (w2.alloc (.cells #[.int .i64 x.z, .slice A x.of.length c, .slice A2 x.ch.length c2] 47)) hbt.yb.small BOX.out (RdI.of_own RO3.out) (Rd3.of_own RC3.out))
  clear hbt ro rc ap hs2 ho2 X0 X1 Y0 Y1 HF HBA HBT HS1 BW1
  generalize w2.alloc (.cells #[.int .i64 x.z, .slice A x.of.length c, .slice A2 x.ch.length c2] 47) = w3 at *
  generalize w2.heap.size = ga at *
  go_upto_region 4 with (go_at_call 89; (with_reducible refine (HOW.out).mono ?_); rintro e w4 ⟨B, d, B2, d2, rfl, yo, yc, yap, b4⟩)
  have hz4 := b4.size
  have C5 : Hid (SmS w0.heap.size bs (0 + 200) w w.heap.size (w.heap.size + 1) ga w4.heap.size w3.heap.size (w4.alloc (.cells #[.int .i64 x.z, .slice B x.of.length d, .slice B2 x.ch.length d2] 47)) x A c A2 c2 x B d B2 d2) := by
    have k4 : Below w3.heap.size w3 (w4.alloc (.cells #[.int .i64 x.z, .slice B x.of.length d, .slice B2 x.ch.length d2] 47)) := b4.alloc hz4 _
    have o4 : Only (w0.heap.size) (w0.heap.size + 1) w3 (w4.alloc (.cells #[.int .i64 x.z, .slice B x.of.length d, .slice B2 x.ch.length d2] 47)) := only_of_below k4
    have hb1e : w0.heap.size + 1 = w1.heap.size := by omega
    exact hide ⟨XR3.out.below k4 XR3.out.lt, YR3.out.below k4 YR3.out.lt, BOX.out.below k4 BOX.out.lt, BoxN.new w4 _ _, by rw [hb1e]; exact row_only RO3.out o4 (by omega), by rw [hb1e]; exact row_only RC3.out o4 (by omega), L1.out, L2.out, yo.alloc _, yc.alloc _, S3.out.below k4 S3.out.lt, BW3.out.trans (k4.mono BW3.out.size), ⟨⟨Nat.le_refl _, by omega, by omega⟩, by omega, by omega, hz4⟩, fun e => by have := (yo.lt _ e).2; omega, fun e => by have := (yc.lt _ e).2; omega, yap⟩
  clear yo yc yap b4 XR3 YR3 BOX RO3 RC3 BW3 S3 HOW L1 L2
  generalize w4.alloc (.cells #[.int .i64 x.z, .slice B x.of.length d, .slice B2 x.ch.length d2] 47) = w5 at *
  generalize w4.heap.size = gb at *
  generalize w3.heap.size = bs3 at *
  have HP := hide fun M n W (hM : M ≤ 1099511000000) (hW : SrcAt w0.heap.size bs M W) => pick_any w0.heap.size bs M n W hbs hM hW
  go_upto_block 0 with (go_at_call 58; (with_reducible refine (HP.out (0 + 200) 5 _ (by omega) C5.out.src).mono ?_); rintro e w6 ⟨z, rfl, ⟨hz0', _, _⟩, hs6, ho6⟩)
  have C6 := hide (C5.out.only hs6 ho6)
  have hlt := C6.out.lt
  have hbs3 : bs3 ≤ w6.heap.size := by have := C6.out.zb.lt; omega
  clear hs6 ho6 C5
  go_cut [] (fun wx => ∃ (y : TZ) (B' : Option Addr) (d' : Nat) (B2' : Option Addr) (d2' : Nat), SmS w0.heap.size bs (0 + 200 + 2) w w.heap.size (w.heap.size + 1) ga gb bs3 wx x A c A2 c2 y B' d' B2' d2' ∧ YBt y)
  case first =>
    have hof := HBX.out.2.1.1
    have hcl := HBX.out.2.2.1
    by_cases e0 : z = 0
    · have hB0 : (z == 0) = true := by simp [e0]
      have E0 := hide e0
      have k0 := C6.out.zb.cell 0
      have n0 := C6.out.zb.fro 0
      have hw : IntKind.i64.wrap (x.z + 1) = x.z + 1 := by rw [IntKind.wrap_i64] <;> omega
      clear e0
      go_wp2_with fail
      go_meet
      exact ⟨⟨x.z + 1, x.of, x.ch⟩, B, d, B2, d2, C6.out.putZ (x.z + 1), ⟨by dsimp only; omega, HSX.out.2.1, HSX.out.2.2⟩⟩
    have hB0 : (z == 0) = false := by simp [e0]
    have E0 := hide e0
    clear e0
    by_cases e1 : z = 1
    · have hB1 : (z == 1) = true := by simp [e1]
      have E1 := hide e1
      clear e1
      have k1 := C6.out.zb.cell 1
      have C7 := hide (C6.out.far ((Below.refl _ _).alloc (Nat.le_refl _) (.cells #[.int .i64 0] 2)))
      have hrow := C7.out.ro
      have hbs7 : bs3 ≤ (w6.alloc (.cells #[.int .i64 0] 2)).heap.size := by simp; omega
      go_wp2_with (at_builtin; refine Hid.out ?_)
      refine hide ?_
      refine wp_app _ rfl _ _ 44 rfl bs3 2 i0 (.int .i64 0) 1 8 Tryd.underlying44 hi0 hz0 hs0 hb0 rfl (by decide) (.slice B x.of.length d) x.of.length (x.of.map (Value.int .i64)) rfl hrow _ _ 1 1 [.int .i64 0] rfl rfl (rd_new _ _ _ _ ?c1) (int_one _) ?c2 (by decide) hbs7 ?_
      case c1 => simp
      case c2 => omega
      intro v8 w8 hown8 hgrow8 hat8
      obtain ⟨A8, c8, rfl, _⟩ := own_shape hown8
      have hzb8 : BoxN w8 gb #[.int .i64 x.z, .slice B x.of.length d, .slice B2 x.ch.length d2] 47 := (hgrow8.block gb C7.out.zb.lt (fun e => C7.out.n1 e.symm)).trans C7.out.zb
      have C8 := hide (C7.out.pushOf hown8 hgrow8 hat8)
      have m1 := hzb8.cell 1
      have n1 := hzb8.fro 1
      clear hown8 hgrow8 hat8 hrow k1 hzb8 hbs7
      go_wp2_with fail
      go_meet
      exact ⟨_, A8, c8, B2, d2, C8.out, ⟨HSX.out.1, ⟨by rw [List.length_append, List.length_singleton]; omega, fun q hq => by
        rcases List.mem_append.1 hq with hq | hq
        · exact HSX.out.2.1.2 q hq
        · rw [List.mem_singleton] at hq; subst hq; omega⟩, HSX.out.2.2⟩⟩
    have hB1 : (z == 1) = false := by simp [e1]
    have E1 := hide e1
    clear e1
    by_cases e2 : z = 2
    · have hB2 : (z == 2) = true := by simp [e2]
      have E2 := hide e2
      clear e2
      have k2 := C6.out.zb.cell 2
      have C7 := hide (C6.out.far ((Below.refl _ _).alloc (Nat.le_refl _) (.cells #[.int .i64 0, .int .i64 0, .int .i64 0] 41)))
      have hrow := C7.out.rc
      have hbs7 : bs3 ≤ (w6.alloc (.cells #[.int .i64 0, .int .i64 0, .int .i64 0] 41)).heap.size := by simp; omega
      go_wp2_with (at_builtin; refine Hid.out ?_)
      refine hide ?_
      refine wp_app _ rfl _ _ 45 rfl bs3 41 j0 (.agg #[.int .i64 0, .int .i64 0, .int .i64 0]) 3 24 Tryd.underlying45 hj0 hy0 ht0 hc0 rfl (by decide) (.slice B2 x.ch.length d2) x.ch.length (x.ch.flatMap T3.cells) rfl hrow _ _ 1 1 [.int .i64 0, .int .i64 0, .int .i64 0] rfl rfl (rd_new _ _ _ _ ?c1) (by intro q hq; simp at hq; subst hq; rfl) ?c2 (by decide) hbs7 ?_
      case c1 => simp
      case c2 => omega
      intro v8 w8 hown8 hgrow8 hat8
      obtain ⟨A8, c8, rfl, _⟩ := own_shape hown8
      have hzb8 : BoxN w8 gb #[.int .i64 x.z, .slice B x.of.length d, .slice B2 x.ch.length d2] 47 := (hgrow8.block gb C7.out.zb.lt (fun e => C7.out.n2 e.symm)).trans C7.out.zb
      have C8 := hide (C7.out.pushCh (t := ⟨0, 0, 0⟩) hown8 hgrow8 hat8)
      have m2 := hzb8.cell 2
      have n2 := hzb8.fro 2
      clear hown8 hgrow8 hat8 hrow k2 hzb8 hbs7
      go_wp2_with fail
      go_meet
      exact ⟨_, B, d, A8, c8, C8.out, ⟨HSX.out.1, HSX.out.2.1, by rw [List.length_append, List.length_singleton]; omega, fun q hq => by
        rcases List.mem_append.1 hq with hq | hq
        · exact HSX.out.2.2.2 q hq
        · rw [List.mem_singleton] at hq; subst hq; dsimp only; omega⟩⟩
    have hB2 : (z == 2) = false := by simp [e2]
    have E2 := hide e2
    clear e2
    by_cases e3 : z = 3
    · have hB3 : (z == 3) = true := by simp [e3]
      have E3 := hide e3
      clear e3
      have k2 := C6.out.zb.cell 2
      by_cases hl : 0 < x.ch.length
      case neg =>
        have hBl : decide ((0 : Int) < (x.ch.length : Int)) = false := decide_eq_false (by omega)
        go_wp2_with fail
        go_meet
        exact ⟨x, B, d, B2, d2, C6.out, HSX.out⟩
      have hli : (0 : Int) < (x.ch.length : Int) := by omega
      obtain ⟨g2, rfl, hg2, _⟩ := own_posN' C6.out.rc hl
      obtain ⟨u, hu⟩ : ∃ u, x.ch[0]? = some u := ⟨_, List.getElem?_eq_getElem hl⟩
      have HU := hide (HBX.out.2.2.2 u (List.mem_of_getElem? hu))
      have huc := HU.out
      unfold CDr at huc
      have a2 : w6.cell? ⟨g2, 2, none⟩ = some (.int .i64 u.c) := (C6.out.rc.cellAt (0 * 3 + 2) (by omega)).trans (flatMap_atZ (q := 2) hu (by omega))
      have f2 : w6.frozen? ⟨g2, 2, none⟩ = false := C6.out.rc.frozenAt 2
      have C7 := hide (C6.out.bump hu (u.c + 1))
      have HUU := hide hu
      have hw : IntKind.i64.wrap (u.c + 1) = u.c + 1 := by rw [IntKind.wrap_i64] <;> omega
      clear hu huc
      go_wp2_with fail
      go_meet
      refine ⟨_, B, d, _, d2, C7.out, ⟨HSX.out.1, HSX.out.2.1, by rw [List.length_set]; exact HSX.out.2.2.1, fun q hq => ?_⟩⟩
      rcases List.mem_or_eq_of_mem_set hq with hq | hq
      · exact HSX.out.2.2.2 q hq
      · subst hq
        have := HU.out
        unfold CDr at this
        dsimp only; omega
    · have hB3 : (z == 3) = false := by simp [e3]
      have E3 := hide e3
      clear e3
      go_wp2_with fail
      go_meet
      exact ⟨x, B, d, B2, d2, C6.out, HSX.out⟩
  case rest =>
    obtain ⟨y, B', d', B2', d2', hc7, hyb⟩ := hcut
    have C7 := hide (hc7.far (Below.refl _ _).drew)
    have HYB := hide hyb
    clear hc7 hyb C6
    go_wp2_with fail
    have e0 : wc.drew.cell? ⟨ga, 0, none⟩ = some (.int .i64 x.z) := C7.out.za.cell 0
    have e1 : wc.drew.cell? ⟨ga, 1, none⟩ = some (.slice A x.of.length c) := C7.out.za.cell 1
    have e2 : wc.drew.cell? ⟨ga, 2, none⟩ = some (.slice A2 x.ch.length c2) := C7.out.za.cell 2
    have e3 : wc.drew.cell? ⟨gb, 0, none⟩ = some (.int .i64 y.z) := C7.out.zb.cell 0
    have e4 : wc.drew.cell? ⟨gb, 1, none⟩ = some (.slice B' y.of.length d') := C7.out.zb.cell 1
    have e5 : wc.drew.cell? ⟨gb, 2, none⟩ = some (.slice B2' y.ch.length d2') := C7.out.zb.cell 2
    refine wp_region_held_drew (S := fun W => W.cell? ⟨ga, 0, none⟩ = some (.int .i64 x.z) ∧ W.cell? ⟨ga, 1, none⟩ = some (.slice A x.of.length c) ∧ W.cell? ⟨ga, 2, none⟩ = some (.slice A2 x.ch.length c2) ∧ W.cell? ⟨gb, 0, none⟩ = some (.int .i64 y.z) ∧ W.cell? ⟨gb, 1, none⟩ = some (.slice B' y.of.length d') ∧ W.cell? ⟨gb, 2, none⟩ = some (.slice B2' y.ch.length d2')) (by kernel_rfl) (⟨e0, e1, e2, e3, e4, e5⟩) (fun hHeld => ?_)
    generalize wc.drew = wd at *
    have pT1 := hide (C7.out.r.set 0 (.int .i64 x.z))
    have pT2 := hide (pT1.out.set 1 (.slice A x.of.length c))
    have pT3 := hide (pT2.out.set 2 (.slice A2 x.ch.length c2))
    have pm0 : wd.cell? ⟨w.heap.size, 0, none⟩ = some (.int .i64 0) := C7.out.r.cell 0
    have pn0 := C7.out.r.fro 0
    have pm1 : (wd.setCell ⟨w.heap.size, 0, none⟩ (.int .i64 x.z)).cell? ⟨w.heap.size, 1, none⟩ = some (.slice none 0 0) := pT1.out.cell 1
    have pn1 := pT1.out.fro 1
    have pm2 : ((wd.setCell ⟨w.heap.size, 0, none⟩ (.int .i64 x.z)).setCell ⟨w.heap.size, 1, none⟩ (.slice A x.of.length c)).cell? ⟨w.heap.size, 2, none⟩ = some (.slice none 0 0) := pT2.out.cell 2
    have pn2 := pT2.out.fro 2
    have pq0 : (((wd.setCell ⟨w.heap.size, 0, none⟩ (.int .i64 x.z)).setCell ⟨w.heap.size, 1, none⟩ (.slice A x.of.length c)).setCell ⟨w.heap.size, 2, none⟩ (.slice A2 x.ch.length c2)).cell? ⟨w.heap.size, 0, none⟩ = some (.int .i64 x.z) := pT3.out.cell 0
    have pq1 : (((wd.setCell ⟨w.heap.size, 0, none⟩ (.int .i64 x.z)).setCell ⟨w.heap.size, 1, none⟩ (.slice A x.of.length c)).setCell ⟨w.heap.size, 2, none⟩ (.slice A2 x.ch.length c2)).cell? ⟨w.heap.size, 1, none⟩ = some (.slice A x.of.length c) := pT3.out.cell 1
    have pq2 : (((wd.setCell ⟨w.heap.size, 0, none⟩ (.int .i64 x.z)).setCell ⟨w.heap.size, 1, none⟩ (.slice A x.of.length c)).setCell ⟨w.heap.size, 2, none⟩ (.slice A2 x.ch.length c2)).cell? ⟨w.heap.size, 2, none⟩ = some (.slice A2 x.ch.length c2) := pT3.out.cell 2
    have ZA := hide (((C7.out.za.other (b' := w.heap.size) (by omega) 0 (.int .i64 x.z)).other (b' := w.heap.size) (by omega) 1 (.slice A x.of.length c)).other (b' := w.heap.size) (by omega) 2 (.slice A2 x.ch.length c2))
    have CA := hide (((C7.out.zb.other (b' := w.heap.size) (by omega) 0 (.int .i64 x.z)).other (b' := w.heap.size) (by omega) 1 (.slice A x.of.length c)).other (b' := w.heap.size) (by omega) 2 (.slice A2 x.ch.length c2))
    have RA := hide (((C7.out.r2.other (b' := w.heap.size) (by omega) 0 (.int .i64 x.z)).other (b' := w.heap.size) (by omega) 1 (.slice A x.of.length c)).other (b' := w.heap.size) (by omega) 2 (.slice A2 x.ch.length c2))
    have qT1 := hide (RA.out.set 0 (.int .i64 y.z))
    have qT2 := hide (qT1.out.set 1 (.slice B' y.of.length d'))
    have qT3 := hide (qT2.out.set 2 (.slice B2' y.ch.length d2'))
    have qm0 : (((wd.setCell ⟨w.heap.size, 0, none⟩ (.int .i64 x.z)).setCell ⟨w.heap.size, 1, none⟩ (.slice A x.of.length c)).setCell ⟨w.heap.size, 2, none⟩ (.slice A2 x.ch.length c2)).cell? ⟨w.heap.size + 1, 0, none⟩ = some (.int .i64 0) := RA.out.cell 0
    have qn0 := RA.out.fro 0
    have qm1 : ((((wd.setCell ⟨w.heap.size, 0, none⟩ (.int .i64 x.z)).setCell ⟨w.heap.size, 1, none⟩ (.slice A x.of.length c)).setCell ⟨w.heap.size, 2, none⟩ (.slice A2 x.ch.length c2)).setCell ⟨w.heap.size + 1, 0, none⟩ (.int .i64 y.z)).cell? ⟨w.heap.size + 1, 1, none⟩ = some (.slice none 0 0) := qT1.out.cell 1
    have qn1 := qT1.out.fro 1
    have qm2 : (((((wd.setCell ⟨w.heap.size, 0, none⟩ (.int .i64 x.z)).setCell ⟨w.heap.size, 1, none⟩ (.slice A x.of.length c)).setCell ⟨w.heap.size, 2, none⟩ (.slice A2 x.ch.length c2)).setCell ⟨w.heap.size + 1, 0, none⟩ (.int .i64 y.z)).setCell ⟨w.heap.size + 1, 1, none⟩ (.slice B' y.of.length d')).cell? ⟨w.heap.size + 1, 2, none⟩ = some (.slice none 0 0) := qT2.out.cell 2
    have qn2 := qT2.out.fro 2
    have qq0 : ((((((wd.setCell ⟨w.heap.size, 0, none⟩ (.int .i64 x.z)).setCell ⟨w.heap.size, 1, none⟩ (.slice A x.of.length c)).setCell ⟨w.heap.size, 2, none⟩ (.slice A2 x.ch.length c2)).setCell ⟨w.heap.size + 1, 0, none⟩ (.int .i64 y.z)).setCell ⟨w.heap.size + 1, 1, none⟩ (.slice B' y.of.length d')).setCell ⟨w.heap.size + 1, 2, none⟩ (.slice B2' y.ch.length d2')).cell? ⟨w.heap.size + 1, 0, none⟩ = some (.int .i64 y.z) := qT3.out.cell 0
    have qq1 : ((((((wd.setCell ⟨w.heap.size, 0, none⟩ (.int .i64 x.z)).setCell ⟨w.heap.size, 1, none⟩ (.slice A x.of.length c)).setCell ⟨w.heap.size, 2, none⟩ (.slice A2 x.ch.length c2)).setCell ⟨w.heap.size + 1, 0, none⟩ (.int .i64 y.z)).setCell ⟨w.heap.size + 1, 1, none⟩ (.slice B' y.of.length d')).setCell ⟨w.heap.size + 1, 2, none⟩ (.slice B2' y.ch.length d2')).cell? ⟨w.heap.size + 1, 1, none⟩ = some (.slice B' y.of.length d') := qT3.out.cell 1
    have qq2 : ((((((wd.setCell ⟨w.heap.size, 0, none⟩ (.int .i64 x.z)).setCell ⟨w.heap.size, 1, none⟩ (.slice A x.of.length c)).setCell ⟨w.heap.size, 2, none⟩ (.slice A2 x.ch.length c2)).setCell ⟨w.heap.size + 1, 0, none⟩ (.int .i64 y.z)).setCell ⟨w.heap.size + 1, 1, none⟩ (.slice B' y.of.length d')).setCell ⟨w.heap.size + 1, 2, none⟩ (.slice B2' y.ch.length d2')).cell? ⟨w.heap.size + 1, 2, none⟩ = some (.slice B2' y.ch.length d2') := qT3.out.cell 2
    have ZB := hide (((ZA.out.other (b' := w.heap.size + 1) (by omega) 0 (.int .i64 y.z)).other (b' := w.heap.size + 1) (by omega) 1 (.slice B' y.of.length d')).other (b' := w.heap.size + 1) (by omega) 2 (.slice B2' y.ch.length d2'))
    have CB := hide (((CA.out.other (b' := w.heap.size + 1) (by omega) 0 (.int .i64 y.z)).other (b' := w.heap.size + 1) (by omega) 1 (.slice B' y.of.length d')).other (b' := w.heap.size + 1) (by omega) 2 (.slice B2' y.ch.length d2'))
    have RB := hide (((pT3.out.other (b' := w.heap.size + 1) (by omega) 0 (.int .i64 y.z)).other (b' := w.heap.size + 1) (by omega) 1 (.slice B' y.of.length d')).other (b' := w.heap.size + 1) (by omega) 2 (.slice B2' y.ch.length d2'))
    have u0 := RB.out.cell 0
    have u1 := RB.out.cell 1
    have u2 := RB.out.cell 2
    refine wpAnyH_take (i := 0) (v := ?_) rfl (by kernel_rfl) (by kernel_rfl) (by kernel_rfl) (fun _ _ _ h => h) (Or.inl ⟨by rfl, ?_⟩) (by assumption) ?_
    rotate_left 1
    · (intro w hSw; (try dsimp only at hSw); go_simp; try with_reducible rfl)
    try simp only [Act.put, List.getElem_toArray, List.getElem_cons_succ, List.getElem_cons_zero, List.setIfInBounds_toArray, List.set_cons_zero, List.set_cons_succ]
    refine wpAnyH_take (i := 1) (v := ?_) rfl (by kernel_rfl) (by kernel_rfl) (by kernel_rfl) (fun _ _ _ h => h) (Or.inl ⟨by rfl, ?_⟩) (by assumption) ?_
    rotate_left 1
    · (intro w hSw; (try dsimp only at hSw); go_simp; try with_reducible rfl)
    try simp only [Act.put, List.getElem_toArray, List.getElem_cons_succ, List.getElem_cons_zero, List.setIfInBounds_toArray, List.set_cons_zero, List.set_cons_succ]
    refine wpAnyH_ready (rs := [2]) (by kernel_rfl) (by simp) ?_
    refine AllReadyH.cons rfl (fun K hK => ?_) AllReadyH.nil
    try simp only [Act.put, List.getElem_toArray, List.getElem_cons_succ, List.getElem_cons_zero, List.setIfInBounds_toArray, List.set_cons_zero, List.set_cons_succ]
    go_simp
    refine hK.out _ _ (⟨(ZA.out.cell 0).trans rfl, (ZA.out.cell 1).trans rfl, (ZA.out.cell 2).trans rfl, (CA.out.cell 0).trans rfl, (CA.out.cell 1).trans rfl, (CA.out.cell 2).trans rfl⟩) (fun hHeld => ?_)
    clear hK K
    try simp only [Act.put, List.getElem_toArray, List.getElem_cons_succ, List.getElem_cons_zero, List.setIfInBounds_toArray, List.set_cons_zero, List.set_cons_succ]
    refine wpAnyH_ready (rs := [3]) (by kernel_rfl) (by simp) ?_
    refine AllReadyH.cons rfl (fun K hK => ?_) AllReadyH.nil
    try simp only [Act.put, List.getElem_toArray, List.getElem_cons_succ, List.getElem_cons_zero, List.setIfInBounds_toArray, List.set_cons_zero, List.set_cons_succ]
    go_simp
    refine hK.out _ _ (⟨(ZB.out.cell 0).trans rfl, (ZB.out.cell 1).trans rfl, (ZB.out.cell 2).trans rfl, (CB.out.cell 0).trans rfl, (CB.out.cell 1).trans rfl, (CB.out.cell 2).trans rfl⟩) (fun hHeld => ?_)
    clear hK K
    try simp only [Act.put, List.getElem_toArray, List.getElem_cons_succ, List.getElem_cons_zero, List.setIfInBounds_toArray, List.set_cons_zero, List.set_cons_succ]
    refine wpAnyH_done (by kernel_rfl) ?_ _
    go_wp2_with fail
    have hx1 := C7.out.xo
    have hx2 := C7.out.xc
    have hy1 := C7.out.ro
    have hy2 := C7.out.rc
    have q1 := hx1.lt
    have q2 := hx2.lt
    have q3 := hy1.lt
    have q4 := hy2.lt
    replace hx1 := hx1.kept (grown_setCell _ ⟨w.heap.size, 0, none⟩ (.int .i64 x.z)) (.inr fun e => by have := (q1 _ e).1; (try dsimp only at this); omega)
    replace hx1 := hx1.kept (grown_setCell _ ⟨w.heap.size, 1, none⟩ (.slice A x.of.length c)) (.inr fun e => by have := (q1 _ e).1; (try dsimp only at this); omega)
    replace hx1 := hx1.kept (grown_setCell _ ⟨w.heap.size, 2, none⟩ (.slice A2 x.ch.length c2)) (.inr fun e => by have := (q1 _ e).1; (try dsimp only at this); omega)
    replace hx1 := hx1.kept (grown_setCell _ ⟨w.heap.size + 1, 0, none⟩ (.int .i64 y.z)) (.inr fun e => by have := (q1 _ e).1; (try dsimp only at this); omega)
    replace hx1 := hx1.kept (grown_setCell _ ⟨w.heap.size + 1, 1, none⟩ (.slice B' y.of.length d')) (.inr fun e => by have := (q1 _ e).1; (try dsimp only at this); omega)
    replace hx1 := hx1.kept (grown_setCell _ ⟨w.heap.size + 1, 2, none⟩ (.slice B2' y.ch.length d2')) (.inr fun e => by have := (q1 _ e).1; (try dsimp only at this); omega)
    replace hx2 := hx2.kept (grown_setCell _ ⟨w.heap.size, 0, none⟩ (.int .i64 x.z)) (.inr fun e => by have := (q2 _ e).1; (try dsimp only at this); omega)
    replace hx2 := hx2.kept (grown_setCell _ ⟨w.heap.size, 1, none⟩ (.slice A x.of.length c)) (.inr fun e => by have := (q2 _ e).1; (try dsimp only at this); omega)
    replace hx2 := hx2.kept (grown_setCell _ ⟨w.heap.size, 2, none⟩ (.slice A2 x.ch.length c2)) (.inr fun e => by have := (q2 _ e).1; (try dsimp only at this); omega)
    replace hx2 := hx2.kept (grown_setCell _ ⟨w.heap.size + 1, 0, none⟩ (.int .i64 y.z)) (.inr fun e => by have := (q2 _ e).1; (try dsimp only at this); omega)
    replace hx2 := hx2.kept (grown_setCell _ ⟨w.heap.size + 1, 1, none⟩ (.slice B' y.of.length d')) (.inr fun e => by have := (q2 _ e).1; (try dsimp only at this); omega)
    replace hx2 := hx2.kept (grown_setCell _ ⟨w.heap.size + 1, 2, none⟩ (.slice B2' y.ch.length d2')) (.inr fun e => by have := (q2 _ e).1; (try dsimp only at this); omega)
    replace hy1 := hy1.kept (grown_setCell _ ⟨w.heap.size, 0, none⟩ (.int .i64 x.z)) (.inr fun e => by have := (q3 _ e).1; (try dsimp only at this); omega)
    replace hy1 := hy1.kept (grown_setCell _ ⟨w.heap.size, 1, none⟩ (.slice A x.of.length c)) (.inr fun e => by have := (q3 _ e).1; (try dsimp only at this); omega)
    replace hy1 := hy1.kept (grown_setCell _ ⟨w.heap.size, 2, none⟩ (.slice A2 x.ch.length c2)) (.inr fun e => by have := (q3 _ e).1; (try dsimp only at this); omega)
    replace hy1 := hy1.kept (grown_setCell _ ⟨w.heap.size + 1, 0, none⟩ (.int .i64 y.z)) (.inr fun e => by have := (q3 _ e).1; (try dsimp only at this); omega)
    replace hy1 := hy1.kept (grown_setCell _ ⟨w.heap.size + 1, 1, none⟩ (.slice B' y.of.length d')) (.inr fun e => by have := (q3 _ e).1; (try dsimp only at this); omega)
    replace hy1 := hy1.kept (grown_setCell _ ⟨w.heap.size + 1, 2, none⟩ (.slice B2' y.ch.length d2')) (.inr fun e => by have := (q3 _ e).1; (try dsimp only at this); omega)
    replace hy2 := hy2.kept (grown_setCell _ ⟨w.heap.size, 0, none⟩ (.int .i64 x.z)) (.inr fun e => by have := (q4 _ e).1; (try dsimp only at this); omega)
    replace hy2 := hy2.kept (grown_setCell _ ⟨w.heap.size, 1, none⟩ (.slice A x.of.length c)) (.inr fun e => by have := (q4 _ e).1; (try dsimp only at this); omega)
    replace hy2 := hy2.kept (grown_setCell _ ⟨w.heap.size, 2, none⟩ (.slice A2 x.ch.length c2)) (.inr fun e => by have := (q4 _ e).1; (try dsimp only at this); omega)
    replace hy2 := hy2.kept (grown_setCell _ ⟨w.heap.size + 1, 0, none⟩ (.int .i64 y.z)) (.inr fun e => by have := (q4 _ e).1; (try dsimp only at this); omega)
    replace hy2 := hy2.kept (grown_setCell _ ⟨w.heap.size + 1, 1, none⟩ (.slice B' y.of.length d')) (.inr fun e => by have := (q4 _ e).1; (try dsimp only at this); omega)
    replace hy2 := hy2.kept (grown_setCell _ ⟨w.heap.size + 1, 2, none⟩ (.slice B2' y.ch.length d2')) (.inr fun e => by have := (q4 _ e).1; (try dsimp only at this); omega)
    refine bodyPost_ret (v := .tuple #[.agg #[.int .i64 x.z, .slice A x.of.length c, .slice A2 x.ch.length c2], .agg #[.int .i64 y.z, .slice B' y.of.length d', .slice B2' y.ch.length d2']]) (by simp [results, Tryd.results35, go_sem, u0, u1, u2, qq0, qq1, qq2]) rfl ⟨x, y, A, c, A2, c2, B', d', B2', d2', rfl, HSX.out, HYB.out, RdI.of_own hx1, Rd.of_own hx2, RdI.of_own hy1, Rd.of_own hy2, ?_⟩
    exact set_nil (set_nil (set_nil (set_nil (set_nil (set_nil C7.out.bel 0 _ (Nat.le_refl _)) 1 _ (Nat.le_refl _)) 2 _ (Nat.le_refl _)) 0 _ (by omega)) 1 _ (by omega)) 2 _ (by omega)
end Go.Proofs.YtofjnmeblmbnmaaDoor
