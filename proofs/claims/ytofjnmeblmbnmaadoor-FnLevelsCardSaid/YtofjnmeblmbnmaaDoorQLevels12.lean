/-
  Zones are drawn.
-/
import Derived.Test.YtofjnmeblmbnmaaDoorQLevels11
import Derived.Deep.RegionHeld3
import Derived.Deep.DeepCutAuto
namespace Go.Proofs.YtofjnmeblmbnmaaDoor
open Go.RowKit
theorem ap_orZ {b6 b8 : Option Nat} (ap : ∀ g, b6 = some g → b8 ≠ some g) : (b8 = none ∨ b8 ≠ b6) ∧ (b6 = none ∨ b6 ≠ b8) := by
  constructor
  · cases b8 with
    | none => exact .inl rfl
    | some g => exact .inr fun e => ap g e.symm rfl
  · cases b6 with
    | none => exact .inl rfl
    | some g => exact .inr fun e => ap g rfl e.symm
theorem ap_keepZ {b6 b8 b6' : Option Nat} {m6 : Nat} (ap : ∀ g, b6 = some g → b8 ≠ some g) (h6 : b6' = b6 ∨ b6' = some m6) (l8 : ∀ g, b8 = some g → g < m6) : ∀ g, b6' = some g → b8 ≠ some g := fun g e e2 => by
  rcases h6 with h6 | h6
  · rw [h6] at e; exact ap g e e2
  · rw [h6] at e; have := l8 g e2; have := Option.some.inj e; omega
/-- Zones while they are drawn: their box, their rows, the result's box. -/
structure ZSt (b : Nat) (bs : List Int) (N : Int) (w0 : World) (gz : Nat) (w : World) (x : TZ) (A : Option Addr) (c : Nat) (A2 : Option Addr) (c2 : Nat) : Prop where
  box : BoxN w gz #[.int .i64 x.z, .slice A x.of.length c, .slice A2 x.ch.length c2] 47
  ro : w.ownsRow (w0.heap.size + 1) 2 1 (.slice A x.of.length c) x.of.length (x.of.map (Value.int .i64))
  rc : w.ownsRow (w0.heap.size + 1) 41 3 (.slice A2 x.ch.length c2) x.ch.length (x.ch.flatMap T3.cells)
  ap : ∀ g, (Value.slice A x.of.length c).ownBlock = some g → (Value.slice A2 x.ch.length c2).ownBlock ≠ some g
  nz : (Value.slice A x.of.length c).ownBlock ≠ some gz ∧ (Value.slice A2 x.ch.length c2).ownBlock ≠ some gz
  res : BoxN w w0.heap.size #[.int .i64 0, .slice none 0 0, .slice none 0 0] 47
  src : SrcAt b bs N w
  onl : Only b (b + 1) w0 w
  gzl : w0.heap.size < gz
section
variable {b : Nat} {bs : List Int} {N N' : Int} {w0 : World} {gz : Nat} {w w' w5 : World} {x : TZ} {A : Option Addr} {c : Nat} {A2 : Option Addr} {c2 : Nat}
theorem ZSt.lt (h : ZSt b bs N w0 gz w x A c A2 c2) : gz < w.heap.size := h.box.lt
theorem ZSt.only (h : ZSt b bs N w0 gz w x A c A2 c2) (hb : b < w0.heap.size) (k : Only b (b + 1) w w') (hs : SrcAt b bs N' w') : ZSt b bs N' w0 gz w' x A c A2 c2 :=
  ⟨h.box.only k (.inr (by have := h.gzl; omega)), row_only h.ro k (by omega), row_only h.rc k (by omega), h.ap, h.nz, h.res.only k (.inr (by omega)), hs, only_trans h.onl k, h.gzl⟩
theorem ZSt.drew (h : ZSt b bs N w0 gz w x A c A2 c2) : ZSt b bs N w0 gz w.drew x A c A2 c2 :=
  ⟨h.box, h.ro, h.rc, h.ap, h.nz, h.res, h.src.below (B := b + 1) (Below.refl _ _).drew (Nat.lt_succ_self b), only_trans h.onl (only_of_below (Below.refl _ w).drew), h.gzl⟩
theorem ZSt.more (h : ZSt b bs N w0 gz w x A c A2 c2) (hN : N ≤ N') : ZSt b bs N' w0 gz w x A c A2 c2 := ⟨h.box, h.ro, h.rc, h.ap, h.nz, h.res, h.src.more hN, h.onl, h.gzl⟩
theorem ZSt.alloc (h : ZSt b bs N w0 gz w x A c A2 c2) (o : Obj) : ZSt b bs N w0 gz (w.alloc o) x A c A2 c2 :=
  ⟨h.box.alloc o, h.ro.alloc o, h.rc.alloc o, h.ap, h.nz, h.res.alloc o, h.src.alloc o, only_alloc h.onl o, h.gzl⟩
/-- A zone more: behind an append and the store of the new slice. -/
theorem ZSt.pushOf (h : ZSt b bs N w0 gz w x A c A2 c2) (hb : b < w0.heap.size) {z : Int} {A' : Option Addr} {c' : Nat}
    (hown : w5.ownsRow (w0.heap.size + 1) 2 1 (.slice A' (x.of.length + 1) c') (x.of.length + 1) (x.of.map (Value.int .i64) ++ [.int .i64 z])) (hg : w.grownBy w5 (Value.slice A x.of.length c).ownBlock)
    (hat : (Value.slice A' (x.of.length + 1) c').ownBlock = (Value.slice A x.of.length c).ownBlock ∨ (Value.slice A' (x.of.length + 1) c').ownBlock = some w.heap.size) :
    ZSt b bs N w0 gz (w5.setCell ⟨gz, 1, none⟩ (.slice A' (x.of.length + 1) c')) ⟨x.z, x.of ++ [z], x.ch⟩ A' c' A2 c2 := by
  have hgz := h.gzl
  have hlt := h.lt
  have hl : (x.of ++ [z]).length = x.of.length + 1 := by simp
  have hne : (Value.slice A' (x.of.length + 1) c').ownBlock ≠ some gz := by
    rcases hat with e | e
    · rw [e]; exact h.nz.1
    · rw [e]; intro e2; have := Option.some.inj e2; omega
  have hbx : BoxN w5 gz #[.int .i64 x.z, .slice A x.of.length c, .slice A2 x.ch.length c2] 47 := (hg.block gz hlt (fun e => h.nz.1 e.symm)).trans h.box
  have hrs : BoxN w5 w0.heap.size #[.int .i64 0, .slice none 0 0, .slice none 0 0] 47 := (hg.block _ h.res.lt (fun e => by have := (h.ro.lt _ e.symm).1; omega)).trans h.res
  refine ⟨by rw [hl]; exact hbx.set 1 _, ?_, ?_, ?_, ⟨by rw [hl]; exact hne, h.nz.2⟩, hrs.other (by omega) 1 _, ?_, ?_, hgz⟩
  · have h2 := hown.kept (grown_setCell w5 ⟨gz, 1, none⟩ (.slice A' (x.of.length + 1) c')) (.inr hne)
    rw [hl, List.map_append]
    exact h2
  · exact (h.rc.kept hg (ap_orZ h.ap).1).kept (grown_setCell w5 ⟨gz, 1, none⟩ (.slice A' (x.of.length + 1) c')) (.inr h.nz.2)
  · rw [hl]; exact ap_keepZ h.ap hat (fun g e => (h.rc.lt g e).2)
  · exact (h.src.grown hg (fun g e => by have := (h.ro.lt g e).1; omega)).set ⟨gz, 1, none⟩ _ (by dsimp only; omega)
  · exact only_setNew (only_app h.onl h.ro hg (by omega)) ⟨gz, 1, none⟩ _ (by dsimp only; omega)
/-- A store into another box. -/
theorem ZSt.setO (h : ZSt b bs N w0 gz w x A c A2 c2) (hb : b < w0.heap.size) {g : Nat} (hg : w0.heap.size < g) (hgz : g ≠ gz) (h1 : (Value.slice A x.of.length c).ownBlock ≠ some g) (h2 : (Value.slice A2 x.ch.length c2).ownBlock ≠ some g) (j : Nat) (v : Value) : ZSt b bs N w0 gz (w.setCell ⟨g, j, none⟩ v) x A c A2 c2 :=
  ⟨h.box.other hgz j v, h.ro.kept (grown_setCell w ⟨g, j, none⟩ v) (.inr h1), h.rc.kept (grown_setCell w ⟨g, j, none⟩ v) (.inr h2), h.ap, h.nz, h.res.other (by omega) j v, h.src.set ⟨g, j, none⟩ v (by dsimp only; omega), only_setNew h.onl ⟨g, j, none⟩ v (by dsimp only; omega), h.gzl⟩
/-- Other zones are stored. -/
theorem ZSt.swap (h : ZSt b bs N w0 gz w x A c A2 c2) (hb : b < w0.heap.size) {r : TZ} {B B2 : Option Addr} {d d2 : Nat}
    (ho : w.ownsRow (w0.heap.size + 1) 2 1 (.slice B r.of.length d) r.of.length (r.of.map (Value.int .i64))) (hc : w.ownsRow (w0.heap.size + 1) 41 3 (.slice B2 r.ch.length d2) r.ch.length (r.ch.flatMap T3.cells))
    (hap : ∀ g, (Value.slice B r.of.length d).ownBlock = some g → (Value.slice B2 r.ch.length d2).ownBlock ≠ some g) (hn : (Value.slice B r.of.length d).ownBlock ≠ some gz ∧ (Value.slice B2 r.ch.length d2).ownBlock ≠ some gz) :
    ZSt b bs N w0 gz (((w.setCell ⟨gz, 0, none⟩ (.int .i64 r.z)).setCell ⟨gz, 1, none⟩ (.slice B r.of.length d)).setCell ⟨gz, 2, none⟩ (.slice B2 r.ch.length d2)) r B d B2 d2 := by
  have hgz := h.gzl
  refine ⟨((h.box.set 0 (.int .i64 r.z)).set 1 (.slice B r.of.length d)).set 2 (.slice B2 r.ch.length d2), ?_, ?_, hap, hn, ((h.res.other (by omega) 0 _).other (by omega) 1 _).other (by omega) 2 _, ?_, ?_, hgz⟩
  · exact ((ho.kept (grown_setCell w ⟨gz, 0, none⟩ (.int .i64 r.z)) (.inr hn.1)).kept (grown_setCell _ ⟨gz, 1, none⟩ (.slice B r.of.length d)) (.inr hn.1)).kept (grown_setCell _ ⟨gz, 2, none⟩ (.slice B2 r.ch.length d2)) (.inr hn.1)
  · exact ((hc.kept (grown_setCell w ⟨gz, 0, none⟩ (.int .i64 r.z)) (.inr hn.2)).kept (grown_setCell _ ⟨gz, 1, none⟩ (.slice B r.of.length d)) (.inr hn.2)).kept (grown_setCell _ ⟨gz, 2, none⟩ (.slice B2 r.ch.length d2)) (.inr hn.2)
  · exact ((h.src.set ⟨gz, 0, none⟩ _ (by dsimp only; omega)).set ⟨gz, 1, none⟩ _ (by dsimp only; omega)).set ⟨gz, 2, none⟩ _ (by dsimp only; omega)
  · exact only_setNew (only_setNew (only_setNew h.onl ⟨gz, 0, none⟩ _ (by dsimp only; omega)) ⟨gz, 1, none⟩ _ (by dsimp only; omega)) ⟨gz, 2, none⟩ _ (by dsimp only; omega)
theorem ZSt.bel (h : ZSt b bs N w0 gz w x A c A2 c2) (hb : b < w0.heap.size) (k : Below w.heap.size w w') : ZSt b bs N w0 gz w' x A c A2 c2 := h.only hb (only_of_below k) (h.src.below k h.src.lt)
theorem ZSt.cap (h : ZSt b bs N w0 gz w x A c A2 c2) : x.ch.length ≤ c2 ∧ ∀ a, A2 = some a → ∃ b o, a = ⟨b, o, none⟩ := by
  obtain ⟨A', c', e, hle, _⟩ := own_shape h.rc
  simp only [Value.slice.injEq] at e
  refine ⟨by omega, fun a ha => ?_⟩
  rcases own_block h.rc with ⟨hn, _⟩ | ⟨g, hg, _⟩
  · rw [ha] at hn; cases hn
  · rw [ha] at hg; exact ⟨g, 0, Option.some.inj hg⟩
end
/-- Drawn zones' numbers. -/
def ZDr (x : TZ) : Prop := (1 ≤ x.z ∧ x.z ≤ 4) ∧ (x.of.length ≤ 7 ∧ ∀ z ∈ x.of, 0 ≤ z ∧ z ≤ 3) ∧ x.ch.length ≤ 11 ∧ ∀ t ∈ x.ch, CDr t
set_option maxRecDepth 100000 in
set_option maxHeartbeats 4000000 in
theorem drawZones_any (b : Nat) (bs : List Int) (N : Int) (w : World) (hbs : BsOk bs) (hN : N ≤ 1099508000000) (h : SrcAt b bs N w) :
    Calls Tryd.prog 90 #[.pointer (some ⟨b, 0, none⟩)] w fun e w' => ∃ (x : TZ) (A : Option Addr) (c : Nat) (A2 : Option Addr) (c2 : Nat), e = .returned (.agg #[.int .i64 x.z, .slice A x.of.length c, .slice A2 x.ch.length c2]) ∧ ZDr x ∧ w'.ownsRow w.heap.size 2 1 (.slice A x.of.length c) x.of.length (x.of.map (Value.int .i64)) ∧ w'.ownsRow w.heap.size 41 3 (.slice A2 x.ch.length c2) x.ch.length (x.ch.flatMap T3.cells) ∧ (∀ g, (Value.slice A x.of.length c).ownBlock = some g → (Value.slice A2 x.ch.length c2).ownBlock ≠ some g) ∧ SrcAt b bs (N + 200) w' ∧ Only b (b + 1) w w' := by
  obtain ⟨i0, hi0, hz0, hs0, hb0⟩ := info_parts int64_info
  have hbl := h.lt
  have HP := hide fun M n W (hM : M ≤ 1099511000000) (hW : SrcAt b bs M W) => pick_any b bs M n W hbs hM hW
  have HO1 := hide fun M n W (hM : M ≤ 1099511000000) (hW : SrcAt b bs M W) => one_any b bs M n W hbs hM hW
  have HAM := hide fun M g o c xs W (hM : M ≤ 1099511000000) (hW : SrcAt b bs M W) => among_any b bs M g o c xs W hbs hM hW
  have X0 := hide (BoxN.new w #[.int .i64 0, .slice none 0 0, .slice none 0 0] 47)
  have S0 := hide (h.alloc (.cells #[.int .i64 0, .slice none 0 0, .slice none 0 0] 47))
  have O0 := hide (only_alloc (only_refl b (b + 1) w) (.cells #[.int .i64 0, .slice none 0 0, .slice none 0 0] 47))
  have z0 : w.heap.size < (w.alloc (.cells #[.int .i64 0, .slice none 0 0, .slice none 0 0] 47)).heap.size := by simp
  have K0 := hide (HP.out N 4 _ (by omega) S0.out)
  clear h
  go_enter Tryd.func90, Tryd.ntmps90
  go_upto_region 2 with (go_at_call 58; (with_reducible refine (K0.out).mono ?_); rintro e w1 ⟨a, rfl, ⟨ha0, ha1', _⟩, hs1, ho1⟩; have ha1 := ha1' (by omega); have hwa : IntKind.i64.wrap (1 + a) = 1 + a := (by rw [IntKind.wrap_i64] <;> omega))
  have hz1 := ho1.size
  have hsA : (w1.alloc (.cells #[] 2)).heap.size = w1.heap.size + 1 := by simp
  have hsB : ((w1.alloc (.cells #[] 2)).alloc (.cells #[] 41)).heap.size = w1.heap.size + 1 + 1 := by simp
  have NS : Hid (ZSt b bs (N + 2) w (w1.heap.size + 1 + 1) ((((w1.alloc (.cells #[] 2)).alloc (.cells #[] 41)).alloc (.cells #[.int .i64 (1 + a), .slice (some ⟨w1.heap.size, 0, none⟩) 0 0, .slice (some ⟨w1.heap.size + 1, 0, none⟩) 0 0] 47))) ⟨1 + a, [], []⟩ (some ⟨w1.heap.size, 0, none⟩) 0 (some ⟨w1.heap.size + 1, 0, none⟩) 0) := by
    have hbx := BoxN.new ((w1.alloc (.cells #[] 2)).alloc (.cells #[] 41)) #[.int .i64 (1 + a), .slice (some ⟨w1.heap.size, 0, none⟩) 0 0, .slice (some ⟨w1.heap.size + 1, 0, none⟩) 0 0] 47
    rw [hsB] at hbx
    have hro := ((own_new0 w1 (w.heap.size + 1) 2 1 (by omega)).alloc (.cells #[] 41)).alloc (.cells #[.int .i64 (1 + a), .slice (some ⟨w1.heap.size, 0, none⟩) 0 0, .slice (some ⟨w1.heap.size + 1, 0, none⟩) 0 0] 47)
    have hrc := (own_new0 (w1.alloc (.cells #[] 2)) (w.heap.size + 1) 41 3 (by omega)).alloc (.cells #[.int .i64 (1 + a), .slice (some ⟨w1.heap.size, 0, none⟩) 0 0, .slice (some ⟨w1.heap.size + 1, 0, none⟩) 0 0] 47)
    rw [hsA] at hrc
    exact ⟨hbx, hro, hrc, fun g e e2 => by have h1 : some w1.heap.size = some g := e; have h2 : some (w1.heap.size + 1) = some g := e2; have := Option.some.inj h1; have := Option.some.inj h2; omega, ⟨fun e => by have h1 : some w1.heap.size = some (w1.heap.size + 1 + 1) := e; have := Option.some.inj h1; omega, fun e => by have h1 : some (w1.heap.size + 1) = some (w1.heap.size + 1 + 1) := e; have := Option.some.inj h1; omega⟩, (((X0.out.only ho1 (.inr (by omega))).alloc _).alloc _).alloc _, ((hs1.alloc _).alloc _).alloc _, only_alloc (only_alloc (only_alloc (only_trans O0.out ho1) _) _) _, by omega⟩
  have HD0 := hide (show ZDr ⟨1 + a, [], []⟩ from ⟨⟨by dsimp only; omega, by dsimp only; omega⟩, ⟨by simp, fun z hz => (by cases hz)⟩, by simp, fun z hz => (by cases hz)⟩)
  clear hs1 ho1 ha1' K0 X0 S0 O0 hsA hsB hwa
  generalize (((w1.alloc (.cells #[] 2)).alloc (.cells #[] 41)).alloc (.cells #[.int .i64 (1 + a), .slice (some ⟨w1.heap.size, 0, none⟩) 0 0, .slice (some ⟨w1.heap.size + 1, 0, none⟩) 0 0] 47)) = w2 at *
  generalize w1.heap.size + 1 + 1 = gz at *
  generalize w1.heap.size + 1 = ga at *
  generalize w1.heap.size = gb at *
  have K1 := hide (HP.out (N + 2) 8 _ (by omega) NS.out.src)
  go_upto_region 3 with (go_at_call 58; (with_reducible refine (K1.out).mono ?_); rintro e w3 ⟨k0', rfl, ⟨hk0, hk1', _⟩, hs3, ho3⟩)
  have hk1 := hk1' (by omega)
  obtain ⟨k0, rfl⟩ := Int.eq_ofNat_of_zero_le hk0
  have N3 := hide (NS.out.only hbl ho3 hs3)
  clear NS K1 hs3 ho3 hk1'
  go_wp2_with fail
  go_loopg [4] k0 (fun g i wr => ∃ (k : Nat) (x : TZ) (A : Option Addr) (c : Nat) (A2 : Option Addr) (c2 : Nat), Hid (g = k) ∧ i = .int .i64 k ∧ k + x.of.length ≤ 7 ∧ Hid (ZDr x ∧ x.ch = []) ∧ Hid (ZSt b bs (N + 4 + 2 * (x.of.length : Int)) w gz wr x A c A2 c2))
  case atStart => exact ⟨k0, _, _, _, _, _, rfl, rfl, by simp; omega, hide ⟨HD0.out, rfl⟩, hide (N3.out.more (by simp; omega))⟩
  case round =>
    obtain ⟨k, x, A, c, A2, c2, hg, rfl, hkl, HD, NR⟩ := hrel
    clear N3 HD0
    have x0 := NR.out.box.cell 0
    have hx1 := HD.out.1.1.1
    have hx4 := HD.out.1.1.2
    by_cases hk : 0 < k
    · have hki : (0 : Int) < (k : Int) := by omega
      go_wp2_with fail
      have ND := hide NR.out.drew
      have e0 : wr.drew.cell? ⟨gz, 0, none⟩ = some (.int .i64 x.z) := ND.out.box.cell 0
      have e1 : wr.drew.cell? ⟨gz, 1, none⟩ = some (.slice A x.of.length c) := ND.out.box.cell 1
      clear x0 NR
      refine wp_region_held_drew (S := fun W => W.cell? ⟨gz, 0, none⟩ = some (.int .i64 x.z)) (by kernel_rfl) (e0) (fun hHeld => ?_)
      generalize wr.drew = wd at *
      have HC := hide (HP.out (N + 4 + 2 * (x.of.length : Int)) x.z wd (by omega) ND.out.src)
      refine wpAnyH_take (i := 0) (v := ?_) rfl (by kernel_rfl) (by kernel_rfl) (by kernel_rfl) (fun _ _ _ h => h) (Or.inl ⟨by rfl, ?_⟩) (by assumption) ?_
      rotate_left 1
      · (intro w hSw; (try dsimp only at hSw); go_simp; try with_reducible rfl)
      try simp only [Act.put, List.getElem_toArray, List.getElem_cons_succ, List.getElem_cons_zero, List.setIfInBounds_toArray, List.set_cons_zero, List.set_cons_succ]
      refine wpAnyH_take (i := 2) (v := ?_) rfl (by kernel_rfl) (by kernel_rfl) (by kernel_rfl) (fun _ _ _ h => h) (Or.inl ⟨by rfl, ?_⟩) (by assumption) ?_
      rotate_left 1
      · (intro w hSw; (try dsimp only at hSw); go_simp; try with_reducible rfl)
      try simp only [Act.put, List.getElem_toArray, List.getElem_cons_succ, List.getElem_cons_zero, List.setIfInBounds_toArray, List.set_cons_zero, List.set_cons_succ]
      refine wpAnyH_take (i := 3) (v := ?_) rfl (by kernel_rfl) (by kernel_rfl) (by kernel_rfl) (fun _ _ _ h => h) (Or.inl ⟨by rfl, ?_⟩) (by assumption) ?_
      rotate_left 1
      · (intro w hSw; (try dsimp only at hSw); go_simp; try with_reducible rfl)
      try simp only [Act.put, List.getElem_toArray, List.getElem_cons_succ, List.getElem_cons_zero, List.setIfInBounds_toArray, List.set_cons_zero, List.set_cons_succ]
      refine wpAnyH_take (i := 4) (v := ?_) rfl (by kernel_rfl) (by kernel_rfl) (by kernel_rfl) (fun _ _ _ h => h) (Or.inl ⟨by rfl, ?_⟩) (by assumption) ?_
      rotate_left 1
      · (intro w hSw; (try dsimp only at hSw); go_simp; try with_reducible rfl)
      try simp only [Act.put, List.getElem_toArray, List.getElem_cons_succ, List.getElem_cons_zero, List.setIfInBounds_toArray, List.set_cons_zero, List.set_cons_succ]
      refine wpAnyH_ready (rs := [1, 5]) (by kernel_rfl) (by simp) ?_
      refine AllReadyH.cons rfl (fun K hK => ?_) (AllReadyH.cons rfl (fun K hK => ?_) AllReadyH.nil)
      · try simp only [Act.put, List.getElem_toArray, List.getElem_cons_succ, List.getElem_cons_zero, List.setIfInBounds_toArray, List.set_cons_zero, List.set_cons_succ]
        go_simp
        refine hK.out _ _ (e0) (fun hHeld => ?_)
        clear hK K
        try simp only [Act.put, List.getElem_toArray, List.getElem_cons_succ, List.getElem_cons_zero, List.setIfInBounds_toArray, List.set_cons_zero, List.set_cons_succ]
        refine wpAnyH_ready (rs := [5]) (by kernel_rfl) (by simp) ?_
        refine AllReadyH.cons rfl (fun K hK => ?_) AllReadyH.nil
        try simp only [Act.put, List.getElem_toArray, List.getElem_cons_succ, List.getElem_cons_zero, List.setIfInBounds_toArray, List.set_cons_zero, List.set_cons_succ]
        go_simp
        go_at_call 58
        refine (HC.out).mono ?_
        rintro e w4 ⟨q, rfl, ⟨hq0, hq1', _⟩, hs4, ho4⟩
        have hq1 := hq1' (by omega)
        have N4 := hide (ND.out.only hbl ho4 hs4)
        have g0 : w4.cell? ⟨gz, 0, none⟩ = some (.int .i64 x.z) := N4.out.box.cell 0
        have g1 : w4.cell? ⟨gz, 1, none⟩ = some (.slice A x.of.length c) := N4.out.box.cell 1
        clear hs4 ho4 hq1'
        dsimp only
        refine hK.out _ _ (g0) (fun hHeld => ?_)
        clear hK K
        try simp only [Act.put, List.getElem_toArray, List.getElem_cons_succ, List.getElem_cons_zero, List.setIfInBounds_toArray, List.set_cons_zero, List.set_cons_succ]
        refine wpAnyH_ready (rs := [6]) (by kernel_rfl) (by simp) ?_
        refine AllReadyH.cons rfl (fun K hK => ?_) AllReadyH.nil
        try simp only [Act.put, List.getElem_toArray, List.getElem_cons_succ, List.getElem_cons_zero, List.setIfInBounds_toArray, List.set_cons_zero, List.set_cons_succ]
        go_simp
        have N5 := hide (N4.out.alloc (.cells #[.int .i64 q] 2))
        have j0 : (w4.alloc (.cells #[.int .i64 q] 2)).cell? ⟨gz, 0, none⟩ = some (.int .i64 x.z) := N5.out.box.cell 0
        have j1 : (w4.alloc (.cells #[.int .i64 q] 2)).cell? ⟨gz, 1, none⟩ = some (.slice A x.of.length c) := N5.out.box.cell 1
        have hrd := rd_new w4 [.int .i64 q] 2 _ rfl
        have hown5 := N5.out.ro
        have hsz5 : w.heap.size + 1 ≤ (w4.alloc (.cells #[.int .i64 q] 2)).heap.size := by have := N5.out.lt; have := N5.out.gzl; omega
        refine hK.out _ _ (j0) (fun hHeld => ?_)
        clear hK K
        try simp only [Act.put, List.getElem_toArray, List.getElem_cons_succ, List.getElem_cons_zero, List.setIfInBounds_toArray, List.set_cons_zero, List.set_cons_succ]
        refine wpAnyH_ready (rs := [7]) (by kernel_rfl) (by simp) ?_
        refine AllReadyH.cons rfl (fun K hK => ?_) AllReadyH.nil
        try simp only [Act.put, List.getElem_toArray, List.getElem_cons_succ, List.getElem_cons_zero, List.setIfInBounds_toArray, List.set_cons_zero, List.set_cons_succ]
        rw [if_pos (by rfl)]
        refine op_app _ _ _ 44 rfl (w.heap.size + 1) 2 i0 (.int .i64 0) 1 8 Tryd.underlying44 hi0 hz0 hs0 hb0 rfl (by decide) _ _ _ rfl hown5 _ _ 1 1 [.int .i64 q] rfl rfl hrd (int_one _) (by omega) (by decide) hsz5 ?_
        intro v' w6 hown6 hgrow6 hat6
        obtain ⟨A7, c7, rfl, _⟩ := own_shape hown6
        have hbx6 : BoxN w6 gz #[.int .i64 x.z, .slice A x.of.length c, .slice A2 x.ch.length c2] 47 := (hgrow6.block gz N5.out.lt (fun e => N5.out.nz.1 e.symm)).trans N5.out.box
        have l0 : w6.cell? ⟨gz, 0, none⟩ = some (.int .i64 x.z) := hbx6.cell 0
        have l1 : w6.cell? ⟨gz, 1, none⟩ = some (.slice A x.of.length c) := hbx6.cell 1
        have lf := hbx6.fro 1
        have N7 := hide (N5.out.pushOf hbl hown6 hgrow6 hat6)
        dsimp only
        refine hK.out _ _ (l0) (fun hHeld => ?_)
        clear hK K
        try simp only [Act.put, List.getElem_toArray, List.getElem_cons_succ, List.getElem_cons_zero, List.setIfInBounds_toArray, List.set_cons_zero, List.set_cons_succ]
        refine wpAnyH_take (i := 8) (v := ?_) rfl (by kernel_rfl) (by kernel_rfl) (by kernel_rfl) (fun _ _ _ h => h) (Or.inl ⟨by rfl, ?_⟩) (by assumption) ?_
        rotate_left 1
        · (intro w hSw; (try dsimp only at hSw); go_simp; try with_reducible rfl)
        try simp only [Act.put, List.getElem_toArray, List.getElem_cons_succ, List.getElem_cons_zero, List.setIfInBounds_toArray, List.set_cons_zero, List.set_cons_succ]
        refine wpAnyH_ready (rs := [9]) (by kernel_rfl) (by simp) ?_
        refine AllReadyH.cons rfl (fun K hK => ?_) AllReadyH.nil
        try simp only [Act.put, List.getElem_toArray, List.getElem_cons_succ, List.getElem_cons_zero, List.setIfInBounds_toArray, List.set_cons_zero, List.set_cons_succ]
        go_simp
        have m0 : (w6.setCell ⟨gz, 1, none⟩ (.slice A7 (x.of.length + 1) c7)).cell? ⟨gz, 0, none⟩ = some (.int .i64 x.z) := N7.out.box.cell 0
        refine hK.out _ _ (m0) (fun hHeld => ?_)
        clear hK K
        try simp only [Act.put, List.getElem_toArray, List.getElem_cons_succ, List.getElem_cons_zero, List.setIfInBounds_toArray, List.set_cons_zero, List.set_cons_succ]
        refine wpAnyH_done (by kernel_rfl) ?_ _
        go_wp2_with fail
        go_roundg (k - 1)
        case measure => have := hg.out; omega
        case rel =>
          refine ⟨k - 1, ⟨x.z, x.of ++ [q], x.ch⟩, A7, c7, A2, c2, rfl, by congr 1; omega, by simp; omega, hide ⟨⟨HD.out.1.1, ⟨by simp; omega, fun z hz => ?_⟩, HD.out.1.2.2⟩, HD.out.2⟩, hide (N7.out.more (by simp; omega))⟩
          rcases List.mem_append.1 hz with hz | hz
          · exact HD.out.1.2.1.2 z hz
          · rw [List.mem_singleton] at hz; subst hz; omega
      · try simp only [Act.put, List.getElem_toArray, List.getElem_cons_succ, List.getElem_cons_zero, List.setIfInBounds_toArray, List.set_cons_zero, List.set_cons_succ]
        go_simp
        go_at_call 58
        refine (HC.out).mono ?_
        rintro e w4 ⟨q, rfl, ⟨hq0, hq1', _⟩, hs4, ho4⟩
        have hq1 := hq1' (by omega)
        have N4 := hide (ND.out.only hbl ho4 hs4)
        have g0 : w4.cell? ⟨gz, 0, none⟩ = some (.int .i64 x.z) := N4.out.box.cell 0
        have g1 : w4.cell? ⟨gz, 1, none⟩ = some (.slice A x.of.length c) := N4.out.box.cell 1
        clear hs4 ho4 hq1'
        dsimp only
        refine hK.out _ _ (g0) (fun hHeld => ?_)
        clear hK K
        try simp only [Act.put, List.getElem_toArray, List.getElem_cons_succ, List.getElem_cons_zero, List.setIfInBounds_toArray, List.set_cons_zero, List.set_cons_succ]
        refine wpAnyH_ready (rs := [1, 6]) (by kernel_rfl) (by simp) ?_
        refine AllReadyH.cons rfl (fun K hK => ?_) (AllReadyH.cons rfl (fun K hK => ?_) AllReadyH.nil)
        · try simp only [Act.put, List.getElem_toArray, List.getElem_cons_succ, List.getElem_cons_zero, List.setIfInBounds_toArray, List.set_cons_zero, List.set_cons_succ]
          go_simp
          refine hK.out _ _ (g0) (fun hHeld => ?_)
          clear hK K
          try simp only [Act.put, List.getElem_toArray, List.getElem_cons_succ, List.getElem_cons_zero, List.setIfInBounds_toArray, List.set_cons_zero, List.set_cons_succ]
          refine wpAnyH_ready (rs := [6]) (by kernel_rfl) (by simp) ?_
          refine AllReadyH.cons rfl (fun K hK => ?_) AllReadyH.nil
          try simp only [Act.put, List.getElem_toArray, List.getElem_cons_succ, List.getElem_cons_zero, List.setIfInBounds_toArray, List.set_cons_zero, List.set_cons_succ]
          go_simp
          have N5 := hide (N4.out.alloc (.cells #[.int .i64 q] 2))
          have j0 : (w4.alloc (.cells #[.int .i64 q] 2)).cell? ⟨gz, 0, none⟩ = some (.int .i64 x.z) := N5.out.box.cell 0
          have j1 : (w4.alloc (.cells #[.int .i64 q] 2)).cell? ⟨gz, 1, none⟩ = some (.slice A x.of.length c) := N5.out.box.cell 1
          have hrd := rd_new w4 [.int .i64 q] 2 _ rfl
          have hown5 := N5.out.ro
          have hsz5 : w.heap.size + 1 ≤ (w4.alloc (.cells #[.int .i64 q] 2)).heap.size := by have := N5.out.lt; have := N5.out.gzl; omega
          refine hK.out _ _ (j0) (fun hHeld => ?_)
          clear hK K
          try simp only [Act.put, List.getElem_toArray, List.getElem_cons_succ, List.getElem_cons_zero, List.setIfInBounds_toArray, List.set_cons_zero, List.set_cons_succ]
          refine wpAnyH_ready (rs := [7]) (by kernel_rfl) (by simp) ?_
          refine AllReadyH.cons rfl (fun K hK => ?_) AllReadyH.nil
          try simp only [Act.put, List.getElem_toArray, List.getElem_cons_succ, List.getElem_cons_zero, List.setIfInBounds_toArray, List.set_cons_zero, List.set_cons_succ]
          rw [if_pos (by rfl)]
          refine op_app _ _ _ 44 rfl (w.heap.size + 1) 2 i0 (.int .i64 0) 1 8 Tryd.underlying44 hi0 hz0 hs0 hb0 rfl (by decide) _ _ _ rfl hown5 _ _ 1 1 [.int .i64 q] rfl rfl hrd (int_one _) (by omega) (by decide) hsz5 ?_
          intro v' w6 hown6 hgrow6 hat6
          obtain ⟨A7, c7, rfl, _⟩ := own_shape hown6
          have hbx6 : BoxN w6 gz #[.int .i64 x.z, .slice A x.of.length c, .slice A2 x.ch.length c2] 47 := (hgrow6.block gz N5.out.lt (fun e => N5.out.nz.1 e.symm)).trans N5.out.box
          have l0 : w6.cell? ⟨gz, 0, none⟩ = some (.int .i64 x.z) := hbx6.cell 0
          have l1 : w6.cell? ⟨gz, 1, none⟩ = some (.slice A x.of.length c) := hbx6.cell 1
          have lf := hbx6.fro 1
          have N7 := hide (N5.out.pushOf hbl hown6 hgrow6 hat6)
          dsimp only
          refine hK.out _ _ (l0) (fun hHeld => ?_)
          clear hK K
          try simp only [Act.put, List.getElem_toArray, List.getElem_cons_succ, List.getElem_cons_zero, List.setIfInBounds_toArray, List.set_cons_zero, List.set_cons_succ]
          refine wpAnyH_take (i := 8) (v := ?_) rfl (by kernel_rfl) (by kernel_rfl) (by kernel_rfl) (fun _ _ _ h => h) (Or.inl ⟨by rfl, ?_⟩) (by assumption) ?_
          rotate_left 1
          · (intro w hSw; (try dsimp only at hSw); go_simp; try with_reducible rfl)
          try simp only [Act.put, List.getElem_toArray, List.getElem_cons_succ, List.getElem_cons_zero, List.setIfInBounds_toArray, List.set_cons_zero, List.set_cons_succ]
          refine wpAnyH_ready (rs := [9]) (by kernel_rfl) (by simp) ?_
          refine AllReadyH.cons rfl (fun K hK => ?_) AllReadyH.nil
          try simp only [Act.put, List.getElem_toArray, List.getElem_cons_succ, List.getElem_cons_zero, List.setIfInBounds_toArray, List.set_cons_zero, List.set_cons_succ]
          go_simp
          have m0 : (w6.setCell ⟨gz, 1, none⟩ (.slice A7 (x.of.length + 1) c7)).cell? ⟨gz, 0, none⟩ = some (.int .i64 x.z) := N7.out.box.cell 0
          refine hK.out _ _ (m0) (fun hHeld => ?_)
          clear hK K
          try simp only [Act.put, List.getElem_toArray, List.getElem_cons_succ, List.getElem_cons_zero, List.setIfInBounds_toArray, List.set_cons_zero, List.set_cons_succ]
          refine wpAnyH_done (by kernel_rfl) ?_ _
          go_wp2_with fail
          go_roundg (k - 1)
          case measure => have := hg.out; omega
          case rel =>
            refine ⟨k - 1, ⟨x.z, x.of ++ [q], x.ch⟩, A7, c7, A2, c2, rfl, by congr 1; omega, by simp; omega, hide ⟨⟨HD.out.1.1, ⟨by simp; omega, fun z hz => ?_⟩, HD.out.1.2.2⟩, HD.out.2⟩, hide (N7.out.more (by simp; omega))⟩
            rcases List.mem_append.1 hz with hz | hz
            · exact HD.out.1.2.1.2 z hz
            · rw [List.mem_singleton] at hz; subst hz; omega
        · try simp only [Act.put, List.getElem_toArray, List.getElem_cons_succ, List.getElem_cons_zero, List.setIfInBounds_toArray, List.set_cons_zero, List.set_cons_succ]
          go_simp
          have N5 := hide (N4.out.alloc (.cells #[.int .i64 q] 2))
          have j0 : (w4.alloc (.cells #[.int .i64 q] 2)).cell? ⟨gz, 0, none⟩ = some (.int .i64 x.z) := N5.out.box.cell 0
          have j1 : (w4.alloc (.cells #[.int .i64 q] 2)).cell? ⟨gz, 1, none⟩ = some (.slice A x.of.length c) := N5.out.box.cell 1
          have hrd := rd_new w4 [.int .i64 q] 2 _ rfl
          have hown5 := N5.out.ro
          have hsz5 : w.heap.size + 1 ≤ (w4.alloc (.cells #[.int .i64 q] 2)).heap.size := by have := N5.out.lt; have := N5.out.gzl; omega
          refine hK.out _ _ (j0) (fun hHeld => ?_)
          clear hK K
          try simp only [Act.put, List.getElem_toArray, List.getElem_cons_succ, List.getElem_cons_zero, List.setIfInBounds_toArray, List.set_cons_zero, List.set_cons_succ]
          refine wpAnyH_ready (rs := [1]) (by kernel_rfl) (by simp) ?_
          refine AllReadyH.cons rfl (fun K hK => ?_) AllReadyH.nil
          try simp only [Act.put, List.getElem_toArray, List.getElem_cons_succ, List.getElem_cons_zero, List.setIfInBounds_toArray, List.set_cons_zero, List.set_cons_succ]
          go_simp
          refine hK.out _ _ (j0) (fun hHeld => ?_)
          clear hK K
          try simp only [Act.put, List.getElem_toArray, List.getElem_cons_succ, List.getElem_cons_zero, List.setIfInBounds_toArray, List.set_cons_zero, List.set_cons_succ]
          refine wpAnyH_ready (rs := [7]) (by kernel_rfl) (by simp) ?_
          refine AllReadyH.cons rfl (fun K hK => ?_) AllReadyH.nil
          try simp only [Act.put, List.getElem_toArray, List.getElem_cons_succ, List.getElem_cons_zero, List.setIfInBounds_toArray, List.set_cons_zero, List.set_cons_succ]
          rw [if_pos (by rfl)]
          refine op_app _ _ _ 44 rfl (w.heap.size + 1) 2 i0 (.int .i64 0) 1 8 Tryd.underlying44 hi0 hz0 hs0 hb0 rfl (by decide) _ _ _ rfl hown5 _ _ 1 1 [.int .i64 q] rfl rfl hrd (int_one _) (by omega) (by decide) hsz5 ?_
          intro v' w6 hown6 hgrow6 hat6
          obtain ⟨A7, c7, rfl, _⟩ := own_shape hown6
          have hbx6 : BoxN w6 gz #[.int .i64 x.z, .slice A x.of.length c, .slice A2 x.ch.length c2] 47 := (hgrow6.block gz N5.out.lt (fun e => N5.out.nz.1 e.symm)).trans N5.out.box
          have l0 : w6.cell? ⟨gz, 0, none⟩ = some (.int .i64 x.z) := hbx6.cell 0
          have l1 : w6.cell? ⟨gz, 1, none⟩ = some (.slice A x.of.length c) := hbx6.cell 1
          have lf := hbx6.fro 1
          have N7 := hide (N5.out.pushOf hbl hown6 hgrow6 hat6)
          dsimp only
          refine hK.out _ _ (l0) (fun hHeld => ?_)
          clear hK K
          try simp only [Act.put, List.getElem_toArray, List.getElem_cons_succ, List.getElem_cons_zero, List.setIfInBounds_toArray, List.set_cons_zero, List.set_cons_succ]
          refine wpAnyH_take (i := 8) (v := ?_) rfl (by kernel_rfl) (by kernel_rfl) (by kernel_rfl) (fun _ _ _ h => h) (Or.inl ⟨by rfl, ?_⟩) (by assumption) ?_
          rotate_left 1
          · (intro w hSw; (try dsimp only at hSw); go_simp; try with_reducible rfl)
          try simp only [Act.put, List.getElem_toArray, List.getElem_cons_succ, List.getElem_cons_zero, List.setIfInBounds_toArray, List.set_cons_zero, List.set_cons_succ]
          refine wpAnyH_ready (rs := [9]) (by kernel_rfl) (by simp) ?_
          refine AllReadyH.cons rfl (fun K hK => ?_) AllReadyH.nil
          try simp only [Act.put, List.getElem_toArray, List.getElem_cons_succ, List.getElem_cons_zero, List.setIfInBounds_toArray, List.set_cons_zero, List.set_cons_succ]
          go_simp
          have m0 : (w6.setCell ⟨gz, 1, none⟩ (.slice A7 (x.of.length + 1) c7)).cell? ⟨gz, 0, none⟩ = some (.int .i64 x.z) := N7.out.box.cell 0
          refine hK.out _ _ (m0) (fun hHeld => ?_)
          clear hK K
          try simp only [Act.put, List.getElem_toArray, List.getElem_cons_succ, List.getElem_cons_zero, List.setIfInBounds_toArray, List.set_cons_zero, List.set_cons_succ]
          refine wpAnyH_done (by kernel_rfl) ?_ _
          go_wp2_with fail
          go_roundg (k - 1)
          case measure => have := hg.out; omega
          case rel =>
            refine ⟨k - 1, ⟨x.z, x.of ++ [q], x.ch⟩, A7, c7, A2, c2, rfl, by congr 1; omega, by simp; omega, hide ⟨⟨HD.out.1.1, ⟨by simp; omega, fun z hz => ?_⟩, HD.out.1.2.2⟩, HD.out.2⟩, hide (N7.out.more (by simp; omega))⟩
            rcases List.mem_append.1 hz with hz | hz
            · exact HD.out.1.2.1.2 z hz
            · rw [List.mem_singleton] at hz; subst hz; omega
    · obtain rfl : k = 0 := by omega
      obtain ⟨wA, hwA⟩ : ∃ q, q = wr := ⟨wr, rfl⟩
      subst hwA
      have K2 := hide (HP.out (N + 4 + 2 * (x.of.length : Int)) 12 _ (by omega) NR.out.src)
      go_upto_region 7 with (go_at_call 58; (with_reducible refine (K2.out).mono ?_); rintro e w5 ⟨m0', rfl, ⟨hm0, hm1', _⟩, hs5, ho5⟩)
      have hm1 := hm1' (by omega)
      obtain ⟨m0, rfl⟩ := Int.eq_ofNat_of_zero_le hm0
      have N5 := hide ((NR.out.only hbl ho5 hs5).more (N' := N + 20) (by omega))
      have HDX := hide HD.out.1
      have hch0 : x.ch.length = 0 := by rw [HD.out.2]; rfl
      clear NR K2 hs5 ho5 hm1' x0 hx1 hx4 hkl hg HD
      go_wp2_with fail
      go_loopg [5] m0 (fun g i wr => ∃ (k : Nat) (y : TZ) (B : Option Addr) (d : Nat) (B2 : Option Addr) (d2 : Nat), Hid (g = k) ∧ i = .int .i64 k ∧ k ≤ m0 ∧ k + y.ch.length ≤ 11 ∧ Hid (ZDr y) ∧ Hid (ZSt b bs (N + 20 + 6 * ((m0 : Int) - k)) w gz wr y B d B2 d2))
      case atStart => exact ⟨m0, x, A, c, A2, c2, rfl, rfl, Nat.le_refl _, by omega, HDX, hide (N5.out.more (by omega))⟩
      case round =>
        obtain ⟨k, y, B, d, B2, d2, hg, rfl, hkm, hkl, HD, NR⟩ := hrel
        clear N5 HDX hch0
        have x0 := NR.out.box.cell 0
        have x1 := NR.out.box.cell 1
        have x2 := NR.out.box.cell 2
        have hy1 := HD.out.1.1
        have hy4 := HD.out.1.2
        have hyo := HD.out.2.1.1
        have hyc := HD.out.2.2.1
        by_cases hk : 0 < k
        · have hki : (0 : Int) < (k : Int) := by omega
          go_wp2_with fail
          have ND := hide NR.out.drew
          have e0 := (ND.out.box.cell 0).trans rfl
          have e1 := (ND.out.box.cell 1).trans rfl
          have e2 := (ND.out.box.cell 2).trans rfl
          clear x0 x1 x2 NR
          refine wp_region_held_drew (S := fun W => W.cell? ⟨gz, 0, none⟩ = some (.int .i64 y.z) ∧ W.cell? ⟨gz, 1, none⟩ = some (.slice B y.of.length d) ∧ W.cell? ⟨gz, 2, none⟩ = some (.slice B2 y.ch.length d2)) (by kernel_rfl) (⟨e0, e1, e2⟩) (fun hHeld => ?_)
          generalize wr.drew = wd at *
          have HC := hide fun W (hW : SrcAt b bs (N + 20 + 6 * ((m0 : Int) - k)) W) => drawChange_any b bs (N + 20 + 6 * ((m0 : Int) - k)) y.z W hbs (by omega) hW (by omega) (by omega)
          have hcap := ND.out.cap
          have HADD := hide fun (t : T3) W (h1 : RdI W W.heap.size B y.of) (h2 : Rd3 W W.heap.size B2 y.ch) => specAddChange_any y t B d B2 d2 W ⟨by omega, by omega⟩ hcap.1 hcap.2 h1 h2
          have hgz := ND.out.gzl
          have hgl := ND.out.lt
          clear hcap
          refine wpAnyH_take (i := 0) (v := ?_) rfl (by kernel_rfl) (by kernel_rfl) (by kernel_rfl) (fun _ _ _ h => h) (Or.inl ⟨by rfl, ?_⟩) (by assumption) ?_
          rotate_left 1
          · (intro w hSw; (try dsimp only at hSw); go_simp; try with_reducible rfl)
          try simp only [Act.put, List.getElem_toArray, List.getElem_cons_succ, List.getElem_cons_zero, List.setIfInBounds_toArray, List.set_cons_zero, List.set_cons_succ]
          refine wpAnyH_take (i := 1) (v := ?_) rfl (by kernel_rfl) (by kernel_rfl) (by kernel_rfl) (fun _ _ _ h => h) (Or.inl ⟨by rfl, ?_⟩) (by assumption) ?_
          rotate_left 1
          · (intro w hSw; (try dsimp only at hSw); go_simp; try with_reducible rfl)
          try simp only [Act.put, List.getElem_toArray, List.getElem_cons_succ, List.getElem_cons_zero, List.setIfInBounds_toArray, List.set_cons_zero, List.set_cons_succ]
          refine wpAnyH_take (i := 2) (v := ?_) rfl (by kernel_rfl) (by kernel_rfl) (by kernel_rfl) (fun _ _ _ h => h) (Or.inl ⟨by rfl, ?_⟩) (by assumption) ?_
          rotate_left 1
          · (intro w hSw; (try dsimp only at hSw); go_simp; try with_reducible rfl)
          try simp only [Act.put, List.getElem_toArray, List.getElem_cons_succ, List.getElem_cons_zero, List.setIfInBounds_toArray, List.set_cons_zero, List.set_cons_succ]
          refine wpAnyH_take (i := 3) (v := ?_) rfl (by kernel_rfl) (by kernel_rfl) (by kernel_rfl) (fun _ _ _ h => h) (Or.inl ⟨by rfl, ?_⟩) (by assumption) ?_
          rotate_left 1
          · (intro w hSw; (try dsimp only at hSw); go_simp; try with_reducible rfl)
          try simp only [Act.put, List.getElem_toArray, List.getElem_cons_succ, List.getElem_cons_zero, List.setIfInBounds_toArray, List.set_cons_zero, List.set_cons_succ]
          refine wpAnyH_ready (rs := [4, 9]) (by kernel_rfl) (by simp) ?_
          refine AllReadyH.cons rfl (fun K hK => ?_) (AllReadyH.cons rfl (fun K hK => ?_) AllReadyH.nil)
          · try simp only [Act.put, List.getElem_toArray, List.getElem_cons_succ, List.getElem_cons_zero, List.setIfInBounds_toArray, List.set_cons_zero, List.set_cons_succ]
            go_simp
            go_at_call 80
            refine (HC.out _ ND.out.src).mono ?_
            rintro e w4 ⟨t, rfl, ht, hs4, ho4⟩
            have N4 := hide (ND.out.only hbl ho4 hs4)
            have HCD := hide ht
            have ho44 := ho4
            have hz4 := ho4.size
            clear hs4 ho4 ht HC
            dsimp only
            refine hK.out _ _ (⟨(N4.out.box.cell 0).trans rfl, (N4.out.box.cell 1).trans rfl, (N4.out.box.cell 2).trans rfl⟩) (fun hHeld => ?_)
            clear hK K
            try simp only [Act.put, List.getElem_toArray, List.getElem_cons_succ, List.getElem_cons_zero, List.setIfInBounds_toArray, List.set_cons_zero, List.set_cons_succ]
            refine wpAnyH_ready (rs := [5, 9]) (by kernel_rfl) (by simp) ?_
            refine AllReadyH.cons rfl (fun K hK => ?_) (AllReadyH.cons rfl (fun K hK => ?_) AllReadyH.nil)
            · try simp only [Act.put, List.getElem_toArray, List.getElem_cons_succ, List.getElem_cons_zero, List.setIfInBounds_toArray, List.set_cons_zero, List.set_cons_succ]
              go_simp
              go_at_call 32
              refine (HADD.out t _ (Rd.of_own N4.out.ro) (Rd.of_own N4.out.rc)).mono ?_
              rintro e w6 ⟨A5, c5, A6, c6, rfl, r5, r6, ap5, b6⟩
              have N6 := hide (N4.out.bel hbl b6)
              have hl6 := N4.out.lt
              have HOK := hide fun (h : (addChange y t).2 = 0) => addChange_ok h
              have hb5 := hide fun g h => r5.lt g h
              have hb6 := hide fun g h => r6.lt g h
              generalize (addChange y t).1 = r at *
              generalize (addChange y t).2 = code at *
              have hz6 := b6.size
              clear HADD
              dsimp only
              refine hK.out _ _ (⟨(N6.out.box.cell 0).trans rfl, (N6.out.box.cell 1).trans rfl, (N6.out.box.cell 2).trans rfl⟩) (fun hHeld => ?_)
              clear hK K
              try simp only [Act.put, List.getElem_toArray, List.getElem_cons_succ, List.getElem_cons_zero, List.setIfInBounds_toArray, List.set_cons_zero, List.set_cons_succ]
              refine wpAnyH_take (i := 6) (v := ?_) rfl (by kernel_rfl) (by kernel_rfl) (by kernel_rfl) (fun _ _ _ h => h) (Or.inl ⟨by rfl, ?_⟩) (by assumption) ?_
              rotate_left 1
              · (intro w hSw; (try dsimp only at hSw); go_simp; try with_reducible rfl)
              try simp only [Act.put, List.getElem_toArray, List.getElem_cons_succ, List.getElem_cons_zero, List.setIfInBounds_toArray, List.set_cons_zero, List.set_cons_succ]
              refine wpAnyH_take (i := 7) (v := ?_) rfl (by kernel_rfl) (by kernel_rfl) (by kernel_rfl) (fun _ _ _ h => h) (Or.inl ⟨by rfl, ?_⟩) (by assumption) ?_
              rotate_left 1
              · (intro w hSw; (try dsimp only at hSw); go_simp; try with_reducible rfl)
              try simp only [Act.put, List.getElem_toArray, List.getElem_cons_succ, List.getElem_cons_zero, List.setIfInBounds_toArray, List.set_cons_zero, List.set_cons_succ]
              refine wpAnyH_take (i := 8) (v := ?_) rfl (by kernel_rfl) (by kernel_rfl) (by kernel_rfl) (fun _ _ _ h => h) (Or.inl ⟨by rfl, ?_⟩) (by assumption) ?_
              rotate_left 1
              · (intro w hSw; (try dsimp only at hSw); go_simp; try with_reducible rfl)
              try simp only [Act.put, List.getElem_toArray, List.getElem_cons_succ, List.getElem_cons_zero, List.setIfInBounds_toArray, List.set_cons_zero, List.set_cons_succ]
              refine wpAnyH_ready (rs := [9]) (by kernel_rfl) (by simp) ?_
              refine AllReadyH.cons rfl (fun K hK => ?_) AllReadyH.nil
              try simp only [Act.put, List.getElem_toArray, List.getElem_cons_succ, List.getElem_cons_zero, List.setIfInBounds_toArray, List.set_cons_zero, List.set_cons_succ]
              go_simp
              have NAL := hide (N6.out.alloc (.cells #[.int .i64 0, .slice none 0 0, .slice none 0 0] 47))
              have XNL := hide (BoxN.new w6 #[.int .i64 0, .slice none 0 0, .slice none 0 0] 47)
              have hgn1 : w.heap.size < w6.heap.size := by have := N6.out.lt; have := N6.out.gzl; omega
              have hgn2 : w6.heap.size ≠ gz := by have := N6.out.lt; omega
              have hB1 : (Value.slice B y.of.length d).ownBlock ≠ some w6.heap.size := fun e => by have := (N6.out.ro.lt _ e).2; omega
              have hB2 : (Value.slice B2 y.ch.length d2).ownBlock ≠ some w6.heap.size := fun e => by have := (N6.out.rc.lt _ e).2; omega
              have hzl : (w6.alloc (.cells #[.int .i64 0, .slice none 0 0, .slice none 0 0] 47)).heap.size = w6.heap.size + 1 := by simp
              refine hK.out _ _ (⟨(NAL.out.box.cell 0).trans rfl, (NAL.out.box.cell 1).trans rfl, (NAL.out.box.cell 2).trans rfl⟩) (fun hHeld => ?_)
              clear hK K
              try simp only [Act.put, List.getElem_toArray, List.getElem_cons_succ, List.getElem_cons_zero, List.setIfInBounds_toArray, List.set_cons_zero, List.set_cons_succ]
              have R5 := hide ((own_base r5 (base' := w.heap.size + 1) (by omega)).alloc (.cells #[.int .i64 0, .slice none 0 0, .slice none 0 0] 47))
              have R6 := hide ((own_base r6 (base' := w.heap.size + 1) (by omega)).alloc (.cells #[.int .i64 0, .slice none 0 0, .slice none 0 0] 47))
              have HA5 := hide (show ∀ g, (Value.slice A5 r.of.length c5).ownBlock = some g → g ≠ gz ∧ g ≠ w6.heap.size from fun g e => by have := hb5.out g e; omega)
              have HA6 := hide (show ∀ g, (Value.slice A6 r.ch.length c6).ownBlock = some g → g ≠ gz ∧ g ≠ w6.heap.size from fun g e => by have := hb6.out g e; omega)
              clear hb5 hb6 r5 r6 N6 N4 b6
              generalize w6.alloc (.cells #[.int .i64 0, .slice none 0 0, .slice none 0 0] 47) = wa at *
              generalize w6.heap.size = gn at *
              have NA := NAL
              have XNA := XNL
              have AP5 := hide ap5
              have T1 := hide (XNA.out.set 0 (.int .i64 r.z))
              have T2 := hide (T1.out.set 1 (.slice A5 r.of.length c5))
              have T3' := hide (T2.out.set 2 (.slice A6 r.ch.length c6))
              have m0 : wa.cell? ⟨gn, 0, none⟩ = some (.int .i64 0) := XNA.out.cell 0
              have n0' := XNA.out.fro 0
              have m1 : (wa.setCell ⟨gn, 0, none⟩ (.int .i64 r.z)).cell? ⟨gn, 1, none⟩ = some (.slice none 0 0) := T1.out.cell 1
              have n1 := T1.out.fro 1
              have m2 : ((wa.setCell ⟨gn, 0, none⟩ (.int .i64 r.z)).setCell ⟨gn, 1, none⟩ (.slice A5 r.of.length c5)).cell? ⟨gn, 2, none⟩ = some (.slice none 0 0) := T2.out.cell 2
              have n2 := T2.out.fro 2
              refine wpAnyH_ready (rs := [10]) (by kernel_rfl) (by simp) ?_
              refine AllReadyH.cons rfl (fun K hK => ?_) AllReadyH.nil
              try simp only [Act.put, List.getElem_toArray, List.getElem_cons_succ, List.getElem_cons_zero, List.setIfInBounds_toArray, List.set_cons_zero, List.set_cons_succ]
              go_simp
              have NS := hide (((NA.out.setO hbl hgn1 hgn2 hB1 hB2 0 (.int .i64 r.z)).setO hbl hgn1 hgn2 hB1 hB2 1 (.slice A5 r.of.length c5)).setO hbl hgn1 hgn2 hB1 hB2 2 (.slice A6 r.ch.length c6))
              have RS5 := hide (((R5.out.kept (grown_setCell wa ⟨gn, 0, none⟩ (.int .i64 r.z)) (.inr fun e => (HA5.out _ e).2 rfl)).kept (grown_setCell _ ⟨gn, 1, none⟩ (.slice A5 r.of.length c5)) (.inr fun e => (HA5.out _ e).2 rfl)).kept (grown_setCell _ ⟨gn, 2, none⟩ (.slice A6 r.ch.length c6)) (.inr fun e => (HA5.out _ e).2 rfl))
              have RS6 := hide (((R6.out.kept (grown_setCell wa ⟨gn, 0, none⟩ (.int .i64 r.z)) (.inr fun e => (HA6.out _ e).2 rfl)).kept (grown_setCell _ ⟨gn, 1, none⟩ (.slice A5 r.of.length c5)) (.inr fun e => (HA6.out _ e).2 rfl)).kept (grown_setCell _ ⟨gn, 2, none⟩ (.slice A6 r.ch.length c6)) (.inr fun e => (HA6.out _ e).2 rfl))
              refine hK.out _ _ (⟨(NS.out.box.cell 0).trans rfl, (NS.out.box.cell 1).trans rfl, (NS.out.box.cell 2).trans rfl⟩) (fun hHeld => ?_)
              clear hK K
              try simp only [Act.put, List.getElem_toArray, List.getElem_cons_succ, List.getElem_cons_zero, List.setIfInBounds_toArray, List.set_cons_zero, List.set_cons_succ]
              refine wpAnyH_take (i := 11) (v := ?_) rfl (by kernel_rfl) (by kernel_rfl) (by kernel_rfl) (fun _ _ _ h => h) (Or.inl ⟨by rfl, ?_⟩) (by assumption) ?_
              rotate_left 1
              · (intro w hSw; (try dsimp only at hSw); go_simp; try with_reducible rfl)
              try simp only [Act.put, List.getElem_toArray, List.getElem_cons_succ, List.getElem_cons_zero, List.setIfInBounds_toArray, List.set_cons_zero, List.set_cons_succ]
              refine wpAnyH_done (by kernel_rfl) ?_ _
              clear m0 n0' m1 n1 m2 n2 T1 T2 NA XNA R5 R6
              generalize ((wa.setCell ⟨gn, 0, none⟩ (.int .i64 r.z)).setCell ⟨gn, 1, none⟩ (.slice A5 r.of.length c5)).setCell ⟨gn, 2, none⟩ (.slice A6 r.ch.length c6) = ws at *
              by_cases hcd : code = 0
              · obtain ⟨hr, hl60, _, _, _⟩ := HOK.out hcd
                have hrz : r.z = y.z := by rw [hr]
                have hro : r.of = y.of := by rw [hr]
                have hrc : r.ch = insC y.ch t := by rw [hr]
                have hrl : r.ch.length = y.ch.length + 1 := by rw [hrc, insC_len]
                have HDR : Hid (ZDr r) := ⟨by rw [hrz]; exact HD.out.1, by rw [hro]; exact HD.out.2.1, by omega, fun u hu => by
                  rw [hrc] at hu
                  rcases insC_mem hu with rfl | hu
                  · exact HCD.out
                  · exact HD.out.2.2.2 u hu⟩
                have hrl1 : r.ch.length ≤ y.ch.length + 1 := Nat.le_of_eq hrl
                have hbc : (code == 0) = true := by simp [hcd]
                clear hr hrz hro hrc hrl HOK hcd hl60
                have l0 := (T3'.out.cell 0).trans rfl
                have l1 := (T3'.out.cell 1).trans rfl
                have l2 := (T3'.out.cell 2).trans rfl
                have U1 := hide (NS.out.box.set 0 (.int .i64 r.z))
                have U2 := hide (U1.out.set 1 (.slice A5 r.of.length c5))
                have p0 := (NS.out.box.cell 0).trans rfl
                have q0 := NS.out.box.fro 0
                have p1 := (U1.out.cell 1).trans rfl
                have q1 := U1.out.fro 1
                have p2 := (U2.out.cell 2).trans rfl
                have q2 := U2.out.fro 2
                have NW := hide (NS.out.swap hbl RS5.out RS6.out AP5.out ⟨fun e => (HA5.out _ e).1 rfl, fun e => (HA6.out _ e).1 rfl⟩)
                go_wp2_with fail
                go_roundg (k - 1)
                case measure => have := hg.out; omega
                case rel => exact ⟨k - 1, r, A5, c5, A6, c6, rfl, by congr 1; omega, by omega, by omega, HDR, hide (NW.out.more (by omega))⟩
              · have hbc : (code == 0) = false := by simp [hcd]
                have HCO := hide hcd
                clear hcd
                go_wp2_with fail
                go_roundg (k - 1)
                case measure => have := hg.out; omega
                case rel => exact ⟨k - 1, y, B, d, B2, d2, rfl, by congr 1; omega, by omega, by omega, HD, hide (NS.out.more (by omega))⟩
            · try simp only [Act.put, List.getElem_toArray, List.getElem_cons_succ, List.getElem_cons_zero, List.setIfInBounds_toArray, List.set_cons_zero, List.set_cons_succ]
              go_simp
              have NAL := hide (N4.out.alloc (.cells #[.int .i64 0, .slice none 0 0, .slice none 0 0] 47))
              have XNL := hide (BoxN.new w4 #[.int .i64 0, .slice none 0 0, .slice none 0 0] 47)
              have hgn1 : w.heap.size < w4.heap.size := by have := N4.out.lt; have := N4.out.gzl; omega
              have hgn2 : w4.heap.size ≠ gz := by have := N4.out.lt; omega
              have hB1 : (Value.slice B y.of.length d).ownBlock ≠ some w4.heap.size := fun e => by have := (N4.out.ro.lt _ e).2; omega
              have hB2 : (Value.slice B2 y.ch.length d2).ownBlock ≠ some w4.heap.size := fun e => by have := (N4.out.rc.lt _ e).2; omega
              have hzl : (w4.alloc (.cells #[.int .i64 0, .slice none 0 0, .slice none 0 0] 47)).heap.size = w4.heap.size + 1 := by simp
              refine hK.out _ _ (⟨(NAL.out.box.cell 0).trans rfl, (NAL.out.box.cell 1).trans rfl, (NAL.out.box.cell 2).trans rfl⟩) (fun hHeld => ?_)
              clear hK K
              try simp only [Act.put, List.getElem_toArray, List.getElem_cons_succ, List.getElem_cons_zero, List.setIfInBounds_toArray, List.set_cons_zero, List.set_cons_succ]
              refine wpAnyH_ready (rs := [5]) (by kernel_rfl) (by simp) ?_
              refine AllReadyH.cons rfl (fun K hK => ?_) AllReadyH.nil
              try simp only [Act.put, List.getElem_toArray, List.getElem_cons_succ, List.getElem_cons_zero, List.setIfInBounds_toArray, List.set_cons_zero, List.set_cons_succ]
              go_simp
              go_at_call 32
              refine (HADD.out t _ (Rd.of_own NAL.out.ro) (Rd.of_own NAL.out.rc)).mono ?_
              rintro e w6 ⟨A5, c5, A6, c6, rfl, r5, r6, ap5, b6⟩
              have N6 := hide (NAL.out.bel hbl b6)
              have hl6 := NAL.out.lt
              have HOK := hide fun (h : (addChange y t).2 = 0) => addChange_ok h
              have hb5 := hide fun g h => r5.lt g h
              have hb6 := hide fun g h => r6.lt g h
              generalize (addChange y t).1 = r at *
              generalize (addChange y t).2 = code at *
              have hz6 := b6.size
              clear HADD
              dsimp only
              have XNA := hide (XNL.out.below b6 XNL.out.lt)
              refine hK.out _ _ (⟨(N6.out.box.cell 0).trans rfl, (N6.out.box.cell 1).trans rfl, (N6.out.box.cell 2).trans rfl⟩) (fun hHeld => ?_)
              clear hK K
              try simp only [Act.put, List.getElem_toArray, List.getElem_cons_succ, List.getElem_cons_zero, List.setIfInBounds_toArray, List.set_cons_zero, List.set_cons_succ]
              refine wpAnyH_take (i := 6) (v := ?_) rfl (by kernel_rfl) (by kernel_rfl) (by kernel_rfl) (fun _ _ _ h => h) (Or.inl ⟨by rfl, ?_⟩) (by assumption) ?_
              rotate_left 1
              · (intro w hSw; (try dsimp only at hSw); go_simp; try with_reducible rfl)
              try simp only [Act.put, List.getElem_toArray, List.getElem_cons_succ, List.getElem_cons_zero, List.setIfInBounds_toArray, List.set_cons_zero, List.set_cons_succ]
              refine wpAnyH_take (i := 7) (v := ?_) rfl (by kernel_rfl) (by kernel_rfl) (by kernel_rfl) (fun _ _ _ h => h) (Or.inl ⟨by rfl, ?_⟩) (by assumption) ?_
              rotate_left 1
              · (intro w hSw; (try dsimp only at hSw); go_simp; try with_reducible rfl)
              try simp only [Act.put, List.getElem_toArray, List.getElem_cons_succ, List.getElem_cons_zero, List.setIfInBounds_toArray, List.set_cons_zero, List.set_cons_succ]
              refine wpAnyH_take (i := 8) (v := ?_) rfl (by kernel_rfl) (by kernel_rfl) (by kernel_rfl) (fun _ _ _ h => h) (Or.inl ⟨by rfl, ?_⟩) (by assumption) ?_
              rotate_left 1
              · (intro w hSw; (try dsimp only at hSw); go_simp; try with_reducible rfl)
              try simp only [Act.put, List.getElem_toArray, List.getElem_cons_succ, List.getElem_cons_zero, List.setIfInBounds_toArray, List.set_cons_zero, List.set_cons_succ]
              have R5 := hide (own_base r5 (base' := w.heap.size + 1) (by omega))
              have R6 := hide (own_base r6 (base' := w.heap.size + 1) (by omega))
              have HA5 := hide (show ∀ g, (Value.slice A5 r.of.length c5).ownBlock = some g → g ≠ gz ∧ g ≠ w4.heap.size from fun g e => by have := hb5.out g e; omega)
              have HA6 := hide (show ∀ g, (Value.slice A6 r.ch.length c6).ownBlock = some g → g ≠ gz ∧ g ≠ w4.heap.size from fun g e => by have := hb6.out g e; omega)
              clear hb5 hb6 r5 r6 N4 b6 NAL XNL hzl hl6 hz6
              generalize w4.heap.size = gn at *
              have NA := N6
              obtain ⟨wa, hwa⟩ : ∃ q, q = w6 := ⟨w6, rfl⟩
              subst hwa
              have AP5 := hide ap5
              have T1 := hide (XNA.out.set 0 (.int .i64 r.z))
              have T2 := hide (T1.out.set 1 (.slice A5 r.of.length c5))
              have T3' := hide (T2.out.set 2 (.slice A6 r.ch.length c6))
              have m0 : wa.cell? ⟨gn, 0, none⟩ = some (.int .i64 0) := XNA.out.cell 0
              have n0' := XNA.out.fro 0
              have m1 : (wa.setCell ⟨gn, 0, none⟩ (.int .i64 r.z)).cell? ⟨gn, 1, none⟩ = some (.slice none 0 0) := T1.out.cell 1
              have n1 := T1.out.fro 1
              have m2 : ((wa.setCell ⟨gn, 0, none⟩ (.int .i64 r.z)).setCell ⟨gn, 1, none⟩ (.slice A5 r.of.length c5)).cell? ⟨gn, 2, none⟩ = some (.slice none 0 0) := T2.out.cell 2
              have n2 := T2.out.fro 2
              refine wpAnyH_ready (rs := [10]) (by kernel_rfl) (by simp) ?_
              refine AllReadyH.cons rfl (fun K hK => ?_) AllReadyH.nil
              try simp only [Act.put, List.getElem_toArray, List.getElem_cons_succ, List.getElem_cons_zero, List.setIfInBounds_toArray, List.set_cons_zero, List.set_cons_succ]
              go_simp
              have NS := hide (((NA.out.setO hbl hgn1 hgn2 hB1 hB2 0 (.int .i64 r.z)).setO hbl hgn1 hgn2 hB1 hB2 1 (.slice A5 r.of.length c5)).setO hbl hgn1 hgn2 hB1 hB2 2 (.slice A6 r.ch.length c6))
              have RS5 := hide (((R5.out.kept (grown_setCell wa ⟨gn, 0, none⟩ (.int .i64 r.z)) (.inr fun e => (HA5.out _ e).2 rfl)).kept (grown_setCell _ ⟨gn, 1, none⟩ (.slice A5 r.of.length c5)) (.inr fun e => (HA5.out _ e).2 rfl)).kept (grown_setCell _ ⟨gn, 2, none⟩ (.slice A6 r.ch.length c6)) (.inr fun e => (HA5.out _ e).2 rfl))
              have RS6 := hide (((R6.out.kept (grown_setCell wa ⟨gn, 0, none⟩ (.int .i64 r.z)) (.inr fun e => (HA6.out _ e).2 rfl)).kept (grown_setCell _ ⟨gn, 1, none⟩ (.slice A5 r.of.length c5)) (.inr fun e => (HA6.out _ e).2 rfl)).kept (grown_setCell _ ⟨gn, 2, none⟩ (.slice A6 r.ch.length c6)) (.inr fun e => (HA6.out _ e).2 rfl))
              refine hK.out _ _ (⟨(NS.out.box.cell 0).trans rfl, (NS.out.box.cell 1).trans rfl, (NS.out.box.cell 2).trans rfl⟩) (fun hHeld => ?_)
              clear hK K
              try simp only [Act.put, List.getElem_toArray, List.getElem_cons_succ, List.getElem_cons_zero, List.setIfInBounds_toArray, List.set_cons_zero, List.set_cons_succ]
              refine wpAnyH_take (i := 11) (v := ?_) rfl (by kernel_rfl) (by kernel_rfl) (by kernel_rfl) (fun _ _ _ h => h) (Or.inl ⟨by rfl, ?_⟩) (by assumption) ?_
              rotate_left 1
              · (intro w hSw; (try dsimp only at hSw); go_simp; try with_reducible rfl)
              try simp only [Act.put, List.getElem_toArray, List.getElem_cons_succ, List.getElem_cons_zero, List.setIfInBounds_toArray, List.set_cons_zero, List.set_cons_succ]
              refine wpAnyH_done (by kernel_rfl) ?_ _
              clear m0 n0' m1 n1 m2 n2 T1 T2 NA XNA R5 R6
              generalize ((wa.setCell ⟨gn, 0, none⟩ (.int .i64 r.z)).setCell ⟨gn, 1, none⟩ (.slice A5 r.of.length c5)).setCell ⟨gn, 2, none⟩ (.slice A6 r.ch.length c6) = ws at *
              by_cases hcd : code = 0
              · obtain ⟨hr, hl60, _, _, _⟩ := HOK.out hcd
                have hrz : r.z = y.z := by rw [hr]
                have hro : r.of = y.of := by rw [hr]
                have hrc : r.ch = insC y.ch t := by rw [hr]
                have hrl : r.ch.length = y.ch.length + 1 := by rw [hrc, insC_len]
                have HDR : Hid (ZDr r) := ⟨by rw [hrz]; exact HD.out.1, by rw [hro]; exact HD.out.2.1, by omega, fun u hu => by
                  rw [hrc] at hu
                  rcases insC_mem hu with rfl | hu
                  · exact HCD.out
                  · exact HD.out.2.2.2 u hu⟩
                have hrl1 : r.ch.length ≤ y.ch.length + 1 := Nat.le_of_eq hrl
                have hbc : (code == 0) = true := by simp [hcd]
                clear hr hrz hro hrc hrl HOK hcd hl60
                have l0 := (T3'.out.cell 0).trans rfl
                have l1 := (T3'.out.cell 1).trans rfl
                have l2 := (T3'.out.cell 2).trans rfl
                have U1 := hide (NS.out.box.set 0 (.int .i64 r.z))
                have U2 := hide (U1.out.set 1 (.slice A5 r.of.length c5))
                have p0 := (NS.out.box.cell 0).trans rfl
                have q0 := NS.out.box.fro 0
                have p1 := (U1.out.cell 1).trans rfl
                have q1 := U1.out.fro 1
                have p2 := (U2.out.cell 2).trans rfl
                have q2 := U2.out.fro 2
                have NW := hide (NS.out.swap hbl RS5.out RS6.out AP5.out ⟨fun e => (HA5.out _ e).1 rfl, fun e => (HA6.out _ e).1 rfl⟩)
                go_wp2_with fail
                go_roundg (k - 1)
                case measure => have := hg.out; omega
                case rel => exact ⟨k - 1, r, A5, c5, A6, c6, rfl, by congr 1; omega, by omega, by omega, HDR, hide (NW.out.more (by omega))⟩
              · have hbc : (code == 0) = false := by simp [hcd]
                have HCO := hide hcd
                clear hcd
                go_wp2_with fail
                go_roundg (k - 1)
                case measure => have := hg.out; omega
                case rel => exact ⟨k - 1, y, B, d, B2, d2, rfl, by congr 1; omega, by omega, by omega, HD, hide (NS.out.more (by omega))⟩
          · try simp only [Act.put, List.getElem_toArray, List.getElem_cons_succ, List.getElem_cons_zero, List.setIfInBounds_toArray, List.set_cons_zero, List.set_cons_succ]
            go_simp
            have NAL := hide (ND.out.alloc (.cells #[.int .i64 0, .slice none 0 0, .slice none 0 0] 47))
            have XNL := hide (BoxN.new wd #[.int .i64 0, .slice none 0 0, .slice none 0 0] 47)
            have hgn1 : w.heap.size < wd.heap.size := by have := ND.out.lt; have := ND.out.gzl; omega
            have hgn2 : wd.heap.size ≠ gz := by have := ND.out.lt; omega
            have hB1 : (Value.slice B y.of.length d).ownBlock ≠ some wd.heap.size := fun e => by have := (ND.out.ro.lt _ e).2; omega
            have hB2 : (Value.slice B2 y.ch.length d2).ownBlock ≠ some wd.heap.size := fun e => by have := (ND.out.rc.lt _ e).2; omega
            have hzl : (wd.alloc (.cells #[.int .i64 0, .slice none 0 0, .slice none 0 0] 47)).heap.size = wd.heap.size + 1 := by simp
            refine hK.out _ _ (⟨(NAL.out.box.cell 0).trans rfl, (NAL.out.box.cell 1).trans rfl, (NAL.out.box.cell 2).trans rfl⟩) (fun hHeld => ?_)
            clear hK K
            try simp only [Act.put, List.getElem_toArray, List.getElem_cons_succ, List.getElem_cons_zero, List.setIfInBounds_toArray, List.set_cons_zero, List.set_cons_succ]
            refine wpAnyH_ready (rs := [4]) (by kernel_rfl) (by simp) ?_
            refine AllReadyH.cons rfl (fun K hK => ?_) AllReadyH.nil
            try simp only [Act.put, List.getElem_toArray, List.getElem_cons_succ, List.getElem_cons_zero, List.setIfInBounds_toArray, List.set_cons_zero, List.set_cons_succ]
            go_simp
            go_at_call 80
            refine (HC.out _ NAL.out.src).mono ?_
            rintro e w4 ⟨t, rfl, ht, hs4, ho4⟩
            have N4 := hide (NAL.out.only hbl ho4 hs4)
            have HCD := hide ht
            have ho44 := ho4
            have hz4 := ho4.size
            clear hs4 ho4 ht HC
            dsimp only
            have XN4 := hide (XNL.out.only ho44 (.inr (by omega)))
            refine hK.out _ _ (⟨(N4.out.box.cell 0).trans rfl, (N4.out.box.cell 1).trans rfl, (N4.out.box.cell 2).trans rfl⟩) (fun hHeld => ?_)
            clear hK K
            try simp only [Act.put, List.getElem_toArray, List.getElem_cons_succ, List.getElem_cons_zero, List.setIfInBounds_toArray, List.set_cons_zero, List.set_cons_succ]
            refine wpAnyH_ready (rs := [5]) (by kernel_rfl) (by simp) ?_
            refine AllReadyH.cons rfl (fun K hK => ?_) AllReadyH.nil
            try simp only [Act.put, List.getElem_toArray, List.getElem_cons_succ, List.getElem_cons_zero, List.setIfInBounds_toArray, List.set_cons_zero, List.set_cons_succ]
            go_simp
            go_at_call 32
            refine (HADD.out t _ (Rd.of_own N4.out.ro) (Rd.of_own N4.out.rc)).mono ?_
            rintro e w6 ⟨A5, c5, A6, c6, rfl, r5, r6, ap5, b6⟩
            have N6 := hide (N4.out.bel hbl b6)
            have hl6 := N4.out.lt
            have HOK := hide fun (h : (addChange y t).2 = 0) => addChange_ok h
            have hb5 := hide fun g h => r5.lt g h
            have hb6 := hide fun g h => r6.lt g h
            generalize (addChange y t).1 = r at *
            generalize (addChange y t).2 = code at *
            have hz6 := b6.size
            clear HADD
            dsimp only
            have XNA := hide (XN4.out.below b6 XN4.out.lt)
            refine hK.out _ _ (⟨(N6.out.box.cell 0).trans rfl, (N6.out.box.cell 1).trans rfl, (N6.out.box.cell 2).trans rfl⟩) (fun hHeld => ?_)
            clear hK K
            try simp only [Act.put, List.getElem_toArray, List.getElem_cons_succ, List.getElem_cons_zero, List.setIfInBounds_toArray, List.set_cons_zero, List.set_cons_succ]
            refine wpAnyH_take (i := 6) (v := ?_) rfl (by kernel_rfl) (by kernel_rfl) (by kernel_rfl) (fun _ _ _ h => h) (Or.inl ⟨by rfl, ?_⟩) (by assumption) ?_
            rotate_left 1
            · (intro w hSw; (try dsimp only at hSw); go_simp; try with_reducible rfl)
            try simp only [Act.put, List.getElem_toArray, List.getElem_cons_succ, List.getElem_cons_zero, List.setIfInBounds_toArray, List.set_cons_zero, List.set_cons_succ]
            refine wpAnyH_take (i := 7) (v := ?_) rfl (by kernel_rfl) (by kernel_rfl) (by kernel_rfl) (fun _ _ _ h => h) (Or.inl ⟨by rfl, ?_⟩) (by assumption) ?_
            rotate_left 1
            · (intro w hSw; (try dsimp only at hSw); go_simp; try with_reducible rfl)
            try simp only [Act.put, List.getElem_toArray, List.getElem_cons_succ, List.getElem_cons_zero, List.setIfInBounds_toArray, List.set_cons_zero, List.set_cons_succ]
            refine wpAnyH_take (i := 8) (v := ?_) rfl (by kernel_rfl) (by kernel_rfl) (by kernel_rfl) (fun _ _ _ h => h) (Or.inl ⟨by rfl, ?_⟩) (by assumption) ?_
            rotate_left 1
            · (intro w hSw; (try dsimp only at hSw); go_simp; try with_reducible rfl)
            try simp only [Act.put, List.getElem_toArray, List.getElem_cons_succ, List.getElem_cons_zero, List.setIfInBounds_toArray, List.set_cons_zero, List.set_cons_succ]
            have R5 := hide (own_base r5 (base' := w.heap.size + 1) (by omega))
            have R6 := hide (own_base r6 (base' := w.heap.size + 1) (by omega))
            have HA5 := hide (show ∀ g, (Value.slice A5 r.of.length c5).ownBlock = some g → g ≠ gz ∧ g ≠ wd.heap.size from fun g e => by have := hb5.out g e; omega)
            have HA6 := hide (show ∀ g, (Value.slice A6 r.ch.length c6).ownBlock = some g → g ≠ gz ∧ g ≠ wd.heap.size from fun g e => by have := hb6.out g e; omega)
            clear hb5 hb6 r5 r6 N4 b6 NAL XNL XN4 ho44 hzl hl6 hz6 hz4 ND e0 e1 e2
            generalize wd.heap.size = gn at *
            have NA := N6
            obtain ⟨wa, hwa⟩ : ∃ q, q = w6 := ⟨w6, rfl⟩
            subst hwa
            have AP5 := hide ap5
            have T1 := hide (XNA.out.set 0 (.int .i64 r.z))
            have T2 := hide (T1.out.set 1 (.slice A5 r.of.length c5))
            have T3' := hide (T2.out.set 2 (.slice A6 r.ch.length c6))
            have m0 : wa.cell? ⟨gn, 0, none⟩ = some (.int .i64 0) := XNA.out.cell 0
            have n0' := XNA.out.fro 0
            have m1 : (wa.setCell ⟨gn, 0, none⟩ (.int .i64 r.z)).cell? ⟨gn, 1, none⟩ = some (.slice none 0 0) := T1.out.cell 1
            have n1 := T1.out.fro 1
            have m2 : ((wa.setCell ⟨gn, 0, none⟩ (.int .i64 r.z)).setCell ⟨gn, 1, none⟩ (.slice A5 r.of.length c5)).cell? ⟨gn, 2, none⟩ = some (.slice none 0 0) := T2.out.cell 2
            have n2 := T2.out.fro 2
            refine wpAnyH_ready (rs := [10]) (by kernel_rfl) (by simp) ?_
            refine AllReadyH.cons rfl (fun K hK => ?_) AllReadyH.nil
            try simp only [Act.put, List.getElem_toArray, List.getElem_cons_succ, List.getElem_cons_zero, List.setIfInBounds_toArray, List.set_cons_zero, List.set_cons_succ]
            go_simp
            have NS := hide (((NA.out.setO hbl hgn1 hgn2 hB1 hB2 0 (.int .i64 r.z)).setO hbl hgn1 hgn2 hB1 hB2 1 (.slice A5 r.of.length c5)).setO hbl hgn1 hgn2 hB1 hB2 2 (.slice A6 r.ch.length c6))
            have RS5 := hide (((R5.out.kept (grown_setCell wa ⟨gn, 0, none⟩ (.int .i64 r.z)) (.inr fun e => (HA5.out _ e).2 rfl)).kept (grown_setCell _ ⟨gn, 1, none⟩ (.slice A5 r.of.length c5)) (.inr fun e => (HA5.out _ e).2 rfl)).kept (grown_setCell _ ⟨gn, 2, none⟩ (.slice A6 r.ch.length c6)) (.inr fun e => (HA5.out _ e).2 rfl))
            have RS6 := hide (((R6.out.kept (grown_setCell wa ⟨gn, 0, none⟩ (.int .i64 r.z)) (.inr fun e => (HA6.out _ e).2 rfl)).kept (grown_setCell _ ⟨gn, 1, none⟩ (.slice A5 r.of.length c5)) (.inr fun e => (HA6.out _ e).2 rfl)).kept (grown_setCell _ ⟨gn, 2, none⟩ (.slice A6 r.ch.length c6)) (.inr fun e => (HA6.out _ e).2 rfl))
            refine hK.out _ _ (⟨(NS.out.box.cell 0).trans rfl, (NS.out.box.cell 1).trans rfl, (NS.out.box.cell 2).trans rfl⟩) (fun hHeld => ?_)
            clear hK K
            try simp only [Act.put, List.getElem_toArray, List.getElem_cons_succ, List.getElem_cons_zero, List.setIfInBounds_toArray, List.set_cons_zero, List.set_cons_succ]
            refine wpAnyH_take (i := 11) (v := ?_) rfl (by kernel_rfl) (by kernel_rfl) (by kernel_rfl) (fun _ _ _ h => h) (Or.inl ⟨by rfl, ?_⟩) (by assumption) ?_
            rotate_left 1
            · (intro w hSw; (try dsimp only at hSw); go_simp; try with_reducible rfl)
            try simp only [Act.put, List.getElem_toArray, List.getElem_cons_succ, List.getElem_cons_zero, List.setIfInBounds_toArray, List.set_cons_zero, List.set_cons_succ]
            refine wpAnyH_done (by kernel_rfl) ?_ _
            clear m0 n0' m1 n1 m2 n2 T1 T2 NA XNA R5 R6
            generalize ((wa.setCell ⟨gn, 0, none⟩ (.int .i64 r.z)).setCell ⟨gn, 1, none⟩ (.slice A5 r.of.length c5)).setCell ⟨gn, 2, none⟩ (.slice A6 r.ch.length c6) = ws at *
            by_cases hcd : code = 0
            · obtain ⟨hr, hl60, _, _, _⟩ := HOK.out hcd
              have hrz : r.z = y.z := by rw [hr]
              have hro : r.of = y.of := by rw [hr]
              have hrc : r.ch = insC y.ch t := by rw [hr]
              have hrl : r.ch.length = y.ch.length + 1 := by rw [hrc, insC_len]
              have HDR : Hid (ZDr r) := ⟨by rw [hrz]; exact HD.out.1, by rw [hro]; exact HD.out.2.1, by omega, fun u hu => by
                rw [hrc] at hu
                rcases insC_mem hu with rfl | hu
                · exact HCD.out
                · exact HD.out.2.2.2 u hu⟩
              have hrl1 : r.ch.length ≤ y.ch.length + 1 := Nat.le_of_eq hrl
              have hbc : (code == 0) = true := by simp [hcd]
              clear hr hrz hro hrc hrl HOK hcd hl60
              have l0 := (T3'.out.cell 0).trans rfl
              have l1 := (T3'.out.cell 1).trans rfl
              have l2 := (T3'.out.cell 2).trans rfl
              have U1 := hide (NS.out.box.set 0 (.int .i64 r.z))
              have U2 := hide (U1.out.set 1 (.slice A5 r.of.length c5))
              have p0 := (NS.out.box.cell 0).trans rfl
              have q0 := NS.out.box.fro 0
              have p1 := (U1.out.cell 1).trans rfl
              have q1 := U1.out.fro 1
              have p2 := (U2.out.cell 2).trans rfl
              have q2 := U2.out.fro 2
              have NW := hide (NS.out.swap hbl RS5.out RS6.out AP5.out ⟨fun e => (HA5.out _ e).1 rfl, fun e => (HA6.out _ e).1 rfl⟩)
              go_wp2_with fail
              go_roundg (k - 1)
              case measure => have := hg.out; omega
              case rel => exact ⟨k - 1, r, A5, c5, A6, c6, rfl, by congr 1; omega, by omega, by omega, HDR, hide (NW.out.more (by omega))⟩
            · have hbc : (code == 0) = false := by simp [hcd]
              have HCO := hide hcd
              clear hcd
              go_wp2_with fail
              go_roundg (k - 1)
              case measure => have := hg.out; omega
              case rel => exact ⟨k - 1, y, B, d, B2, d2, rfl, by congr 1; omega, by omega, by omega, HD, hide (NS.out.more (by omega))⟩
        · obtain rfl : k = 0 := by omega
          have l0 := x0.trans rfl
          have l1 := x1.trans rfl
          have l2 := x2.trans rfl
          have hgz := NR.out.gzl
          have T0 := hide (NR.out.res.set 0 (.int .i64 y.z))
          have T1 := hide (T0.out.set 1 (.slice B y.of.length d))
          have T2 := hide (T1.out.set 2 (.slice B2 y.ch.length d2))
          have m0' : wr.cell? ⟨w.heap.size, 0, none⟩ = some (.int .i64 0) := NR.out.res.cell 0
          have n0 := NR.out.res.fro 0
          have m1 : (wr.setCell ⟨w.heap.size, 0, none⟩ (.int .i64 y.z)).cell? ⟨w.heap.size, 1, none⟩ = some (.slice none 0 0) := T0.out.cell 1
          have n1 := T0.out.fro 1
          have m2 : ((wr.setCell ⟨w.heap.size, 0, none⟩ (.int .i64 y.z)).setCell ⟨w.heap.size, 1, none⟩ (.slice B y.of.length d)).cell? ⟨w.heap.size, 2, none⟩ = some (.slice none 0 0) := T1.out.cell 2
          have n2 := T1.out.fro 2
          have q0 : (((wr.setCell ⟨w.heap.size, 0, none⟩ (.int .i64 y.z)).setCell ⟨w.heap.size, 1, none⟩ (.slice B y.of.length d)).setCell ⟨w.heap.size, 2, none⟩ (.slice B2 y.ch.length d2)).cell? ⟨w.heap.size, 0, none⟩ = some (.int .i64 y.z) := T2.out.cell 0
          have q1 : (((wr.setCell ⟨w.heap.size, 0, none⟩ (.int .i64 y.z)).setCell ⟨w.heap.size, 1, none⟩ (.slice B y.of.length d)).setCell ⟨w.heap.size, 2, none⟩ (.slice B2 y.ch.length d2)).cell? ⟨w.heap.size, 1, none⟩ = some (.slice B y.of.length d) := T2.out.cell 1
          have q2 : (((wr.setCell ⟨w.heap.size, 0, none⟩ (.int .i64 y.z)).setCell ⟨w.heap.size, 1, none⟩ (.slice B y.of.length d)).setCell ⟨w.heap.size, 2, none⟩ (.slice B2 y.ch.length d2)).cell? ⟨w.heap.size, 2, none⟩ = some (.slice B2 y.ch.length d2) := T2.out.cell 2
          go_wp2_with fail
          have ne5 : ∀ g, (Value.slice B y.of.length d).ownBlock = some g → g ≠ w.heap.size := fun g e => by have := (NR.out.ro.lt g e).1; omega
          have ne6 : ∀ g, (Value.slice B2 y.ch.length d2).ownBlock = some g → g ≠ w.heap.size := fun g e => by have := (NR.out.rc.lt g e).1; omega
          refine bodyPost_ret (v := .agg #[.int .i64 y.z, .slice B y.of.length d, .slice B2 y.ch.length d2]) (by simp [results, Tryd.results90, go_sem, q0, q1, q2]) rfl ⟨y, B, d, B2, d2, rfl, HD.out, own_base (((NR.out.ro.kept (grown_setCell wr ⟨w.heap.size, 0, none⟩ (.int .i64 y.z)) (.inr fun e => ne5 _ e rfl)).kept (grown_setCell _ ⟨w.heap.size, 1, none⟩ (.slice B y.of.length d)) (.inr fun e => ne5 _ e rfl)).kept (grown_setCell _ ⟨w.heap.size, 2, none⟩ (.slice B2 y.ch.length d2)) (.inr fun e => ne5 _ e rfl)) (by omega), own_base (((NR.out.rc.kept (grown_setCell wr ⟨w.heap.size, 0, none⟩ (.int .i64 y.z)) (.inr fun e => ne6 _ e rfl)).kept (grown_setCell _ ⟨w.heap.size, 1, none⟩ (.slice B y.of.length d)) (.inr fun e => ne6 _ e rfl)).kept (grown_setCell _ ⟨w.heap.size, 2, none⟩ (.slice B2 y.ch.length d2)) (.inr fun e => ne6 _ e rfl)) (by omega), NR.out.ap, ?_, ?_⟩
          · exact ((((NR.out.src.set ⟨w.heap.size, 0, none⟩ (.int .i64 y.z) hbl).set ⟨w.heap.size, 1, none⟩ (.slice B y.of.length d) hbl).set ⟨w.heap.size, 2, none⟩ (.slice B2 y.ch.length d2) hbl)).more (by omega)
          · exact only_setNew (only_setNew (only_setNew NR.out.onl ⟨w.heap.size, 0, none⟩ _ (Nat.le_refl _)) ⟨w.heap.size, 1, none⟩ _ (Nat.le_refl _)) ⟨w.heap.size, 2, none⟩ _ (Nat.le_refl _)
end Go.Proofs.YtofjnmeblmbnmaaDoor
