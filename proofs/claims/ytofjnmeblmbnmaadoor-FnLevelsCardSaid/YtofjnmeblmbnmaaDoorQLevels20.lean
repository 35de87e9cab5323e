/-
  A change is added: by contract, both.
-/
import Derived.Test.YtofjnmeblmbnmaaDoorQLevels10
import Derived.Test.YtofjnmeblmbnmaaDoorQLevels18
import Derived.Test.YtofjnmeblmbnmaaDoorQLevels19
import Derived.Test.YtofjnmeblmbnmaaDoorQLevels3
import Derived.Test.YtofjnmeblmbnmaaDoorQLevels1
namespace Go.Proofs.YtofjnmeblmbnmaaDoor
open Go.RowKit
theorem own_up {w : World} {lo m : Nat} {e : TypeId} {s n : Nat} {v : Value} {xs : List Value} (h : w.ownsRow lo e s v n xs) (hm : ∀ g, v.ownBlock = some g → m ≤ g) : w.ownsRow m e s v n xs := by
  refine ⟨h.1, ?_⟩
  rcases h.2 with h0 | ⟨g, cap, cur, hv, hb, rest⟩
  · exact .inl h0
  · exact .inr ⟨g, cap, cur, hv, hm g (by rw [hv]; rfl), rest⟩
theorem zoned_of {w : World} {lo : Nat} {x : TZ} {A : Option Addr} {c : Nat} {A2 : Option Addr} {c2 : Nat} (hlo : lo ≤ w.heap.size) (hs : Small_Zoned x) (h1 : w.ownsRow lo 2 1 (.slice A x.of.length c) x.of.length (x.of.map (Value.int .i64))) (h2 : w.ownsRow lo 41 3 (.slice A2 x.ch.length c2) x.ch.length (x.ch.flatMap T3.cells)) (hap : ∀ g, (Value.slice A x.of.length c).ownBlock = some g → ∀ g2, (Value.slice A2 x.ch.length c2).ownBlock = some g2 → g < g2) : O_Zoned w lo w.heap.size (.agg #[.int .i64 x.z, .slice A x.of.length c, .slice A2 x.ch.length c2]) x := by
  cases e : (Value.slice A x.of.length c).ownBlock with
  | none => exact ⟨_, _, lo, rfl, Nat.le_refl _, hlo, ⟨⟨_, _, rfl⟩, hs.1, .inr ⟨h1, fun g hg => by rw [e] at hg; cases hg⟩⟩, OwnV.of_row h2 hs.2⟩
  | some g =>
    have hl := h1.lt g e
    exact ⟨_, _, g + 1, rfl, by omega, by omega, ⟨⟨_, _, rfl⟩, hs.1, .inr ⟨h1, fun q hq => by rw [e] at hq; cases hq; omega⟩⟩, OwnV.of_row (own_up h2 fun g2 e2 => hap g e g2 e2) hs.2⟩
theorem addChange_small {x : TZ} {y : T3} (hs : Small_Zoned x) : Small_Zoned (addChange x y).1 := by
  by_cases h : (addChange x y).2 = 0
  · obtain ⟨h1, h2, _⟩ := addChange_ok h
    rw [h1]
    exact ⟨hs.1, by show (insC x.ch y).length ≤ _; rw [insC_len]; omega⟩
  · have : (addChange x y).1 = ⟨0, [], []⟩ := by
      unfold addChange at h ⊢
      split at h <;> rename_i h1
      · rw [if_pos h1]
      · rw [if_neg h1]
        split at h <;> rename_i h2
        · rw [if_pos h2]
        · rw [if_neg h2]
          split at h <;> rename_i h3
          · rw [if_pos h3]
          · rw [if_neg h3]
            split at h <;> rename_i h4
            · rw [if_pos h4]
            · exact absurd rfl h
    rw [this]
    exact ⟨Nat.zero_le _, Nat.zero_le _⟩
theorem capZ_of {w : World} {lo hi : Nat} {v : Value} {x : TZ} (h : O_Zoned w lo hi v x) : ∀ n A B m c, v = .agg #[n, A, .slice B m c] → m ≤ c := by
  intro n A B m c e
  obtain ⟨a, b, q, rfl, _, _, _, h2⟩ := h
  injection e with e
  simp only [Array.mk.injEq, List.cons.injEq, and_true] at e
  obtain ⟨_, _, rfl⟩ := e
  obtain ⟨⟨A2, c2, e2⟩, _, h0 | ⟨ho, _⟩⟩ := h2
  · injection e2 with _ e3 _; omega
  · obtain ⟨A3, c3, e3, hc, _⟩ := own_shape ho
    injection e3 with _ e4 e5; omega
theorem S_AddChange (x : TZ) (v : Value) (y : T3) (w : World) (hs : Small_Zoned x) (_ : Fit_Zoned x) (h : R_Zoned w w.heap.size v x) (hcap : ∀ n A B m c, v = .agg #[n, A, .slice B m c] → m ≤ c) (_ : y.Fits) :
    Calls Tryd.prog 32 #[v, .agg #[.int .i64 y.a, .int .i64 y.b, .int .i64 y.c]] w fun e w' => ∃ r, e = .returned (.tuple #[r, .int .i64 (addChange x y).2]) ∧ O_Zoned w' w.heap.size w'.heap.size r (addChange x y).1 ∧ Below w.heap.size w w' := by
  obtain ⟨A, c, A2, c2, rfl, h1, h2⟩ := h
  refine (specAddChangeM_any x y A c A2 c2 w hs (hcap _ _ _ _ _ rfl) h1 h2).mono ?_
  rintro e w' ⟨A', c', A2', c2', rfl, r1, r2, hap, b⟩
  exact ⟨_, rfl, zoned_of b.size (addChange_small hs) r1 r2 hap, b⟩
/-! ### The program -/
/-- The boxes while a change is added. -/
structure AddZ (w0 : World) (x : TZ) (A : Option Addr) (c : Nat) (A2 : Option Addr) (c2 : Nat) (y : T3) (w : World) : Prop where
  z : BoxN w w0.heap.size #[.int .i64 x.z, .slice A x.of.length c, .slice A2 x.ch.length c2] 47
  ch : BoxN w (w0.heap.size + 1) #[.int .i64 y.a, .int .i64 y.b, .int .i64 y.c] 41
  res : BoxN w (w0.heap.size + 2) #[.int .i64 0, .slice none 0 0, .slice none 0 0] 47
  bel : Below w0.heap.size w0 w
  sz : w0.heap.size + 3 ≤ w.heap.size
section
variable {w0 : World} {x : TZ} {A : Option Addr} {c : Nat} {A2 : Option Addr} {c2 : Nat} {y : T3} {w w' : World}
theorem AddZ.belowB {B : Nat} (h : AddZ w0 x A c A2 c2 y w) (k : Below B w w') (hB : w0.heap.size + 3 ≤ B) : AddZ w0 x A c A2 c2 y w' :=
  ⟨h.z.below k (by omega), h.ch.below k (by omega), h.res.below k (by omega), h.bel.trans (k.mono (by omega)), Nat.le_trans h.sz k.size⟩
theorem AddZ.below (h : AddZ w0 x A c A2 c2 y w) (k : Below w.heap.size w w') : AddZ w0 x A c A2 c2 y w' := h.belowB k h.sz
theorem AddZ.alloc (h : AddZ w0 x A c A2 c2 y w) (o : Obj) : AddZ w0 x A c A2 c2 y (w.alloc o) := h.below ((Below.refl _ _).alloc (Nat.le_refl _) o)
theorem AddZ.drew (h : AddZ w0 x A c A2 c2 y w) : AddZ w0 x A c A2 c2 y w.drew := h.below (Below.refl _ _).drew
theorem AddZ.setres (h : AddZ w0 x A c A2 c2 y w) (j : Nat) (v : Value) : BoxN (w.setCell ⟨w0.heap.size + 2, j, none⟩ v) w0.heap.size #[.int .i64 x.z, .slice A x.of.length c, .slice A2 x.ch.length c2] 47 ∧ BoxN (w.setCell ⟨w0.heap.size + 2, j, none⟩ v) (w0.heap.size + 1) #[.int .i64 y.a, .int .i64 y.b, .int .i64 y.c] 41 :=
  ⟨h.z.other (by omega) j v, h.ch.other (by omega) j v⟩
theorem setresZ {w : World} {b : Nat} {cs ds : Array Value} {e f : TypeId} (h : BoxN w b cs e ∧ BoxN w (b + 1) ds f) (j : Nat) (v : Value) : BoxN (w.setCell ⟨b + 2, j, none⟩ v) b cs e ∧ BoxN (w.setCell ⟨b + 2, j, none⟩ v) (b + 1) ds f :=
  ⟨h.1.other (by omega) j v, h.2.other (by omega) j v⟩
end
set_option maxRecDepth 100000 in
set_option maxHeartbeats 8000000 in
theorem P_AddChange (x : TZ) (v : Value) (y : T3) (w : World) (hs : Small_Zoned x) (hf : Fit_Zoned x) (h : R_Zoned w w.heap.size v x) (_ : ∀ n A B m c, v = .agg #[n, A, .slice B m c] → m ≤ c) (_ : y.Fits) :
    Calls Tryd.prog 31 #[v, .agg #[.int .i64 y.a, .int .i64 y.b, .int .i64 y.c]] w fun e w' => ∃ r, e = .returned (.tuple #[r, .int .i64 (addChange x y).2]) ∧ O_Zoned w' w.heap.size w'.heap.size r (addChange x y).1 ∧ Below w.heap.size w w' := by
  have h0 := h
  obtain ⟨A, c, A2, c2, rfl, h1, h2⟩ := h0
  have ST0 := hide (show AddZ w x A c A2 c2 y (((w.alloc (.cells #[.int .i64 x.z, .slice A x.of.length c, .slice A2 x.ch.length c2] 47)).alloc (.cells #[.int .i64 y.a, .int .i64 y.b, .int .i64 y.c] 41)).alloc (.cells #[.int .i64 0, .slice none 0 0, .slice none 0 0] 47)) from ⟨((BoxN.new w _ _).alloc _).alloc _, by have h := (BoxN.new (w.alloc (.cells #[.int .i64 x.z, .slice A x.of.length c, .slice A2 x.ch.length c2] 47)) #[.int .i64 y.a, .int .i64 y.b, .int .i64 y.c] 41).alloc (.cells #[.int .i64 0, .slice none 0 0, .slice none 0 0] 47); simpa using h, by have h := BoxN.new ((w.alloc (.cells #[.int .i64 x.z, .slice A x.of.length c, .slice A2 x.ch.length c2] 47)).alloc (.cells #[.int .i64 y.a, .int .i64 y.b, .int .i64 y.c] 41)) #[.int .i64 0, .slice none 0 0, .slice none 0 0] 47; simpa using h, (by repeat (first | exact Below.refl _ _ | assumption | (refine Below.alloc ?_ (by simp <;> omega) _) | refine Below.drew ?_ | refine bdn ?_ _)), by simp⟩)
  have HV := hide fun W (hW : Below w.heap.size w W) => P_ValidZoned x (.agg #[.int .i64 x.z, .slice A x.of.length c, .slice A2 x.ch.length c2]) W hs hf ((h.below hW).more hW.size)
  have HX := hide h1; have HM := hide h2
  clear h h1 h2
  by_cases hv : vZoned x = false
  case pos =>
    have HRES := hide (show addChange x y = (⟨0, [], []⟩, 1) by unfold addChange; rw [if_pos hv])
    rw [hv] at HV
    clear hv
    go_enter Tryd.func31, Tryd.ntmps31
    go_upto_region 1 with fail
    generalize (((w.alloc (.cells #[.int .i64 x.z, .slice A x.of.length c, .slice A2 x.ch.length c2] 47)).alloc (.cells #[.int .i64 y.a, .int .i64 y.b, .int .i64 y.c] 41)).alloc (.cells #[.int .i64 0, .slice none 0 0, .slice none 0 0] 47)) = w1 at *
    have xz0 : w1.cell? ⟨w.heap.size, 0, none⟩ = some (.int .i64 x.z) := ST0.out.z.cell 0
    have xz1 : w1.cell? ⟨w.heap.size, 1, none⟩ = some (.slice A x.of.length c) := ST0.out.z.cell 1
    have xz2 : w1.cell? ⟨w.heap.size, 2, none⟩ = some (.slice A2 x.ch.length c2) := ST0.out.z.cell 2
    go_upto_region 2 with (first
      | (go_at_call 40; (with_reducible refine (HV.out _ ST0.out.bel).mono ?_); rintro e w2 ⟨rfl, b2⟩; have ST2 := hide (ST0.out.below b2); have yz0 : w2.cell? ⟨w.heap.size, 0, none⟩ = some (.int .i64 x.z) := ST2.out.z.cell 0; have yz1 : w2.cell? ⟨w.heap.size, 1, none⟩ = some (.slice A x.of.length c) := ST2.out.z.cell 1; have yz2 : w2.cell? ⟨w.heap.size, 2, none⟩ = some (.slice A2 x.ch.length c2) := ST2.out.z.cell 2; have ych0 : w2.cell? ⟨w.heap.size + 1, 0, none⟩ = some (.int .i64 y.a) := ST2.out.ch.cell 0; have ych1 : w2.cell? ⟨w.heap.size + 1, 1, none⟩ = some (.int .i64 y.b) := ST2.out.ch.cell 1; have ych2 : w2.cell? ⟨w.heap.size + 1, 2, none⟩ = some (.int .i64 y.c) := ST2.out.ch.cell 2; clear b2))
    have m0 : w2.cell? ⟨w.heap.size + 2, 0, none⟩ = some (.int .i64 0) := ST2.out.res.cell 0
    have n0 := ST2.out.res.fro 0
    have T0 := hide (ST2.out.res.set 0 (.int .i64 0))
    have m1 : (w2.setCell ⟨w.heap.size + 2, 0, none⟩ (.int .i64 0)).cell? ⟨w.heap.size + 2, 1, none⟩ = some (.slice none 0 0) := T0.out.cell 1
    have n1 := T0.out.fro 1
    have T1 := hide (T0.out.set 1 (.slice none 0 0))
    have m2 : ((w2.setCell ⟨w.heap.size + 2, 0, none⟩ (.int .i64 0)).setCell ⟨w.heap.size + 2, 1, none⟩ (.slice none 0 0)).cell? ⟨w.heap.size + 2, 2, none⟩ = some (.slice none 0 0) := T1.out.cell 2
    have n2 := T1.out.fro 2
    have T2 := hide (T1.out.set 2 (.slice none 0 0))
    go_wp2_with fail
    have q0 : (((w2.setCell ⟨w.heap.size + 2, 0, none⟩ (.int .i64 0)).setCell ⟨w.heap.size + 2, 1, none⟩ (.slice none 0 0)).setCell ⟨w.heap.size + 2, 2, none⟩ (.slice none 0 0)).cell? ⟨w.heap.size + 2, 0, none⟩ = some (.int .i64 0) := T2.out.cell 0
    have q1 : (((w2.setCell ⟨w.heap.size + 2, 0, none⟩ (.int .i64 0)).setCell ⟨w.heap.size + 2, 1, none⟩ (.slice none 0 0)).setCell ⟨w.heap.size + 2, 2, none⟩ (.slice none 0 0)).cell? ⟨w.heap.size + 2, 1, none⟩ = some (.slice none 0 0) := T2.out.cell 1
    have q2 : (((w2.setCell ⟨w.heap.size + 2, 0, none⟩ (.int .i64 0)).setCell ⟨w.heap.size + 2, 1, none⟩ (.slice none 0 0)).setCell ⟨w.heap.size + 2, 2, none⟩ (.slice none 0 0)).cell? ⟨w.heap.size + 2, 2, none⟩ = some (.slice none 0 0) := T2.out.cell 2
    refine bodyPost_ret (v := .tuple #[.agg #[.int .i64 0, .slice none 0 0, .slice none 0 0], .int .i64 1]) (by simp [results, Tryd.results31, go_sem, q0, q1, q2]) rfl ?_
    rw [HRES.out]
    have hb := (((ST2.out.bel.setCell (p := ⟨w.heap.size + 2, 0, none⟩) (by dsimp only; omega) (.int .i64 0)).setCell (p := ⟨w.heap.size + 2, 1, none⟩) (by dsimp only; omega) (.slice none 0 0)).setCell (p := ⟨w.heap.size + 2, 2, none⟩) (by dsimp only; omega) (.slice none 0 0))
    exact ⟨_, rfl, O_Zoned.nil _ _ _ hb.size _ _ _ _, hb⟩
  have hv' : vZoned x = true := by simpa using hv
  rw [hv'] at HV
  obtain ⟨⟨hz1, hz8⟩, hof, hln60, _, hch⟩ := vZoned_iff hv'
  have HPW := hide (chOk_strict hch)
  have hn0 : -1000000 ≤ x.z := by omega
  have hn1 : x.z ≤ 1000000 := by omega
  have hln : x.ch.length ≤ 1048576 := by omega
  clear hv' hch
  by_cases hk : okC x.z y = false
  case pos =>
    have HRES := hide (show addChange x y = (⟨0, [], []⟩, 2) by unfold addChange; rw [if_neg hv, if_pos hk])
    clear hv
    go_enter Tryd.func31, Tryd.ntmps31
    go_upto_region 1 with fail
    generalize (((w.alloc (.cells #[.int .i64 x.z, .slice A x.of.length c, .slice A2 x.ch.length c2] 47)).alloc (.cells #[.int .i64 y.a, .int .i64 y.b, .int .i64 y.c] 41)).alloc (.cells #[.int .i64 0, .slice none 0 0, .slice none 0 0] 47)) = w1 at *
    have xz0 : w1.cell? ⟨w.heap.size, 0, none⟩ = some (.int .i64 x.z) := ST0.out.z.cell 0
    have xz1 : w1.cell? ⟨w.heap.size, 1, none⟩ = some (.slice A x.of.length c) := ST0.out.z.cell 1
    have xz2 : w1.cell? ⟨w.heap.size, 2, none⟩ = some (.slice A2 x.ch.length c2) := ST0.out.z.cell 2
    go_upto_region 4 with (first
      | (go_at_call 40; (with_reducible refine (HV.out _ ST0.out.bel).mono ?_); rintro e w2 ⟨rfl, b2⟩; have ST2 := hide (ST0.out.below b2); have yz0 : w2.cell? ⟨w.heap.size, 0, none⟩ = some (.int .i64 x.z) := ST2.out.z.cell 0; have yz1 : w2.cell? ⟨w.heap.size, 1, none⟩ = some (.slice A x.of.length c) := ST2.out.z.cell 1; have yz2 : w2.cell? ⟨w.heap.size, 2, none⟩ = some (.slice A2 x.ch.length c2) := ST2.out.z.cell 2; have ych0 : w2.cell? ⟨w.heap.size + 1, 0, none⟩ = some (.int .i64 y.a) := ST2.out.ch.cell 0; have ych1 : w2.cell? ⟨w.heap.size + 1, 1, none⟩ = some (.int .i64 y.b) := ST2.out.ch.cell 1; have ych2 : w2.cell? ⟨w.heap.size + 1, 2, none⟩ = some (.int .i64 y.c) := ST2.out.ch.cell 2; clear b2)
      | (go_at_call 68; (with_reducible refine (isChange_any x.z y _ hn0 hn1).mono ?_); (try rw [hk]); rintro e w3 ⟨rfl, b3⟩; have ST3 := hide (ST2.out.below b3); have uz0 : w3.cell? ⟨w.heap.size, 0, none⟩ = some (.int .i64 x.z) := ST3.out.z.cell 0; have uz1 : w3.cell? ⟨w.heap.size, 1, none⟩ = some (.slice A x.of.length c) := ST3.out.z.cell 1; have uz2 : w3.cell? ⟨w.heap.size, 2, none⟩ = some (.slice A2 x.ch.length c2) := ST3.out.z.cell 2; have uch0 : w3.cell? ⟨w.heap.size + 1, 0, none⟩ = some (.int .i64 y.a) := ST3.out.ch.cell 0; have uch1 : w3.cell? ⟨w.heap.size + 1, 1, none⟩ = some (.int .i64 y.b) := ST3.out.ch.cell 1; have uch2 : w3.cell? ⟨w.heap.size + 1, 2, none⟩ = some (.int .i64 y.c) := ST3.out.ch.cell 2; clear b3))
    have m0 : w3.cell? ⟨w.heap.size + 2, 0, none⟩ = some (.int .i64 0) := ST3.out.res.cell 0
    have n0 := ST3.out.res.fro 0
    have T0 := hide (ST3.out.res.set 0 (.int .i64 0))
    have m1 : (w3.setCell ⟨w.heap.size + 2, 0, none⟩ (.int .i64 0)).cell? ⟨w.heap.size + 2, 1, none⟩ = some (.slice none 0 0) := T0.out.cell 1
    have n1 := T0.out.fro 1
    have T1 := hide (T0.out.set 1 (.slice none 0 0))
    have m2 : ((w3.setCell ⟨w.heap.size + 2, 0, none⟩ (.int .i64 0)).setCell ⟨w.heap.size + 2, 1, none⟩ (.slice none 0 0)).cell? ⟨w.heap.size + 2, 2, none⟩ = some (.slice none 0 0) := T1.out.cell 2
    have n2 := T1.out.fro 2
    have T2 := hide (T1.out.set 2 (.slice none 0 0))
    go_wp2_with fail
    have q0 : (((w3.setCell ⟨w.heap.size + 2, 0, none⟩ (.int .i64 0)).setCell ⟨w.heap.size + 2, 1, none⟩ (.slice none 0 0)).setCell ⟨w.heap.size + 2, 2, none⟩ (.slice none 0 0)).cell? ⟨w.heap.size + 2, 0, none⟩ = some (.int .i64 0) := T2.out.cell 0
    have q1 : (((w3.setCell ⟨w.heap.size + 2, 0, none⟩ (.int .i64 0)).setCell ⟨w.heap.size + 2, 1, none⟩ (.slice none 0 0)).setCell ⟨w.heap.size + 2, 2, none⟩ (.slice none 0 0)).cell? ⟨w.heap.size + 2, 1, none⟩ = some (.slice none 0 0) := T2.out.cell 1
    have q2 : (((w3.setCell ⟨w.heap.size + 2, 0, none⟩ (.int .i64 0)).setCell ⟨w.heap.size + 2, 1, none⟩ (.slice none 0 0)).setCell ⟨w.heap.size + 2, 2, none⟩ (.slice none 0 0)).cell? ⟨w.heap.size + 2, 2, none⟩ = some (.slice none 0 0) := T2.out.cell 2
    refine bodyPost_ret (v := .tuple #[.agg #[.int .i64 0, .slice none 0 0, .slice none 0 0], .int .i64 2]) (by simp [results, Tryd.results31, go_sem, q0, q1, q2]) rfl ?_
    rw [HRES.out]
    have hb := (((ST3.out.bel.setCell (p := ⟨w.heap.size + 2, 0, none⟩) (by dsimp only; omega) (.int .i64 0)).setCell (p := ⟨w.heap.size + 2, 1, none⟩) (by dsimp only; omega) (.slice none 0 0)).setCell (p := ⟨w.heap.size + 2, 2, none⟩) (by dsimp only; omega) (.slice none 0 0))
    exact ⟨_, rfl, O_Zoned.nil _ _ _ hb.size _ _ _ _, hb⟩
  have hk' : okC x.z y = true := by simpa using hk
  by_cases hh : hasC x.ch y = true
  case pos =>
    have HRES := hide (show addChange x y = (⟨0, [], []⟩, 4) by unfold addChange; rw [if_neg hv, if_neg hk, if_pos hh])
    clear hv hk
    go_enter Tryd.func31, Tryd.ntmps31
    go_upto_region 1 with fail
    generalize (((w.alloc (.cells #[.int .i64 x.z, .slice A x.of.length c, .slice A2 x.ch.length c2] 47)).alloc (.cells #[.int .i64 y.a, .int .i64 y.b, .int .i64 y.c] 41)).alloc (.cells #[.int .i64 0, .slice none 0 0, .slice none 0 0] 47)) = w1 at *
    have xz0 : w1.cell? ⟨w.heap.size, 0, none⟩ = some (.int .i64 x.z) := ST0.out.z.cell 0
    have xz1 : w1.cell? ⟨w.heap.size, 1, none⟩ = some (.slice A x.of.length c) := ST0.out.z.cell 1
    have xz2 : w1.cell? ⟨w.heap.size, 2, none⟩ = some (.slice A2 x.ch.length c2) := ST0.out.z.cell 2
    go_upto_region 7 with (first
      | (go_at_call 40; (with_reducible refine (HV.out _ ST0.out.bel).mono ?_); rintro e w2 ⟨rfl, b2⟩; have ST2 := hide (ST0.out.below b2); have yz0 : w2.cell? ⟨w.heap.size, 0, none⟩ = some (.int .i64 x.z) := ST2.out.z.cell 0; have yz1 : w2.cell? ⟨w.heap.size, 1, none⟩ = some (.slice A x.of.length c) := ST2.out.z.cell 1; have yz2 : w2.cell? ⟨w.heap.size, 2, none⟩ = some (.slice A2 x.ch.length c2) := ST2.out.z.cell 2; have ych0 : w2.cell? ⟨w.heap.size + 1, 0, none⟩ = some (.int .i64 y.a) := ST2.out.ch.cell 0; have ych1 : w2.cell? ⟨w.heap.size + 1, 1, none⟩ = some (.int .i64 y.b) := ST2.out.ch.cell 1; have ych2 : w2.cell? ⟨w.heap.size + 1, 2, none⟩ = some (.int .i64 y.c) := ST2.out.ch.cell 2; clear b2)
      | (go_at_call 68; (with_reducible refine (isChange_any x.z y _ hn0 hn1).mono ?_); (try rw [hk']); rintro e w3 ⟨rfl, b3⟩; have ST3 := hide (ST2.out.below b3); have uz0 : w3.cell? ⟨w.heap.size, 0, none⟩ = some (.int .i64 x.z) := ST3.out.z.cell 0; have uz1 : w3.cell? ⟨w.heap.size, 1, none⟩ = some (.slice A x.of.length c) := ST3.out.z.cell 1; have uz2 : w3.cell? ⟨w.heap.size, 2, none⟩ = some (.slice A2 x.ch.length c2) := ST3.out.z.cell 2; have uch0 : w3.cell? ⟨w.heap.size + 1, 0, none⟩ = some (.int .i64 y.a) := ST3.out.ch.cell 0; have uch1 : w3.cell? ⟨w.heap.size + 1, 1, none⟩ = some (.int .i64 y.b) := ST3.out.ch.cell 1; have uch2 : w3.cell? ⟨w.heap.size + 1, 2, none⟩ = some (.int .i64 y.c) := ST3.out.ch.cell 2; clear b3)
      | (go_at_call 83; (with_reducible refine (bsC_any x.ch y A2 c2 _ hln HPW.out ((HM.out.below ST3.out.bel).more ST3.out.bel.size)).mono ?_); (try rw [hh]); rintro e w4 ⟨rfl, b4⟩; have ST4 := hide (ST3.out.below b4); have tz0 : w4.cell? ⟨w.heap.size, 0, none⟩ = some (.int .i64 x.z) := ST4.out.z.cell 0; have tz1 : w4.cell? ⟨w.heap.size, 1, none⟩ = some (.slice A x.of.length c) := ST4.out.z.cell 1; have tz2 : w4.cell? ⟨w.heap.size, 2, none⟩ = some (.slice A2 x.ch.length c2) := ST4.out.z.cell 2; have tch0 : w4.cell? ⟨w.heap.size + 1, 0, none⟩ = some (.int .i64 y.a) := ST4.out.ch.cell 0; have tch1 : w4.cell? ⟨w.heap.size + 1, 1, none⟩ = some (.int .i64 y.b) := ST4.out.ch.cell 1; have tch2 : w4.cell? ⟨w.heap.size + 1, 2, none⟩ = some (.int .i64 y.c) := ST4.out.ch.cell 2; clear b4))
    have m0 : w4.cell? ⟨w.heap.size + 2, 0, none⟩ = some (.int .i64 0) := ST4.out.res.cell 0
    have n0 := ST4.out.res.fro 0
    have T0 := hide (ST4.out.res.set 0 (.int .i64 0))
    have m1 : (w4.setCell ⟨w.heap.size + 2, 0, none⟩ (.int .i64 0)).cell? ⟨w.heap.size + 2, 1, none⟩ = some (.slice none 0 0) := T0.out.cell 1
    have n1 := T0.out.fro 1
    have T1 := hide (T0.out.set 1 (.slice none 0 0))
    have m2 : ((w4.setCell ⟨w.heap.size + 2, 0, none⟩ (.int .i64 0)).setCell ⟨w.heap.size + 2, 1, none⟩ (.slice none 0 0)).cell? ⟨w.heap.size + 2, 2, none⟩ = some (.slice none 0 0) := T1.out.cell 2
    have n2 := T1.out.fro 2
    have T2 := hide (T1.out.set 2 (.slice none 0 0))
    go_wp2_with fail
    have q0 : (((w4.setCell ⟨w.heap.size + 2, 0, none⟩ (.int .i64 0)).setCell ⟨w.heap.size + 2, 1, none⟩ (.slice none 0 0)).setCell ⟨w.heap.size + 2, 2, none⟩ (.slice none 0 0)).cell? ⟨w.heap.size + 2, 0, none⟩ = some (.int .i64 0) := T2.out.cell 0
    have q1 : (((w4.setCell ⟨w.heap.size + 2, 0, none⟩ (.int .i64 0)).setCell ⟨w.heap.size + 2, 1, none⟩ (.slice none 0 0)).setCell ⟨w.heap.size + 2, 2, none⟩ (.slice none 0 0)).cell? ⟨w.heap.size + 2, 1, none⟩ = some (.slice none 0 0) := T2.out.cell 1
    have q2 : (((w4.setCell ⟨w.heap.size + 2, 0, none⟩ (.int .i64 0)).setCell ⟨w.heap.size + 2, 1, none⟩ (.slice none 0 0)).setCell ⟨w.heap.size + 2, 2, none⟩ (.slice none 0 0)).cell? ⟨w.heap.size + 2, 2, none⟩ = some (.slice none 0 0) := T2.out.cell 2
    refine bodyPost_ret (v := .tuple #[.agg #[.int .i64 0, .slice none 0 0, .slice none 0 0], .int .i64 4]) (by simp [results, Tryd.results31, go_sem, q0, q1, q2]) rfl ?_
    rw [HRES.out]
    have hb := (((ST4.out.bel.setCell (p := ⟨w.heap.size + 2, 0, none⟩) (by dsimp only; omega) (.int .i64 0)).setCell (p := ⟨w.heap.size + 2, 1, none⟩) (by dsimp only; omega) (.slice none 0 0)).setCell (p := ⟨w.heap.size + 2, 2, none⟩) (by dsimp only; omega) (.slice none 0 0))
    exact ⟨_, rfl, O_Zoned.nil _ _ _ hb.size _ _ _ _, hb⟩
  have hh' : hasC x.ch y = false := by simpa using hh
  by_cases h60 : 60 ≤ x.ch.length
  case pos =>
    have HRES := hide (show addChange x y = (⟨0, [], []⟩, 5) by unfold addChange; rw [if_neg hv, if_neg hk, if_neg hh, if_pos h60])
    have HE60 := hide (show (x.ch.length : Int) = 60 by omega)
    clear hv hk hh hln60 h60
    go_enter Tryd.func31, Tryd.ntmps31
    go_upto_region 1 with fail
    generalize (((w.alloc (.cells #[.int .i64 x.z, .slice A x.of.length c, .slice A2 x.ch.length c2] 47)).alloc (.cells #[.int .i64 y.a, .int .i64 y.b, .int .i64 y.c] 41)).alloc (.cells #[.int .i64 0, .slice none 0 0, .slice none 0 0] 47)) = w1 at *
    have xz0 : w1.cell? ⟨w.heap.size, 0, none⟩ = some (.int .i64 x.z) := ST0.out.z.cell 0
    have xz1 : w1.cell? ⟨w.heap.size, 1, none⟩ = some (.slice A x.of.length c) := ST0.out.z.cell 1
    have xz2 : w1.cell? ⟨w.heap.size, 2, none⟩ = some (.slice A2 x.ch.length c2) := ST0.out.z.cell 2
    go_upto_region 8 with (first
      | (go_at_call 40; (with_reducible refine (HV.out _ ST0.out.bel).mono ?_); rintro e w2 ⟨rfl, b2⟩; have ST2 := hide (ST0.out.below b2); have yz0 : w2.cell? ⟨w.heap.size, 0, none⟩ = some (.int .i64 x.z) := ST2.out.z.cell 0; have yz1 : w2.cell? ⟨w.heap.size, 1, none⟩ = some (.slice A x.of.length c) := ST2.out.z.cell 1; have yz2 : w2.cell? ⟨w.heap.size, 2, none⟩ = some (.slice A2 x.ch.length c2) := ST2.out.z.cell 2; have ych0 : w2.cell? ⟨w.heap.size + 1, 0, none⟩ = some (.int .i64 y.a) := ST2.out.ch.cell 0; have ych1 : w2.cell? ⟨w.heap.size + 1, 1, none⟩ = some (.int .i64 y.b) := ST2.out.ch.cell 1; have ych2 : w2.cell? ⟨w.heap.size + 1, 2, none⟩ = some (.int .i64 y.c) := ST2.out.ch.cell 2; clear b2)
      | (go_at_call 68; (with_reducible refine (isChange_any x.z y _ hn0 hn1).mono ?_); (try rw [hk']); rintro e w3 ⟨rfl, b3⟩; have ST3 := hide (ST2.out.below b3); have uz0 : w3.cell? ⟨w.heap.size, 0, none⟩ = some (.int .i64 x.z) := ST3.out.z.cell 0; have uz1 : w3.cell? ⟨w.heap.size, 1, none⟩ = some (.slice A x.of.length c) := ST3.out.z.cell 1; have uz2 : w3.cell? ⟨w.heap.size, 2, none⟩ = some (.slice A2 x.ch.length c2) := ST3.out.z.cell 2; have uch0 : w3.cell? ⟨w.heap.size + 1, 0, none⟩ = some (.int .i64 y.a) := ST3.out.ch.cell 0; have uch1 : w3.cell? ⟨w.heap.size + 1, 1, none⟩ = some (.int .i64 y.b) := ST3.out.ch.cell 1; have uch2 : w3.cell? ⟨w.heap.size + 1, 2, none⟩ = some (.int .i64 y.c) := ST3.out.ch.cell 2; clear b3)
      | (go_at_call 83; (with_reducible refine (bsC_any x.ch y A2 c2 _ hln HPW.out ((HM.out.below ST3.out.bel).more ST3.out.bel.size)).mono ?_); (try rw [hh']); rintro e w4 ⟨rfl, b4⟩; have ST4 := hide (ST3.out.below b4); have tz0 : w4.cell? ⟨w.heap.size, 0, none⟩ = some (.int .i64 x.z) := ST4.out.z.cell 0; have tz1 : w4.cell? ⟨w.heap.size, 1, none⟩ = some (.slice A x.of.length c) := ST4.out.z.cell 1; have tz2 : w4.cell? ⟨w.heap.size, 2, none⟩ = some (.slice A2 x.ch.length c2) := ST4.out.z.cell 2; have tch0 : w4.cell? ⟨w.heap.size + 1, 0, none⟩ = some (.int .i64 y.a) := ST4.out.ch.cell 0; have tch1 : w4.cell? ⟨w.heap.size + 1, 1, none⟩ = some (.int .i64 y.b) := ST4.out.ch.cell 1; have tch2 : w4.cell? ⟨w.heap.size + 1, 2, none⟩ = some (.int .i64 y.c) := ST4.out.ch.cell 2; clear b4))
    have he60 := HE60.out
    go_upto_region 9 with fail
    have m0 : w4.cell? ⟨w.heap.size + 2, 0, none⟩ = some (.int .i64 0) := ST4.out.res.cell 0
    have n0 := ST4.out.res.fro 0
    have T0 := hide (ST4.out.res.set 0 (.int .i64 0))
    have m1 : (w4.setCell ⟨w.heap.size + 2, 0, none⟩ (.int .i64 0)).cell? ⟨w.heap.size + 2, 1, none⟩ = some (.slice none 0 0) := T0.out.cell 1
    have n1 := T0.out.fro 1
    have T1 := hide (T0.out.set 1 (.slice none 0 0))
    have m2 : ((w4.setCell ⟨w.heap.size + 2, 0, none⟩ (.int .i64 0)).setCell ⟨w.heap.size + 2, 1, none⟩ (.slice none 0 0)).cell? ⟨w.heap.size + 2, 2, none⟩ = some (.slice none 0 0) := T1.out.cell 2
    have n2 := T1.out.fro 2
    have T2 := hide (T1.out.set 2 (.slice none 0 0))
    go_wp2_with fail
    have q0 : (((w4.setCell ⟨w.heap.size + 2, 0, none⟩ (.int .i64 0)).setCell ⟨w.heap.size + 2, 1, none⟩ (.slice none 0 0)).setCell ⟨w.heap.size + 2, 2, none⟩ (.slice none 0 0)).cell? ⟨w.heap.size + 2, 0, none⟩ = some (.int .i64 0) := T2.out.cell 0
    have q1 : (((w4.setCell ⟨w.heap.size + 2, 0, none⟩ (.int .i64 0)).setCell ⟨w.heap.size + 2, 1, none⟩ (.slice none 0 0)).setCell ⟨w.heap.size + 2, 2, none⟩ (.slice none 0 0)).cell? ⟨w.heap.size + 2, 1, none⟩ = some (.slice none 0 0) := T2.out.cell 1
    have q2 : (((w4.setCell ⟨w.heap.size + 2, 0, none⟩ (.int .i64 0)).setCell ⟨w.heap.size + 2, 1, none⟩ (.slice none 0 0)).setCell ⟨w.heap.size + 2, 2, none⟩ (.slice none 0 0)).cell? ⟨w.heap.size + 2, 2, none⟩ = some (.slice none 0 0) := T2.out.cell 2
    refine bodyPost_ret (v := .tuple #[.agg #[.int .i64 0, .slice none 0 0, .slice none 0 0], .int .i64 5]) (by simp [results, Tryd.results31, go_sem, q0, q1, q2]) rfl ?_
    rw [HRES.out]
    have hb := (((ST4.out.bel.setCell (p := ⟨w.heap.size + 2, 0, none⟩) (by dsimp only; omega) (.int .i64 0)).setCell (p := ⟨w.heap.size + 2, 1, none⟩) (by dsimp only; omega) (.slice none 0 0)).setCell (p := ⟨w.heap.size + 2, 2, none⟩) (by dsimp only; omega) (.slice none 0 0))
    exact ⟨_, rfl, O_Zoned.nil _ _ _ hb.size _ _ _ _, hb⟩
  have HRES := hide (show addChange x y = (⟨x.z, x.of, insC x.ch y⟩, 0) by unfold addChange; rw [if_neg hv, if_neg hk, if_neg hh, if_neg h60])
  have hne60 : ¬ ((x.ch.length : Int) = 60) := by omega
  have HPL := hide (pos_le x.ch y)
  clear hv hk hh
  go_enter Tryd.func31, Tryd.ntmps31
  go_upto_region 1 with fail
  generalize (((w.alloc (.cells #[.int .i64 x.z, .slice A x.of.length c, .slice A2 x.ch.length c2] 47)).alloc (.cells #[.int .i64 y.a, .int .i64 y.b, .int .i64 y.c] 41)).alloc (.cells #[.int .i64 0, .slice none 0 0, .slice none 0 0] 47)) = w1 at *
  have xz0 : w1.cell? ⟨w.heap.size, 0, none⟩ = some (.int .i64 x.z) := ST0.out.z.cell 0
  have xz1 : w1.cell? ⟨w.heap.size, 1, none⟩ = some (.slice A x.of.length c) := ST0.out.z.cell 1
  have xz2 : w1.cell? ⟨w.heap.size, 2, none⟩ = some (.slice A2 x.ch.length c2) := ST0.out.z.cell 2
  go_upto_region 10 with (first
    | (go_at_call 40; (with_reducible refine (HV.out _ ST0.out.bel).mono ?_); rintro e w2 ⟨rfl, b2⟩; have ST2 := hide (ST0.out.below b2); have yz0 : w2.cell? ⟨w.heap.size, 0, none⟩ = some (.int .i64 x.z) := ST2.out.z.cell 0; have yz1 : w2.cell? ⟨w.heap.size, 1, none⟩ = some (.slice A x.of.length c) := ST2.out.z.cell 1; have yz2 : w2.cell? ⟨w.heap.size, 2, none⟩ = some (.slice A2 x.ch.length c2) := ST2.out.z.cell 2; have ych0 : w2.cell? ⟨w.heap.size + 1, 0, none⟩ = some (.int .i64 y.a) := ST2.out.ch.cell 0; have ych1 : w2.cell? ⟨w.heap.size + 1, 1, none⟩ = some (.int .i64 y.b) := ST2.out.ch.cell 1; have ych2 : w2.cell? ⟨w.heap.size + 1, 2, none⟩ = some (.int .i64 y.c) := ST2.out.ch.cell 2; clear b2)
    | (go_at_call 68; (with_reducible refine (isChange_any x.z y _ hn0 hn1).mono ?_); (try rw [hk']); rintro e w3 ⟨rfl, b3⟩; have ST3 := hide (ST2.out.below b3); have uz0 : w3.cell? ⟨w.heap.size, 0, none⟩ = some (.int .i64 x.z) := ST3.out.z.cell 0; have uz1 : w3.cell? ⟨w.heap.size, 1, none⟩ = some (.slice A x.of.length c) := ST3.out.z.cell 1; have uz2 : w3.cell? ⟨w.heap.size, 2, none⟩ = some (.slice A2 x.ch.length c2) := ST3.out.z.cell 2; have uch0 : w3.cell? ⟨w.heap.size + 1, 0, none⟩ = some (.int .i64 y.a) := ST3.out.ch.cell 0; have uch1 : w3.cell? ⟨w.heap.size + 1, 1, none⟩ = some (.int .i64 y.b) := ST3.out.ch.cell 1; have uch2 : w3.cell? ⟨w.heap.size + 1, 2, none⟩ = some (.int .i64 y.c) := ST3.out.ch.cell 2; clear b3)
    | (go_at_call 83; (with_reducible refine (bsC_any x.ch y A2 c2 _ hln HPW.out ((HM.out.below ST3.out.bel).more ST3.out.bel.size)).mono ?_); (try rw [hh']); rintro e w4 ⟨rfl, b4⟩; have ST4 := hide (ST3.out.below b4); have tz0 : w4.cell? ⟨w.heap.size, 0, none⟩ = some (.int .i64 x.z) := ST4.out.z.cell 0; have tz1 : w4.cell? ⟨w.heap.size, 1, none⟩ = some (.slice A x.of.length c) := ST4.out.z.cell 1; have tz2 : w4.cell? ⟨w.heap.size, 2, none⟩ = some (.slice A2 x.ch.length c2) := ST4.out.z.cell 2; have tch0 : w4.cell? ⟨w.heap.size + 1, 0, none⟩ = some (.int .i64 y.a) := ST4.out.ch.cell 0; have tch1 : w4.cell? ⟨w.heap.size + 1, 1, none⟩ = some (.int .i64 y.b) := ST4.out.ch.cell 1; have tch2 : w4.cell? ⟨w.heap.size + 1, 2, none⟩ = some (.int .i64 y.c) := ST4.out.ch.cell 2; clear b4))
  have STD := hide ST4.out.drew
  clear ST0 ST2 ST3 xz0 xz1 xz2 yz0 yz1 yz2 ych0 ych1 ych2 uz0 uz1 uz2 uch0 uch1 uch2 tz0 tz1 tz2 tch0 tch1 tch2 HV
  refine wp_region_held_drew (S := fun W => W.cell? ⟨w.heap.size, 0, none⟩ = some (.int .i64 x.z) ∧ W.cell? ⟨w.heap.size, 1, none⟩ = some (.slice A x.of.length c) ∧ W.cell? ⟨w.heap.size, 2, none⟩ = some (.slice A2 x.ch.length c2) ∧ W.cell? ⟨w.heap.size + 1, 0, none⟩ = some (.int .i64 y.a) ∧ W.cell? ⟨w.heap.size + 1, 1, none⟩ = some (.int .i64 y.b) ∧ W.cell? ⟨w.heap.size + 1, 2, none⟩ = some (.int .i64 y.c)) (by kernel_rfl) (⟨STD.out.z.cell 0, STD.out.z.cell 1, STD.out.z.cell 2, STD.out.ch.cell 0, STD.out.ch.cell 1, STD.out.ch.cell 2⟩) (fun hHeld => ?_)
  generalize w4.drew = wd at *
  refine wpAnyH_take (i := 0) (v := ?_) rfl (by kernel_rfl) (by kernel_rfl) (by kernel_rfl) (fun _ _ _ h => h) (Or.inl ⟨by rfl, ?_⟩) (by assumption) ?_
  rotate_left 1
  · (intro w hSw; (try dsimp only at hSw); go_simp; try with_reducible rfl)
  try simp only [Act.put, List.getElem_toArray, List.getElem_cons_succ, List.getElem_cons_zero, List.setIfInBounds_toArray, List.set_cons_zero, List.set_cons_succ]
  refine wpAnyH_take (i := 1) (v := ?_) rfl (by kernel_rfl) (by kernel_rfl) (by kernel_rfl) (fun _ _ _ h => h) (Or.inl ⟨by rfl, ?_⟩) (by assumption) ?_
  rotate_left 1
  · (intro w hSw; (try dsimp only at hSw); go_simp; try with_reducible rfl)
  try simp only [Act.put, List.getElem_toArray, List.getElem_cons_succ, List.getElem_cons_zero, List.setIfInBounds_toArray, List.set_cons_zero, List.set_cons_succ]
  refine wpAnyH_take (i := 2) (v := ?_) rfl (by kernel_rfl) (by kernel_rfl) (by kernel_rfl) (fun _ _ _ h => h) (Or.inl ⟨by rfl, ?_⟩) (by assumption) ?_
  rotate_left 1
  · (intro w hSw; (try dsimp only at hSw); go_simp; try with_reducible rfl)
  try simp only [Act.put, List.getElem_toArray, List.getElem_cons_succ, List.getElem_cons_zero, List.setIfInBounds_toArray, List.set_cons_zero, List.set_cons_succ]
  refine wpAnyH_take (i := 3) (v := ?_) rfl (by kernel_rfl) (by kernel_rfl) (by kernel_rfl) (fun _ _ _ h => h) (Or.inl ⟨by rfl, ?_⟩) (by assumption) ?_
  rotate_left 1
  · (intro w hSw; (try dsimp only at hSw); go_simp; try with_reducible rfl)
  try simp only [Act.put, List.getElem_toArray, List.getElem_cons_succ, List.getElem_cons_zero, List.setIfInBounds_toArray, List.set_cons_zero, List.set_cons_succ]
  refine wpAnyH_take (i := 5) (v := ?_) rfl (by kernel_rfl) (by kernel_rfl) (by kernel_rfl) (fun _ _ _ h => h) (Or.inl ⟨by rfl, ?_⟩) (by assumption) ?_
  rotate_left 1
  · (intro w hSw; (try dsimp only at hSw); go_simp; try with_reducible rfl)
  try simp only [Act.put, List.getElem_toArray, List.getElem_cons_succ, List.getElem_cons_zero, List.setIfInBounds_toArray, List.set_cons_zero, List.set_cons_succ]
  refine wpAnyH_take (i := 6) (v := ?_) rfl (by kernel_rfl) (by kernel_rfl) (by kernel_rfl) (fun _ _ _ h => h) (Or.inl ⟨by rfl, ?_⟩) (by assumption) ?_
  rotate_left 1
  · (intro w hSw; (try dsimp only at hSw); go_simp; try with_reducible rfl)
  try simp only [Act.put, List.getElem_toArray, List.getElem_cons_succ, List.getElem_cons_zero, List.setIfInBounds_toArray, List.set_cons_zero, List.set_cons_succ]
  refine wpAnyH_take (i := 8) (v := ?_) rfl (by kernel_rfl) (by kernel_rfl) (by kernel_rfl) (fun _ _ _ h => h) (Or.inl ⟨by rfl, ?_⟩) (by assumption) ?_
  rotate_left 1
  · (intro w hSw; (try dsimp only at hSw); go_simp; try with_reducible rfl)
  try simp only [Act.put, List.getElem_toArray, List.getElem_cons_succ, List.getElem_cons_zero, List.setIfInBounds_toArray, List.set_cons_zero, List.set_cons_succ]
  refine wpAnyH_take (i := 9) (v := ?_) rfl (by kernel_rfl) (by kernel_rfl) (by kernel_rfl) (fun _ _ _ h => h) (Or.inl ⟨by rfl, ?_⟩) (by assumption) ?_
  rotate_left 1
  · (intro w hSw; (try dsimp only at hSw); go_simp; try with_reducible rfl)
  try simp only [Act.put, List.getElem_toArray, List.getElem_cons_succ, List.getElem_cons_zero, List.setIfInBounds_toArray, List.set_cons_zero, List.set_cons_succ]
  generalize hposn : posC x.ch y = pn at *
  refine wpAnyH_ready (rs := [4, 10]) (by kernel_rfl) (by simp) ?_
  refine AllReadyH.cons rfl (fun K hK => ?_) (AllReadyH.cons rfl (fun K hK => ?_) AllReadyH.nil)
  · try simp only [Act.put, List.getElem_toArray, List.getElem_cons_succ, List.getElem_cons_zero, List.setIfInBounds_toArray, List.set_cons_zero, List.set_cons_succ]
    go_simp
    go_at_call 85
    refine (cloneI_any x.of A c _ (by omega) ((HX.out.below STD.out.bel).more STD.out.bel.size)).mono ?_
    rintro e w5 ⟨A5, c5, rfl, hown5, b5⟩
    have ST5 := hide (STD.out.below b5)
    have R5 := hide (own_base hown5 STD.out.sz)
    have HLT5 := hide (fun g h => (hown5.lt g h).2)
    clear hown5
    dsimp only
    refine hK.out _ _ (⟨ST5.out.z.cell 0, ST5.out.z.cell 1, ST5.out.z.cell 2, ST5.out.ch.cell 0, ST5.out.ch.cell 1, ST5.out.ch.cell 2⟩) (fun hHeld => ?_)
    clear hK K
    try simp only [Act.put, List.getElem_toArray, List.getElem_cons_succ, List.getElem_cons_zero, List.setIfInBounds_toArray, List.set_cons_zero, List.set_cons_succ]
    refine wpAnyH_ready (rs := [7, 10]) (by kernel_rfl) (by simp) ?_
    refine AllReadyH.cons rfl (fun K hK => ?_) (AllReadyH.cons rfl (fun K hK => ?_) AllReadyH.nil)
    · try simp only [Act.put, List.getElem_toArray, List.getElem_cons_succ, List.getElem_cons_zero, List.setIfInBounds_toArray, List.set_cons_zero, List.set_cons_succ]
      go_simp
      go_at_call 87
      refine (cloneChange_any x.ch A2 c2 _ (by omega) ((HM.out.below ST5.out.bel).more ST5.out.bel.size)).mono ?_
      rintro e w7 ⟨A7, c7, rfl, hown7, b7⟩
      have ST6 := hide (ST5.out.below b7)
      dsimp only
      refine hK.out _ _ (⟨ST6.out.z.cell 0, ST6.out.z.cell 1, ST6.out.z.cell 2, ST6.out.ch.cell 0, ST6.out.ch.cell 1, ST6.out.ch.cell 2⟩) (fun hHeld => ?_)
      clear hK K
      try simp only [Act.put, List.getElem_toArray, List.getElem_cons_succ, List.getElem_cons_zero, List.setIfInBounds_toArray, List.set_cons_zero, List.set_cons_succ]
      refine wpAnyH_ready (rs := [10]) (by kernel_rfl) (by simp) ?_
      refine AllReadyH.cons rfl (fun K hK => ?_) AllReadyH.nil
      try simp only [Act.put, List.getElem_toArray, List.getElem_cons_succ, List.getElem_cons_zero, List.setIfInBounds_toArray, List.set_cons_zero, List.set_cons_succ]
      go_simp
      have ST7 := hide (ST6.out.alloc (.cells #[.int .i64 y.a, .int .i64 y.b, .int .i64 y.c] 41))
      refine hK.out _ _ (⟨ST7.out.z.cell 0, ST7.out.z.cell 1, ST7.out.z.cell 2, ST7.out.ch.cell 0, ST7.out.ch.cell 1, ST7.out.ch.cell 2⟩) (fun hHeld => ?_)
      clear hK K
      try simp only [Act.put, List.getElem_toArray, List.getElem_cons_succ, List.getElem_cons_zero, List.setIfInBounds_toArray, List.set_cons_zero, List.set_cons_succ]
      have R5X := R5.out
      have HWX : w5.heap.size ≤ w5.heap.size := Nat.le_refl _
      have hvb : (w7.alloc (.cells #[.int .i64 y.a, .int .i64 y.b, .int .i64 y.c] 41)).heap[w7.heap.size]? = some (.cells #[.int .i64 y.a, .int .i64 y.b, .int .i64 y.c] 41 (0, 0)) := BoxN.new w7 _ _
      have hne : ∀ g, (Value.slice A7 x.ch.length c7).ownBlock = some g → w7.heap.size ≠ g := fun g e => by have := (hown7.lt g e).2; omega
      have hw7 : (w7.alloc (.cells #[.int .i64 y.a, .int .i64 y.b, .int .i64 y.c] 41)).ownsRow w5.heap.size 41 3 (.slice A7 x.ch.length c7) x.ch.length (x.ch.flatMap T3.cells) := hown7.alloc _
      have hlo : w5.heap.size ≤ (w7.alloc (.cells #[.int .i64 y.a, .int .i64 y.b, .int .i64 y.c] 41)).heap.size := by have := b7.size; simp; omega
      have BX7 := hide (show Below w5.heap.size w5 (w7.alloc (.cells #[.int .i64 y.a, .int .i64 y.b, .int .i64 y.c] 41)) from b7.trans ((Below.refl _ _).alloc b7.size _))
      have HZX : w.heap.size + 3 ≤ w5.heap.size := by have := ST5.out.sz; first | exact this | omega
      refine wpAnyH_ready (rs := [11]) (by kernel_rfl) (by simp) ?_
      refine AllReadyH.cons rfl (fun K hK => ?_) AllReadyH.nil
      try simp only [Act.put, List.getElem_toArray, List.getElem_cons_succ, List.getElem_cons_zero, List.setIfInBounds_toArray, List.set_cons_zero, List.set_cons_succ]
      go_simp
      go_at_call 86
      refine (insertC_any x.ch y pn A7 c7 (w7.heap.size) w5.heap.size _ (by omega) HPL.out hlo hw7 hvb hne).mono ?_
      rintro e w8 ⟨A8, c8, rfl, hown8, b8⟩
      have ST8 := hide (ST7.out.belowB b8 HZX)
      have B8 := hide (BX7.out.trans b8)
      clear hvb hne hw7 b8 BX7
      dsimp only
      refine hK.out _ _ (⟨ST8.out.z.cell 0, ST8.out.z.cell 1, ST8.out.z.cell 2, ST8.out.ch.cell 0, ST8.out.ch.cell 1, ST8.out.ch.cell 2⟩) (fun hHeld => ?_)
      clear hK K
      try simp only [Act.put, List.getElem_toArray, List.getElem_cons_succ, List.getElem_cons_zero, List.setIfInBounds_toArray, List.set_cons_zero, List.set_cons_succ]
      refine wpAnyH_take (i := 12) (v := ?_) rfl (by kernel_rfl) (by kernel_rfl) (by kernel_rfl) (fun _ _ _ h => h) (Or.inl ⟨by rfl, ?_⟩) (by assumption) ?_
      rotate_left 1
      · (intro w hSw; (try dsimp only at hSw); go_simp; try with_reducible rfl)
      try simp only [Act.put, List.getElem_toArray, List.getElem_cons_succ, List.getElem_cons_zero, List.setIfInBounds_toArray, List.set_cons_zero, List.set_cons_succ]
      have m0 : w8.cell? ⟨w.heap.size + 2, 0, none⟩ = some (.int .i64 0) := ST8.out.res.cell 0
      have n0 := ST8.out.res.fro 0
      have T0 := hide (ST8.out.res.set 0 (.int .i64 x.z))
      have m1 : (w8.setCell ⟨w.heap.size + 2, 0, none⟩ (.int .i64 x.z)).cell? ⟨w.heap.size + 2, 1, none⟩ = some (.slice none 0 0) := T0.out.cell 1
      have n1 := T0.out.fro 1
      have T1 := hide (T0.out.set 1 (.slice A5 x.of.length c5))
      have m2 : ((w8.setCell ⟨w.heap.size + 2, 0, none⟩ (.int .i64 x.z)).setCell ⟨w.heap.size + 2, 1, none⟩ (.slice A5 x.of.length c5)).cell? ⟨w.heap.size + 2, 2, none⟩ = some (.slice none 0 0) := T1.out.cell 2
      have n2 := T1.out.fro 2
      have T2 := hide (T1.out.set 2 (.slice A8 (x.ch.length + 1) c8))
      refine wpAnyH_ready (rs := [13]) (by kernel_rfl) (by simp) ?_
      refine AllReadyH.cons rfl (fun K hK => ?_) AllReadyH.nil
      try simp only [Act.put, List.getElem_toArray, List.getElem_cons_succ, List.getElem_cons_zero, List.setIfInBounds_toArray, List.set_cons_zero, List.set_cons_succ]
      go_simp
      have N9 := hide (setresZ (setresZ (ST8.out.setres 0 (.int .i64 x.z)) 1 (.slice A5 x.of.length c5)) 2 (.slice A8 (x.ch.length + 1) c8))
      refine hK.out _ _ (⟨N9.out.1.cell 0, N9.out.1.cell 1, N9.out.1.cell 2, N9.out.2.cell 0, N9.out.2.cell 1, N9.out.2.cell 2⟩) (fun hHeld => ?_)
      clear hK K
      try simp only [Act.put, List.getElem_toArray, List.getElem_cons_succ, List.getElem_cons_zero, List.setIfInBounds_toArray, List.set_cons_zero, List.set_cons_succ]
      refine wpAnyH_take (i := 14) (v := ?_) rfl (by kernel_rfl) (by kernel_rfl) (by kernel_rfl) (fun _ _ _ h => h) (Or.inl ⟨by rfl, ?_⟩) (by assumption) ?_
      rotate_left 1
      · (intro w hSw; (try dsimp only at hSw); go_simp; try with_reducible rfl)
      try simp only [Act.put, List.getElem_toArray, List.getElem_cons_succ, List.getElem_cons_zero, List.setIfInBounds_toArray, List.set_cons_zero, List.set_cons_succ]
      refine wpAnyH_done (by kernel_rfl) ?_ _
      go_wp2_with fail
      have q0 : (((w8.setCell ⟨w.heap.size + 2, 0, none⟩ (.int .i64 x.z)).setCell ⟨w.heap.size + 2, 1, none⟩ (.slice A5 x.of.length c5)).setCell ⟨w.heap.size + 2, 2, none⟩ (.slice A8 (x.ch.length + 1) c8)).cell? ⟨w.heap.size + 2, 0, none⟩ = some (.int .i64 x.z) := T2.out.cell 0
      have q1 : (((w8.setCell ⟨w.heap.size + 2, 0, none⟩ (.int .i64 x.z)).setCell ⟨w.heap.size + 2, 1, none⟩ (.slice A5 x.of.length c5)).setCell ⟨w.heap.size + 2, 2, none⟩ (.slice A8 (x.ch.length + 1) c8)).cell? ⟨w.heap.size + 2, 1, none⟩ = some (.slice A5 x.of.length c5) := T2.out.cell 1
      have q2 : (((w8.setCell ⟨w.heap.size + 2, 0, none⟩ (.int .i64 x.z)).setCell ⟨w.heap.size + 2, 1, none⟩ (.slice A5 x.of.length c5)).setCell ⟨w.heap.size + 2, 2, none⟩ (.slice A8 (x.ch.length + 1) c8)).cell? ⟨w.heap.size + 2, 2, none⟩ = some (.slice A8 (x.ch.length + 1) c8) := T2.out.cell 2
      refine bodyPost_ret (v := .tuple #[.agg #[.int .i64 x.z, .slice A5 x.of.length c5, .slice A8 (x.ch.length + 1) c8], .int .i64 0]) (by simp [results, Tryd.results31, go_sem, q0, q1, q2]) rfl ?_
      have L8 := hide (fun g h => (hown8.lt g h).1)
      have R8 : w8.ownsRow (w.heap.size + 3) 2 1 (.slice A5 x.of.length c5) x.of.length (x.of.map (Value.int .i64)) := own_below (R5X) B8.out (Nat.le_refl _)
      have ne5 : ∀ g, (Value.slice A5 x.of.length c5).ownBlock = some g → g ≠ w.heap.size + 2 := fun g e => by have := (R8.lt g e).1; omega
      have ne8 : ∀ g, (Value.slice A8 (x.ch.length + 1) c8).ownBlock = some g → g ≠ w.heap.size + 2 := fun g e => by have := L8.out g e; omega
      have K1 := ((R8.kept (grown_setCell w8 ⟨w.heap.size + 2, 0, none⟩ (.int .i64 x.z)) (.inr fun e => ne5 _ e rfl)).kept (grown_setCell _ ⟨w.heap.size + 2, 1, none⟩ (.slice A5 x.of.length c5)) (.inr fun e => ne5 _ e rfl)).kept (grown_setCell _ ⟨w.heap.size + 2, 2, none⟩ (.slice A8 (x.ch.length + 1) c8)) (.inr fun e => ne5 _ e rfl)
      have K2 := ((hown8.kept (grown_setCell w8 ⟨w.heap.size + 2, 0, none⟩ (.int .i64 x.z)) (.inr fun e => ne8 _ e rfl)).kept (grown_setCell _ ⟨w.heap.size + 2, 1, none⟩ (.slice A5 x.of.length c5)) (.inr fun e => ne8 _ e rfl)).kept (grown_setCell _ ⟨w.heap.size + 2, 2, none⟩ (.slice A8 (x.ch.length + 1) c8)) (.inr fun e => ne8 _ e rfl)
      have hap : ∀ g, (Value.slice A5 x.of.length c5).ownBlock = some g → ∀ g2, (Value.slice A8 (x.ch.length + 1) c8).ownBlock = some g2 → g < g2 := fun g e g2 e2 => by have h1 := HLT5.out g e; have h2 := L8.out g2 e2; have h3 := HWX; omega
      have hins : x.ch.take pn ++ y :: x.ch.drop pn = insC x.ch y := by rw [← hposn]; rfl
      have hn9 : x.ch.length + 1 = (insC x.ch y).length := (insC_len x.ch y).symm
      rw [HRES.out]
      rw [hins, hn9] at K2
      rw [hn9] at hap K1 ⊢
      have hbf := ((ST8.out.bel.setCell (p := ⟨w.heap.size + 2, 0, none⟩) (by dsimp only; omega) (.int .i64 x.z)).setCell (p := ⟨w.heap.size + 2, 1, none⟩) (by dsimp only; omega) (.slice A5 x.of.length c5)).setCell (p := ⟨w.heap.size + 2, 2, none⟩) (by dsimp only; omega) (.slice A8 (insC x.ch y).length c8)
      exact ⟨_, rfl, zoned_of (x := ⟨x.z, x.of, insC x.ch y⟩) hbf.size ⟨by show x.of.length ≤ _; omega, by show (insC x.ch y).length ≤ _; omega⟩ (own_base K1 (by omega)) (own_base K2 (by omega)) hap, hbf⟩
    · try simp only [Act.put, List.getElem_toArray, List.getElem_cons_succ, List.getElem_cons_zero, List.setIfInBounds_toArray, List.set_cons_zero, List.set_cons_succ]
      go_simp
      have ST6 := hide (ST5.out.alloc (.cells #[.int .i64 y.a, .int .i64 y.b, .int .i64 y.c] 41))
      refine hK.out _ _ (⟨ST6.out.z.cell 0, ST6.out.z.cell 1, ST6.out.z.cell 2, ST6.out.ch.cell 0, ST6.out.ch.cell 1, ST6.out.ch.cell 2⟩) (fun hHeld => ?_)
      clear hK K
      try simp only [Act.put, List.getElem_toArray, List.getElem_cons_succ, List.getElem_cons_zero, List.setIfInBounds_toArray, List.set_cons_zero, List.set_cons_succ]
      refine wpAnyH_ready (rs := [7]) (by kernel_rfl) (by simp) ?_
      refine AllReadyH.cons rfl (fun K hK => ?_) AllReadyH.nil
      try simp only [Act.put, List.getElem_toArray, List.getElem_cons_succ, List.getElem_cons_zero, List.setIfInBounds_toArray, List.set_cons_zero, List.set_cons_succ]
      go_simp
      go_at_call 87
      refine (cloneChange_any x.ch A2 c2 _ (by omega) ((HM.out.below ST6.out.bel).more ST6.out.bel.size)).mono ?_
      rintro e w7 ⟨A7, c7, rfl, hown7, b7⟩
      have ST7 := hide (ST6.out.below b7)
      dsimp only
      refine hK.out _ _ (⟨ST7.out.z.cell 0, ST7.out.z.cell 1, ST7.out.z.cell 2, ST7.out.ch.cell 0, ST7.out.ch.cell 1, ST7.out.ch.cell 2⟩) (fun hHeld => ?_)
      clear hK K
      try simp only [Act.put, List.getElem_toArray, List.getElem_cons_succ, List.getElem_cons_zero, List.setIfInBounds_toArray, List.set_cons_zero, List.set_cons_succ]
      have R5X := R5.out.alloc (.cells #[.int .i64 y.a, .int .i64 y.b, .int .i64 y.c] 41)
      have HWX : w5.heap.size ≤ (w5.alloc (.cells #[.int .i64 y.a, .int .i64 y.b, .int .i64 y.c] 41)).heap.size := by simp
      have hvb : w7.heap[w5.heap.size]? = some (.cells #[.int .i64 y.a, .int .i64 y.b, .int .i64 y.c] 41 (0, 0)) := ((b7.block w5.heap.size (by simp)).trans (BoxN.new w5 #[.int .i64 y.a, .int .i64 y.b, .int .i64 y.c] 41))
      have hne : ∀ g, (Value.slice A7 x.ch.length c7).ownBlock = some g → w5.heap.size ≠ g := fun g e => by have := (hown7.lt g e).1; simp at this; omega
      have hw7 : w7.ownsRow (w5.alloc (.cells #[.int .i64 y.a, .int .i64 y.b, .int .i64 y.c] 41)).heap.size 41 3 (.slice A7 x.ch.length c7) x.ch.length (x.ch.flatMap T3.cells) := hown7
      have hlo : (w5.alloc (.cells #[.int .i64 y.a, .int .i64 y.b, .int .i64 y.c] 41)).heap.size ≤ w7.heap.size := b7.size
      have BX7 := hide (show Below (w5.alloc (.cells #[.int .i64 y.a, .int .i64 y.b, .int .i64 y.c] 41)).heap.size (w5.alloc (.cells #[.int .i64 y.a, .int .i64 y.b, .int .i64 y.c] 41)) w7 from b7)
      have HZX : w.heap.size + 3 ≤ (w5.alloc (.cells #[.int .i64 y.a, .int .i64 y.b, .int .i64 y.c] 41)).heap.size := by have := ST5.out.sz; first | exact this | omega
      refine wpAnyH_ready (rs := [11]) (by kernel_rfl) (by simp) ?_
      refine AllReadyH.cons rfl (fun K hK => ?_) AllReadyH.nil
      try simp only [Act.put, List.getElem_toArray, List.getElem_cons_succ, List.getElem_cons_zero, List.setIfInBounds_toArray, List.set_cons_zero, List.set_cons_succ]
      go_simp
      go_at_call 86
      refine (insertC_any x.ch y pn A7 c7 (w5.heap.size) (w5.alloc (.cells #[.int .i64 y.a, .int .i64 y.b, .int .i64 y.c] 41)).heap.size _ (by omega) HPL.out hlo hw7 hvb hne).mono ?_
      rintro e w8 ⟨A8, c8, rfl, hown8, b8⟩
      have ST8 := hide (ST7.out.belowB b8 HZX)
      have B8 := hide (BX7.out.trans b8)
      clear hvb hne hw7 b8 BX7
      dsimp only
      refine hK.out _ _ (⟨ST8.out.z.cell 0, ST8.out.z.cell 1, ST8.out.z.cell 2, ST8.out.ch.cell 0, ST8.out.ch.cell 1, ST8.out.ch.cell 2⟩) (fun hHeld => ?_)
      clear hK K
      try simp only [Act.put, List.getElem_toArray, List.getElem_cons_succ, List.getElem_cons_zero, List.setIfInBounds_toArray, List.set_cons_zero, List.set_cons_succ]
      refine wpAnyH_take (i := 12) (v := ?_) rfl (by kernel_rfl) (by kernel_rfl) (by kernel_rfl) (fun _ _ _ h => h) (Or.inl ⟨by rfl, ?_⟩) (by assumption) ?_
      rotate_left 1
      · (intro w hSw; (try dsimp only at hSw); go_simp; try with_reducible rfl)
      try simp only [Act.put, List.getElem_toArray, List.getElem_cons_succ, List.getElem_cons_zero, List.setIfInBounds_toArray, List.set_cons_zero, List.set_cons_succ]
      have m0 : w8.cell? ⟨w.heap.size + 2, 0, none⟩ = some (.int .i64 0) := ST8.out.res.cell 0
      have n0 := ST8.out.res.fro 0
      have T0 := hide (ST8.out.res.set 0 (.int .i64 x.z))
      have m1 : (w8.setCell ⟨w.heap.size + 2, 0, none⟩ (.int .i64 x.z)).cell? ⟨w.heap.size + 2, 1, none⟩ = some (.slice none 0 0) := T0.out.cell 1
      have n1 := T0.out.fro 1
      have T1 := hide (T0.out.set 1 (.slice A5 x.of.length c5))
      have m2 : ((w8.setCell ⟨w.heap.size + 2, 0, none⟩ (.int .i64 x.z)).setCell ⟨w.heap.size + 2, 1, none⟩ (.slice A5 x.of.length c5)).cell? ⟨w.heap.size + 2, 2, none⟩ = some (.slice none 0 0) := T1.out.cell 2
      have n2 := T1.out.fro 2
      have T2 := hide (T1.out.set 2 (.slice A8 (x.ch.length + 1) c8))
      refine wpAnyH_ready (rs := [13]) (by kernel_rfl) (by simp) ?_
      refine AllReadyH.cons rfl (fun K hK => ?_) AllReadyH.nil
      try simp only [Act.put, List.getElem_toArray, List.getElem_cons_succ, List.getElem_cons_zero, List.setIfInBounds_toArray, List.set_cons_zero, List.set_cons_succ]
      go_simp
      have N9 := hide (setresZ (setresZ (ST8.out.setres 0 (.int .i64 x.z)) 1 (.slice A5 x.of.length c5)) 2 (.slice A8 (x.ch.length + 1) c8))
      refine hK.out _ _ (⟨N9.out.1.cell 0, N9.out.1.cell 1, N9.out.1.cell 2, N9.out.2.cell 0, N9.out.2.cell 1, N9.out.2.cell 2⟩) (fun hHeld => ?_)
      clear hK K
      try simp only [Act.put, List.getElem_toArray, List.getElem_cons_succ, List.getElem_cons_zero, List.setIfInBounds_toArray, List.set_cons_zero, List.set_cons_succ]
      refine wpAnyH_take (i := 14) (v := ?_) rfl (by kernel_rfl) (by kernel_rfl) (by kernel_rfl) (fun _ _ _ h => h) (Or.inl ⟨by rfl, ?_⟩) (by assumption) ?_
      rotate_left 1
      · (intro w hSw; (try dsimp only at hSw); go_simp; try with_reducible rfl)
      try simp only [Act.put, List.getElem_toArray, List.getElem_cons_succ, List.getElem_cons_zero, List.setIfInBounds_toArray, List.set_cons_zero, List.set_cons_succ]
      refine wpAnyH_done (by kernel_rfl) ?_ _
      go_wp2_with fail
      have q0 : (((w8.setCell ⟨w.heap.size + 2, 0, none⟩ (.int .i64 x.z)).setCell ⟨w.heap.size + 2, 1, none⟩ (.slice A5 x.of.length c5)).setCell ⟨w.heap.size + 2, 2, none⟩ (.slice A8 (x.ch.length + 1) c8)).cell? ⟨w.heap.size + 2, 0, none⟩ = some (.int .i64 x.z) := T2.out.cell 0
      have q1 : (((w8.setCell ⟨w.heap.size + 2, 0, none⟩ (.int .i64 x.z)).setCell ⟨w.heap.size + 2, 1, none⟩ (.slice A5 x.of.length c5)).setCell ⟨w.heap.size + 2, 2, none⟩ (.slice A8 (x.ch.length + 1) c8)).cell? ⟨w.heap.size + 2, 1, none⟩ = some (.slice A5 x.of.length c5) := T2.out.cell 1
      have q2 : (((w8.setCell ⟨w.heap.size + 2, 0, none⟩ (.int .i64 x.z)).setCell ⟨w.heap.size + 2, 1, none⟩ (.slice A5 x.of.length c5)).setCell ⟨w.heap.size + 2, 2, none⟩ (.slice A8 (x.ch.length + 1) c8)).cell? ⟨w.heap.size + 2, 2, none⟩ = some (.slice A8 (x.ch.length + 1) c8) := T2.out.cell 2
      refine bodyPost_ret (v := .tuple #[.agg #[.int .i64 x.z, .slice A5 x.of.length c5, .slice A8 (x.ch.length + 1) c8], .int .i64 0]) (by simp [results, Tryd.results31, go_sem, q0, q1, q2]) rfl ?_
      have L8 := hide (fun g h => (hown8.lt g h).1)
      have R8 : w8.ownsRow (w.heap.size + 3) 2 1 (.slice A5 x.of.length c5) x.of.length (x.of.map (Value.int .i64)) := own_below (R5X) B8.out (Nat.le_refl _)
      have ne5 : ∀ g, (Value.slice A5 x.of.length c5).ownBlock = some g → g ≠ w.heap.size + 2 := fun g e => by have := (R8.lt g e).1; omega
      have ne8 : ∀ g, (Value.slice A8 (x.ch.length + 1) c8).ownBlock = some g → g ≠ w.heap.size + 2 := fun g e => by have := L8.out g e; omega
      have K1 := ((R8.kept (grown_setCell w8 ⟨w.heap.size + 2, 0, none⟩ (.int .i64 x.z)) (.inr fun e => ne5 _ e rfl)).kept (grown_setCell _ ⟨w.heap.size + 2, 1, none⟩ (.slice A5 x.of.length c5)) (.inr fun e => ne5 _ e rfl)).kept (grown_setCell _ ⟨w.heap.size + 2, 2, none⟩ (.slice A8 (x.ch.length + 1) c8)) (.inr fun e => ne5 _ e rfl)
      have K2 := ((hown8.kept (grown_setCell w8 ⟨w.heap.size + 2, 0, none⟩ (.int .i64 x.z)) (.inr fun e => ne8 _ e rfl)).kept (grown_setCell _ ⟨w.heap.size + 2, 1, none⟩ (.slice A5 x.of.length c5)) (.inr fun e => ne8 _ e rfl)).kept (grown_setCell _ ⟨w.heap.size + 2, 2, none⟩ (.slice A8 (x.ch.length + 1) c8)) (.inr fun e => ne8 _ e rfl)
      have hap : ∀ g, (Value.slice A5 x.of.length c5).ownBlock = some g → ∀ g2, (Value.slice A8 (x.ch.length + 1) c8).ownBlock = some g2 → g < g2 := fun g e g2 e2 => by have h1 := HLT5.out g e; have h2 := L8.out g2 e2; have h3 := HWX; omega
      have hins : x.ch.take pn ++ y :: x.ch.drop pn = insC x.ch y := by rw [← hposn]; rfl
      have hn9 : x.ch.length + 1 = (insC x.ch y).length := (insC_len x.ch y).symm
      rw [HRES.out]
      rw [hins, hn9] at K2
      rw [hn9] at hap K1 ⊢
      have hbf := ((ST8.out.bel.setCell (p := ⟨w.heap.size + 2, 0, none⟩) (by dsimp only; omega) (.int .i64 x.z)).setCell (p := ⟨w.heap.size + 2, 1, none⟩) (by dsimp only; omega) (.slice A5 x.of.length c5)).setCell (p := ⟨w.heap.size + 2, 2, none⟩) (by dsimp only; omega) (.slice A8 (insC x.ch y).length c8)
      exact ⟨_, rfl, zoned_of (x := ⟨x.z, x.of, insC x.ch y⟩) hbf.size ⟨by show x.of.length ≤ _; omega, by show (insC x.ch y).length ≤ _; omega⟩ (own_base K1 (by omega)) (own_base K2 (by omega)) hap, hbf⟩
  · try simp only [Act.put, List.getElem_toArray, List.getElem_cons_succ, List.getElem_cons_zero, List.setIfInBounds_toArray, List.set_cons_zero, List.set_cons_succ]
    go_simp
    have ST4B := hide (STD.out.alloc (.cells #[.int .i64 y.a, .int .i64 y.b, .int .i64 y.c] 41))
    refine hK.out _ _ (⟨ST4B.out.z.cell 0, ST4B.out.z.cell 1, ST4B.out.z.cell 2, ST4B.out.ch.cell 0, ST4B.out.ch.cell 1, ST4B.out.ch.cell 2⟩) (fun hHeld => ?_)
    clear hK K
    try simp only [Act.put, List.getElem_toArray, List.getElem_cons_succ, List.getElem_cons_zero, List.setIfInBounds_toArray, List.set_cons_zero, List.set_cons_succ]
    refine wpAnyH_ready (rs := [4]) (by kernel_rfl) (by simp) ?_
    refine AllReadyH.cons rfl (fun K hK => ?_) AllReadyH.nil
    try simp only [Act.put, List.getElem_toArray, List.getElem_cons_succ, List.getElem_cons_zero, List.setIfInBounds_toArray, List.set_cons_zero, List.set_cons_succ]
    go_simp
    go_at_call 85
    refine (cloneI_any x.of A c _ (by omega) ((HX.out.below ST4B.out.bel).more ST4B.out.bel.size)).mono ?_
    rintro e w5 ⟨A5, c5, rfl, hown5, b5⟩
    have ST5 := hide (ST4B.out.below b5)
    have R5 := hide (own_base hown5 ST4B.out.sz)
    have HLT5 := hide (fun g h => (hown5.lt g h).2)
    clear hown5
    dsimp only
    refine hK.out _ _ (⟨ST5.out.z.cell 0, ST5.out.z.cell 1, ST5.out.z.cell 2, ST5.out.ch.cell 0, ST5.out.ch.cell 1, ST5.out.ch.cell 2⟩) (fun hHeld => ?_)
    clear hK K
    try simp only [Act.put, List.getElem_toArray, List.getElem_cons_succ, List.getElem_cons_zero, List.setIfInBounds_toArray, List.set_cons_zero, List.set_cons_succ]
    refine wpAnyH_ready (rs := [7]) (by kernel_rfl) (by simp) ?_
    refine AllReadyH.cons rfl (fun K hK => ?_) AllReadyH.nil
    try simp only [Act.put, List.getElem_toArray, List.getElem_cons_succ, List.getElem_cons_zero, List.setIfInBounds_toArray, List.set_cons_zero, List.set_cons_succ]
    go_simp
    go_at_call 87
    refine (cloneChange_any x.ch A2 c2 _ (by omega) ((HM.out.below ST5.out.bel).more ST5.out.bel.size)).mono ?_
    rintro e w7 ⟨A7, c7, rfl, hown7, b7⟩
    have ST7 := hide (ST5.out.below b7)
    dsimp only
    refine hK.out _ _ (⟨ST7.out.z.cell 0, ST7.out.z.cell 1, ST7.out.z.cell 2, ST7.out.ch.cell 0, ST7.out.ch.cell 1, ST7.out.ch.cell 2⟩) (fun hHeld => ?_)
    clear hK K
    try simp only [Act.put, List.getElem_toArray, List.getElem_cons_succ, List.getElem_cons_zero, List.setIfInBounds_toArray, List.set_cons_zero, List.set_cons_succ]
    have R5X := R5.out
    have hvd5 : wd.heap.size < w5.heap.size := by have := b5.size; simp at this; omega
    have HWX : w5.heap.size ≤ w5.heap.size := Nat.le_refl _
    have hvb : w7.heap[wd.heap.size]? = some (.cells #[.int .i64 y.a, .int .i64 y.b, .int .i64 y.c] 41 (0, 0)) := ((b7.block wd.heap.size hvd5).trans ((b5.block wd.heap.size (by simp)).trans (BoxN.new wd #[.int .i64 y.a, .int .i64 y.b, .int .i64 y.c] 41)))
    have hne : ∀ g, (Value.slice A7 x.ch.length c7).ownBlock = some g → wd.heap.size ≠ g := fun g e => by have := (hown7.lt g e).1; omega
    have hw7 : w7.ownsRow w5.heap.size 41 3 (.slice A7 x.ch.length c7) x.ch.length (x.ch.flatMap T3.cells) := hown7
    have hlo : w5.heap.size ≤ w7.heap.size := b7.size
    have BX7 := hide (show Below w5.heap.size w5 w7 from b7)
    have HZX : w.heap.size + 3 ≤ w5.heap.size := by have := ST5.out.sz; first | exact this | omega
    refine wpAnyH_ready (rs := [11]) (by kernel_rfl) (by simp) ?_
    refine AllReadyH.cons rfl (fun K hK => ?_) AllReadyH.nil
    try simp only [Act.put, List.getElem_toArray, List.getElem_cons_succ, List.getElem_cons_zero, List.setIfInBounds_toArray, List.set_cons_zero, List.set_cons_succ]
    go_simp
    go_at_call 86
    refine (insertC_any x.ch y pn A7 c7 (wd.heap.size) w5.heap.size _ (by omega) HPL.out hlo hw7 hvb hne).mono ?_
    rintro e w8 ⟨A8, c8, rfl, hown8, b8⟩
    have ST8 := hide (ST7.out.belowB b8 HZX)
    have B8 := hide (BX7.out.trans b8)
    clear hvb hne hw7 b8 BX7
    dsimp only
    refine hK.out _ _ (⟨ST8.out.z.cell 0, ST8.out.z.cell 1, ST8.out.z.cell 2, ST8.out.ch.cell 0, ST8.out.ch.cell 1, ST8.out.ch.cell 2⟩) (fun hHeld => ?_)
    clear hK K
    try simp only [Act.put, List.getElem_toArray, List.getElem_cons_succ, List.getElem_cons_zero, List.setIfInBounds_toArray, List.set_cons_zero, List.set_cons_succ]
    refine wpAnyH_take (i := 12) (v := ?_) rfl (by kernel_rfl) (by kernel_rfl) (by kernel_rfl) (fun _ _ _ h => h) (Or.inl ⟨by rfl, ?_⟩) (by assumption) ?_
    rotate_left 1
    · (intro w hSw; (try dsimp only at hSw); go_simp; try with_reducible rfl)
    try simp only [Act.put, List.getElem_toArray, List.getElem_cons_succ, List.getElem_cons_zero, List.setIfInBounds_toArray, List.set_cons_zero, List.set_cons_succ]
    have m0 : w8.cell? ⟨w.heap.size + 2, 0, none⟩ = some (.int .i64 0) := ST8.out.res.cell 0
    have n0 := ST8.out.res.fro 0
    have T0 := hide (ST8.out.res.set 0 (.int .i64 x.z))
    have m1 : (w8.setCell ⟨w.heap.size + 2, 0, none⟩ (.int .i64 x.z)).cell? ⟨w.heap.size + 2, 1, none⟩ = some (.slice none 0 0) := T0.out.cell 1
    have n1 := T0.out.fro 1
    have T1 := hide (T0.out.set 1 (.slice A5 x.of.length c5))
    have m2 : ((w8.setCell ⟨w.heap.size + 2, 0, none⟩ (.int .i64 x.z)).setCell ⟨w.heap.size + 2, 1, none⟩ (.slice A5 x.of.length c5)).cell? ⟨w.heap.size + 2, 2, none⟩ = some (.slice none 0 0) := T1.out.cell 2
    have n2 := T1.out.fro 2
    have T2 := hide (T1.out.set 2 (.slice A8 (x.ch.length + 1) c8))
    refine wpAnyH_ready (rs := [13]) (by kernel_rfl) (by simp) ?_
    refine AllReadyH.cons rfl (fun K hK => ?_) AllReadyH.nil
    try simp only [Act.put, List.getElem_toArray, List.getElem_cons_succ, List.getElem_cons_zero, List.setIfInBounds_toArray, List.set_cons_zero, List.set_cons_succ]
    go_simp
    have N9 := hide (setresZ (setresZ (ST8.out.setres 0 (.int .i64 x.z)) 1 (.slice A5 x.of.length c5)) 2 (.slice A8 (x.ch.length + 1) c8))
    refine hK.out _ _ (⟨N9.out.1.cell 0, N9.out.1.cell 1, N9.out.1.cell 2, N9.out.2.cell 0, N9.out.2.cell 1, N9.out.2.cell 2⟩) (fun hHeld => ?_)
    clear hK K
    try simp only [Act.put, List.getElem_toArray, List.getElem_cons_succ, List.getElem_cons_zero, List.setIfInBounds_toArray, List.set_cons_zero, List.set_cons_succ]
    refine wpAnyH_take (i := 14) (v := ?_) rfl (by kernel_rfl) (by kernel_rfl) (by kernel_rfl) (fun _ _ _ h => h) (Or.inl ⟨by rfl, ?_⟩) (by assumption) ?_
    rotate_left 1
    · (intro w hSw; (try dsimp only at hSw); go_simp; try with_reducible rfl)
    try simp only [Act.put, List.getElem_toArray, List.getElem_cons_succ, List.getElem_cons_zero, List.setIfInBounds_toArray, List.set_cons_zero, List.set_cons_succ]
    refine wpAnyH_done (by kernel_rfl) ?_ _
    go_wp2_with fail
    have q0 : (((w8.setCell ⟨w.heap.size + 2, 0, none⟩ (.int .i64 x.z)).setCell ⟨w.heap.size + 2, 1, none⟩ (.slice A5 x.of.length c5)).setCell ⟨w.heap.size + 2, 2, none⟩ (.slice A8 (x.ch.length + 1) c8)).cell? ⟨w.heap.size + 2, 0, none⟩ = some (.int .i64 x.z) := T2.out.cell 0
    have q1 : (((w8.setCell ⟨w.heap.size + 2, 0, none⟩ (.int .i64 x.z)).setCell ⟨w.heap.size + 2, 1, none⟩ (.slice A5 x.of.length c5)).setCell ⟨w.heap.size + 2, 2, none⟩ (.slice A8 (x.ch.length + 1) c8)).cell? ⟨w.heap.size + 2, 1, none⟩ = some (.slice A5 x.of.length c5) := T2.out.cell 1
    have q2 : (((w8.setCell ⟨w.heap.size + 2, 0, none⟩ (.int .i64 x.z)).setCell ⟨w.heap.size + 2, 1, none⟩ (.slice A5 x.of.length c5)).setCell ⟨w.heap.size + 2, 2, none⟩ (.slice A8 (x.ch.length + 1) c8)).cell? ⟨w.heap.size + 2, 2, none⟩ = some (.slice A8 (x.ch.length + 1) c8) := T2.out.cell 2
    refine bodyPost_ret (v := .tuple #[.agg #[.int .i64 x.z, .slice A5 x.of.length c5, .slice A8 (x.ch.length + 1) c8], .int .i64 0]) (by simp [results, Tryd.results31, go_sem, q0, q1, q2]) rfl ?_
    have L8 := hide (fun g h => (hown8.lt g h).1)
    have R8 : w8.ownsRow (w.heap.size + 3) 2 1 (.slice A5 x.of.length c5) x.of.length (x.of.map (Value.int .i64)) := own_below (R5X) B8.out (Nat.le_refl _)
    have ne5 : ∀ g, (Value.slice A5 x.of.length c5).ownBlock = some g → g ≠ w.heap.size + 2 := fun g e => by have := (R8.lt g e).1; omega
    have ne8 : ∀ g, (Value.slice A8 (x.ch.length + 1) c8).ownBlock = some g → g ≠ w.heap.size + 2 := fun g e => by have := L8.out g e; omega
    have K1 := ((R8.kept (grown_setCell w8 ⟨w.heap.size + 2, 0, none⟩ (.int .i64 x.z)) (.inr fun e => ne5 _ e rfl)).kept (grown_setCell _ ⟨w.heap.size + 2, 1, none⟩ (.slice A5 x.of.length c5)) (.inr fun e => ne5 _ e rfl)).kept (grown_setCell _ ⟨w.heap.size + 2, 2, none⟩ (.slice A8 (x.ch.length + 1) c8)) (.inr fun e => ne5 _ e rfl)
    have K2 := ((hown8.kept (grown_setCell w8 ⟨w.heap.size + 2, 0, none⟩ (.int .i64 x.z)) (.inr fun e => ne8 _ e rfl)).kept (grown_setCell _ ⟨w.heap.size + 2, 1, none⟩ (.slice A5 x.of.length c5)) (.inr fun e => ne8 _ e rfl)).kept (grown_setCell _ ⟨w.heap.size + 2, 2, none⟩ (.slice A8 (x.ch.length + 1) c8)) (.inr fun e => ne8 _ e rfl)
    have hap : ∀ g, (Value.slice A5 x.of.length c5).ownBlock = some g → ∀ g2, (Value.slice A8 (x.ch.length + 1) c8).ownBlock = some g2 → g < g2 := fun g e g2 e2 => by have h1 := HLT5.out g e; have h2 := L8.out g2 e2; have h3 := HWX; omega
    have hins : x.ch.take pn ++ y :: x.ch.drop pn = insC x.ch y := by rw [← hposn]; rfl
    have hn9 : x.ch.length + 1 = (insC x.ch y).length := (insC_len x.ch y).symm
    rw [HRES.out]
    rw [hins, hn9] at K2
    rw [hn9] at hap K1 ⊢
    have hbf := ((ST8.out.bel.setCell (p := ⟨w.heap.size + 2, 0, none⟩) (by dsimp only; omega) (.int .i64 x.z)).setCell (p := ⟨w.heap.size + 2, 1, none⟩) (by dsimp only; omega) (.slice A5 x.of.length c5)).setCell (p := ⟨w.heap.size + 2, 2, none⟩) (by dsimp only; omega) (.slice A8 (insC x.ch y).length c8)
    exact ⟨_, rfl, zoned_of (x := ⟨x.z, x.of, insC x.ch y⟩) hbf.size ⟨by show x.of.length ≤ _; omega, by show (insC x.ch y).length ≤ _; omega⟩ (own_base K1 (by omega)) (own_base K2 (by omega)) hap, hbf⟩
end Go.Proofs.YtofjnmeblmbnmaaDoor
