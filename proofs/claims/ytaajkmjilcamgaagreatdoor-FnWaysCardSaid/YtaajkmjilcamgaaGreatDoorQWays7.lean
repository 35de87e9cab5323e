/-
  Networks in the program: stations that are reached, tubes from a station, the least length.
  Networks in the program: stations that are reached, the least length.
  Networks in the reference: the least lengths.
  Networks in the reference: the first shortest way.
  The first shortest way, in the program.
  Decimal forms: the reference's loop. Plain lemmas.
-/
import Derived.Test.YtaajkmjilcamgaaGreatDoorQWays5
import Derived.Test.YtaajkmjilcamgaaGreatDoorQWays6
import Derived.Deep.RegionHeld3
import Derived.Test.YtaajkmjilcamgaaGreatDoorQWays0
import Derived.Lib.ItoaNum
namespace Go.Proofs.YtaajkmjilcamgaaGreatDoor
open Go.RowKit
theorem rdI1 {w : World} {v : Int} : RdI (w.alloc (.cells #[.int .i64 v] 2)) (w.alloc (.cells #[.int .i64 v] 2)).heap.size (some ⟨w.heap.size, 0, none⟩) [v] := by
  show Rd _ _ _ [Value.int .i64 v]
  exact Rd.more (rd_new w [.int .i64 v] 2 w.heap.size rfl) (by simp)
theorem rdI2 {w : World} {v u : Int} : RdI (w.alloc (.cells #[.int .i64 v, .int .i64 u] 2)) (w.alloc (.cells #[.int .i64 v, .int .i64 u] 2)).heap.size (some ⟨w.heap.size, 0, none⟩) [v, u] := by
  show Rd _ _ _ [Value.int .i64 v, Value.int .i64 u]
  exact Rd.more (rd_new w [.int .i64 v, .int .i64 u] 2 w.heap.size rfl) (by simp)
set_option maxRecDepth 100000 in
set_option maxHeartbeats 4000000 in
theorem tubesFrom_any (n : Nat) (tb : List T3) (s : Int) (A : Option Addr) (c : Nat) (w : World) (hl : tb.length ≤ 24) (hr : Rd3 w w.heap.size A tb) :
    Calls Tryz.prog 38 #[.agg #[.int .i64 n, .slice A tb.length c], .int .i64 s] w fun e w' => ∃ A' c', e = .returned (.slice A' (tubesL tb s).length c') ∧ w'.ownsRow w.heap.size 2 1 (.slice A' (tubesL tb s).length c') (tubesL tb s).length ((tubesL tb s).map (Value.int .i64)) ∧ Below w.heap.size w w' := by
  obtain ⟨i0, hi0, hz0, hs0, hb0⟩ := info_parts int64_info
  have HR := hide hr
  have b0 : Below w.heap.size w (w.alloc (.cells #[.int .i64 n, .slice A tb.length c] 26)) := (by repeat (first | exact Below.refl _ _ | assumption | (refine Below.alloc ?_ (by simp <;> omega) _) | refine Below.drew ?_ | refine bdn ?_ _))
  have X0 := BoxN.new w #[.int .i64 n, .slice A tb.length c] 26
  have k1 : (w.alloc (.cells #[.int .i64 n, .slice A tb.length c] 26)).cell? ⟨w.heap.size, 1, none⟩ = some (.slice A tb.length c) := X0.cell 1
  have z0 := X0.lt
  clear hr X0
  go_enter Tryz.func38, Tryz.ntmps38
  go_upto_region 1 with fail
  generalize w.alloc (.cells #[.int .i64 n, .slice A tb.length c] 26) = w0 at *
  have ho1 := own_new0 w0 w.heap.size 2 1 b0.size
  have HB1 := hide (b0.alloc b0.size (.cells #[] 2))
  have k1' : (w0.alloc (.cells #[] 2)).cell? ⟨w.heap.size, 1, none⟩ = some (.slice A tb.length c) := (World.cell?_alloc_old _ _ _ (by dsimp only; omega)).trans k1
  clear k1
  go_upto_region 2 with fail
  generalize w0.alloc (.cells #[] 2) = w1 at *
  generalize w0.heap.size = g1 at *
  go_wp2_with fail
  go_loopg [5, 12] tb.length (fun g s' i wr => ∃ (k : Nat) (acc : List Int), k ≤ tb.length ∧ Hid (g = tb.length - k) ∧ i = .int .i64 k ∧ acc.length ≤ k ∧ wr.ownsRow w.heap.size 2 1 s' acc.length (acc.map (Value.int .i64)) ∧ Hid (tubesL tb s = acc ++ idxFrom (fun t : T3 => t.a == s) (tb.drop k) k) ∧ Hid (Below w.heap.size w wr))
  case atStart => exact ⟨0, [], by omega, by simp [Hid], rfl, by simp, ho1, by simp [Hid, tubesL], HB1.out⟩
  case round =>
    obtain ⟨k, acc, hk, hg, rfl, hal, hown, HS, HB⟩ := hrel
    clear ho1 HB1 k1'
    by_cases hkt : k < tb.length
    · obtain ⟨pb, po, t, rfl, _, htj, hta, htb, htc⟩ := (HR.out.below HB.out).at_ hkt
      have hzw := HB.out.size
      have HOW := hide (hown.alloc (.cells #[.int .i64 t.a, .int .i64 t.b, .int .i64 t.c] 41))
      have HBT := hide (HB.out.alloc hzw (.cells #[.int .i64 t.a, .int .i64 t.b, .int .i64 t.c] 41))
      have k0 : (wr.alloc (.cells #[.int .i64 t.a, .int .i64 t.b, .int .i64 t.c] 41)).cell? ⟨wr.heap.size, 0, none⟩ = some (.int .i64 t.a) := (BoxN.new wr #[.int .i64 t.a, .int .i64 t.b, .int .i64 t.c] 41).cell 0
      have hS := HS.out
      rw [drop_cons htj] at hS
      clear hown HB HS htj
      go_upto_region 5 with fail
      generalize wr.alloc (.cells #[.int .i64 t.a, .int .i64 t.b, .int .i64 t.c] 41) = wT at *
      by_cases he : t.a = s
      · have hE : (t.a == s) = true := by simp [he]
        have HS2 : Hid (tubesL tb s = (acc ++ [(k : Int)]) ++ idxFrom (fun t : T3 => t.a == s) (tb.drop (k + 1)) (k + 1)) := by
          unfold Hid; rw [hS]; simp only [idxFrom, hE, if_true]; simp
        have HE := hide he
        have hown := HOW.out
        have hzT := HBT.out.size
        clear he hS
        go_wp2_with (at_builtin; go_must (refine wp_app _ rfl _ _ 31 rfl (w.heap.size) 2 i0 (.int .i64 0) 1 8 Tryz.underlying31 hi0 hz0 hs0 hb0 rfl (by decide) _ _ _ rfl (hown.alloc _) _ _ 1 1 [.int .i64 (k : Int)] rfl rfl (rd_new _ _ _ _ (by first | rfl | simp)) (int_one _) (by omega) (by decide) (by first | omega | (simp <;> omega) | (simp; omega)) ?_); intro v4 w4 hown4 hgrow4 hat4)
        have hb4 := app_below (HBT.out.alloc HBT.out.size (.cells #[.int .i64 (k : Int)] 2)) (hown.alloc (.cells #[.int .i64 (k : Int)] 2)) hgrow4 (Nat.le_refl _) (by simp <;> omega)
        go_roundg (tb.length - (k + 1))
        case measure => have := hg.out; omega
        case rel => exact ⟨k + 1, acc ++ [(k : Int)], by omega, rfl, by go_num, by simp; omega, by simpa using hown4, HS2, hb4⟩
      · have hE : (t.a == s) = false := by simp [he]
        have HS2 : Hid (tubesL tb s = acc ++ idxFrom (fun t : T3 => t.a == s) (tb.drop (k + 1)) (k + 1)) := by
          unfold Hid; rw [hS]; simp only [idxFrom, hE]; rfl
        have HE := hide he
        clear he hS
        go_wp2_with fail
        go_roundg (tb.length - (k + 1))
        case measure => have := hg.out; omega
        case rel => exact ⟨k + 1, acc, by omega, rfl, by go_num, by omega, HOW.out, HS2, HBT⟩
    · have hS := HS.out
      rw [List.drop_eq_nil_of_le (by omega)] at hS
      simp only [idxFrom, List.append_nil] at hS
      have HS2 := hide hS
      obtain ⟨A9, c9, hsh, _⟩ := own_shape hown
      subst hsh
      clear hS
      go_wp2_with fail
      go_ret
      rw [HS2.out]
      exact ⟨A9, c9, rfl, hown, HB.out⟩
end Go.Proofs.YtaajkmjilcamgaaGreatDoor
namespace Go.Proofs.YtaajkmjilcamgaaGreatDoor
open Go.RowKit
set_option maxRecDepth 100000 in
set_option maxHeartbeats 4000000 in
theorem implShortest_any (n : Nat) (tb : List T3) (s td : Int) (A : Option Addr) (c : Nat) (w : World) (h : OkNet n tb) (hs : 0 ≤ s ∧ s < n) (ht : 0 ≤ td ∧ td < n) (hr : Rd3 w w.heap.size A tb) :
    Calls Tryz.prog 8 #[.agg #[.int .i64 n, .slice A tb.length c], .int .i64 s, .int .i64 td] w fun e w' => e = .returned (.tuple #[.int .i64 (if 0 ≤ dAt (dist n tb td (-1)) s then dAt (dist n tb td (-1)) s else 0), .int .i64 (if 0 ≤ dAt (dist n tb td (-1)) s then 0 else 3)]) ∧ Below w.heap.size w w' := by
  obtain ⟨sn, rfl⟩ := Int.eq_ofNat_of_zero_le hs.1
  have hsn : sn < n := by omega
  have b0 : Below w.heap.size w ((w.alloc (.cells #[.int .i64 n, .slice A tb.length c] 26)).alloc (.cells #[.int .i64 (sn : Int), .int .i64 td] 2)) := (by repeat (first | exact Below.refl _ _ | assumption | (refine Below.alloc ?_ (by simp <;> omega) _) | refine Below.drew ?_ | refine bdn ?_ _))
  have X0 := (BoxN.new w #[.int .i64 n, .slice A tb.length c] 26).alloc (.cells #[.int .i64 (sn : Int), .int .i64 td] 2)
  have HV := hide (show Calls Tryz.prog 36 #[.agg #[.int .i64 n, .slice A tb.length c], .slice (some ⟨w.heap.size + 1, 0, none⟩) 2 2] ((w.alloc (.cells #[.int .i64 n, .slice A tb.length c] 26)).alloc (.cells #[.int .i64 (sn : Int), .int .i64 td] 2)) _ from by
    have h1 := netCode_any n tb [(sn : Int), td] A (some ⟨(w.alloc (.cells #[.int .i64 n, .slice A tb.length c] 26)).heap.size, 0, none⟩) c 2 _ h ((hr.below b0).more b0.size) (by intro z hz; simp at hz; rcases hz with rfl | rfl <;> omega) (by simp) rdI2
    rw [show (w.alloc (.cells #[.int .i64 n, .slice A tb.length c] 26)).heap.size = w.heap.size + 1 by simp] at h1
    exact h1)
  have HD := hide fun W (hW : Below w.heap.size w W) => distances_any n tb td (-1) A c W h ht ((hr.below hW).more hW.size)
  have X1 := hide X0
  have B0 := hide b0
  have hsl : (sn : Int) < (n : Int) := by omega
  have hs0' : (0 : Int) ≤ (sn : Int) := by omega
  obtain ⟨z, hz⟩ : ∃ z, (dist n tb td (-1))[sn]? = some z := ⟨_, List.getElem?_eq_getElem (show sn < (dist n tb td (-1)).length by rw [dist_len]; exact hsn)⟩
  have HZ := hide hz
  have HLEN := hide (dist_len n tb td (-1))
  rw [dAt_get hz]
  clear hr h X0 hs ht b0 hz
  by_cases hz0' : 0 ≤ z
  · rw [if_pos hz0', if_pos hz0']
    go_enter Tryz.func8, Tryz.ntmps8
    go_wp2_with (first | (go_at_call 36; (with_reducible refine (HV.out).mono ?_); rintro e w1 ⟨rfl, b1⟩; have X2 := X1.out.only (lo := w.heap.size) (hi := w.heap.size) (only_of_below b1) (.inr (Nat.le_refl _)); have q0 : w1.cell? ⟨w.heap.size, 0, none⟩ = some (.int .i64 n) := X2.cell 0; have q1 : w1.cell? ⟨w.heap.size, 1, none⟩ = some (.slice A tb.length c) := X2.cell 1; have HB1 := hide (B0.out.trans (b1.mono B0.out.size)); clear X2) | (go_at_call 37; (with_reducible refine (HD.out _ HB1.out).mono ?_); rintro e w2 ⟨g', rfl, hown, b2⟩; have cz : w2.cell? ⟨g', sn, none⟩ = some (.int .i64 z) := (by rw [hown.cellAt sn (by omega), List.getElem?_map, HZ.out]; rfl); clear hown))
    go_ret2
    exact ⟨rfl, HB1.out.trans (b2.mono HB1.out.size)⟩
  · rw [if_neg hz0', if_neg hz0']
    have hzn : z < 0 := by omega
    clear hz0'
    go_enter Tryz.func8, Tryz.ntmps8
    go_wp2_with (first | (go_at_call 36; (with_reducible refine (HV.out).mono ?_); rintro e w1 ⟨rfl, b1⟩; have X2 := X1.out.only (lo := w.heap.size) (hi := w.heap.size) (only_of_below b1) (.inr (Nat.le_refl _)); have q0 : w1.cell? ⟨w.heap.size, 0, none⟩ = some (.int .i64 n) := X2.cell 0; have q1 : w1.cell? ⟨w.heap.size, 1, none⟩ = some (.slice A tb.length c) := X2.cell 1; have HB1 := hide (B0.out.trans (b1.mono B0.out.size)); clear X2) | (go_at_call 37; (with_reducible refine (HD.out _ HB1.out).mono ?_); rintro e w2 ⟨g', rfl, hown, b2⟩; have cz : w2.cell? ⟨g', sn, none⟩ = some (.int .i64 z) := (by rw [hown.cellAt sn (by omega), List.getElem?_map, HZ.out]; rfl); clear hown))
    go_ret2
    exact ⟨rfl, HB1.out.trans (b2.mono HB1.out.size)⟩
end Go.Proofs.YtaajkmjilcamgaaGreatDoor
namespace Go.Proofs.YtaajkmjilcamgaaGreatDoor
open Go.RowKit
/-- A tube leads to no shorter length. -/
def FixAt (tb : List T3) (d : List Int) (j : Nat) : Prop := ∀ t, tb[j]? = some t → 0 ≤ dAt d t.b → 0 ≤ dAt d t.a ∧ dAt d t.a ≤ dAt d t.b + t.c
theorem dAt_getF {d : List Int} {v : Nat} {z : Int} (h : d[v]? = some z) : dAt d (v : Int) = z := by simp [dAt, h]
end Go.Proofs.YtaajkmjilcamgaaGreatDoor
namespace Go.Proofs.YtaajkmjilcamgaaGreatDoor
open Go.RowKit
theorem far_opt {n : Nat} {tb : List T3} {d : List Int} {td : Nat} (hok : OkTubes n tb) (hF : ∀ j, FixAt tb d j) (h0 : dAt d td = 0) : ∀ (p : List Int) (v : Int), wk tb (-1) p v td → 0 ≤ dAt d v ∧ dAt d v ≤ lenW tb p := by
  intro p
  induction p with
  | nil => intro v h; have : v = (td : Int) := h; subst this; rw [h0]; exact ⟨Int.le_refl _, Int.le_refl _⟩
  | cons i p ih =>
    rintro v ⟨hi, _, t, ht, ha, h⟩
    obtain ⟨h1, h2⟩ := ih t.b h
    obtain ⟨h3, h4⟩ := hF i.toNat t ht h1
    rw [ha] at h3 h4
    rw [lenW, tubeAt_get ht]; omega
theorem far_step {n : Nat} {tb : List T3} {d : List Int} {td : Nat} (hok : OkTubes n tb) (hS : Sound tb (-1) td d) (hF : ∀ j, FixAt tb d j) (h0 : dAt d td = 0) {v : Int} (hv : 0 ≤ v) (hd : 0 ≤ dAt d v) (hne : v ≠ (td : Int)) :
    ∃ (j : Nat) (t : T3), tb[j]? = some t ∧ t.a = v ∧ 0 ≤ dAt d t.b ∧ dAt d t.b + t.c = dAt d v := by
  rcases hS v hv with h | ⟨_, p, hp, hl⟩
  · omega
  · cases p with
    | nil => exact absurd hp hne
    | cons i p =>
      obtain ⟨hi, _, t, ht, ha, h⟩ := hp
      obtain ⟨h1, h2⟩ := far_opt hok hF h0 p t.b h
      obtain ⟨h3, h4⟩ := hF i.toNat t ht h1
      rw [ha] at h3 h4
      rw [lenW, tubeAt_get ht] at hl
      exact ⟨i.toNat, t, ht, ha, h1, by omega⟩
theorem far_iff {n : Nat} {tb : List T3} {d : List Int} {td : Nat} (hok : OkTubes n tb) (hS : Sound tb (-1) td d) (hF : ∀ j, FixAt tb d j) (h0 : dAt d td = 0) {v : Int} (hv : 0 ≤ v) : 0 ≤ dAt d v ↔ ∃ p, wk tb (-1) p v td := by
  constructor
  · intro h
    rcases hS v hv with h1 | ⟨_, p, hp, _⟩
    · omega
    · exact ⟨p, hp⟩
  · rintro ⟨p, hp⟩; exact (far_opt hok hF h0 p v hp).1
/-- A way on which the lengths fall. -/
structure WaySt (tb : List T3) (d : List Int) (P : List Int) (v at_ : Int) : Prop where
  way : wk tb (-1) P v at_
  nod : (begins tb P).Nodup
  low : ∀ x ∈ begins tb P, dAt d at_ < dAt d x
theorem WaySt.step {tb : List T3} {d P : List Int} {v at_ : Int} (h : WaySt tb d P v at_) {j : Nat} {t : T3} (ht : tb[j]? = some t) (ha : t.a = at_) (hl : dAt d t.b < dAt d at_) : WaySt tb d (P ++ [(j : Int)]) v t.b := by
  have htt : tubeAt tb (j : Int) = t := tubeAt_get (by simpa using ht)
  have hb : begins tb (P ++ [(j : Int)]) = begins tb P ++ [at_] := by rw [begins_append]; show _ ++ [(tubeAt tb (j : Int)).a] = _; rw [htt, ha]
  refine ⟨wk_append.2 ⟨at_, h.way, by omega, by omega, t, by simpa using ht, ha, rfl⟩, ?_, ?_⟩
  · rw [hb, List.nodup_append]
    refine ⟨h.nod, by simp, fun x hx y hy e => ?_⟩
    rw [List.mem_singleton] at hy
    have := h.low x hx
    rw [e, hy] at this; omega
  · intro x hx
    rw [hb] at hx
    rcases List.mem_append.1 hx with hx | hx
    · have := h.low x hx; omega
    · rw [List.mem_singleton] at hx; rw [hx]; exact hl
theorem WaySt.simple {tb : List T3} {d P : List Int} {v u : Int} (h : WaySt tb d P v u) : Simple tb P v u := by
  refine ⟨h.way, ?_⟩
  rw [List.nodup_append]
  refine ⟨h.nod, by simp, fun x hx y hy e => ?_⟩
  rw [List.mem_singleton] at hy
  have := h.low x hx
  rw [e, hy] at this; omega
/-- The code of a way that is looked for. -/
def CodeR (tb : List T3) (s td cd : Int) : Prop := (cd = 0 ∧ ∃ p, wk tb (-1) p s td) ∨ (cd = 3 ∧ ¬ ∃ p, wk tb (-1) p s td)
theorem CodeR.unique {tb : List T3} {s td a b : Int} (h : CodeR tb s td a) (k : CodeR tb s td b) : a = b := by
  rcases h with ⟨rfl, h⟩ | ⟨rfl, h⟩ <;> rcases k with ⟨rfl, k⟩ | ⟨rfl, k⟩
  · rfl
  · exact absurd h k
  · exact absurd k h
  · rfl
theorem CodeR.ok {tb : List T3} {s td a : Int} (h : CodeR tb s td a) (h0 : a = 0) : ∃ p, wk tb (-1) p s td := by
  rcases h with ⟨_, h⟩ | ⟨h1, _⟩
  · exact h
  · omega
end Go.Proofs.YtaajkmjilcamgaaGreatDoor
namespace Go.Proofs.YtaajkmjilcamgaaGreatDoor
open Go.RowKit
theorem dist_self {n : Nat} {tb : List T3} (hok : OkTubes n tb) {td : Nat} (ht : td < n) : dAt (dist n tb td (-1)) td = 0 := by
  have h := dist_opt (n := n) (wo := -1) hok (dst := (td : Int)) (by omega) (by omega) (p := []) (v := (td : Int)) (by omega) rfl
  have e : lenW tb [] = 0 := rfl
  omega
theorem dist_fix {n : Nat} {tb : List T3} (hok : OkTubes n tb) {td : Nat} (ht : td < n) (j : Nat) : FixAt tb (dist n tb td (-1)) j := by
  intro t htj hb
  obtain ⟨h1, h2, h3⟩ := hok t (List.mem_of_getElem? htj)
  obtain ⟨p, hp, hl⟩ := dist_way (n := n) (wo := -1) hok (dst := (td : Int)) (by omega) (by omega) h2.1 hb
  have hw : wk tb (-1) ((j : Int) :: p) t.a td := ⟨by omega, by omega, t, by simpa using htj, rfl, hp⟩
  have h := dist_opt (n := n) (wo := -1) hok (dst := (td : Int)) (by omega) (by omega) h1.1 hw
  have e : lenW tb ((j : Int) :: p) = t.c + lenW tb p := by rw [lenW, tubeAt_get (by simpa using htj)]
  omega
theorem lenW_snoc {tb : List T3} {P : List Int} {j : Nat} {t : T3} (h : tb[j]? = some t) : lenW tb (P ++ [(j : Int)]) = lenW tb P + t.c := by
  rw [lenW_append, lenW, tubeAt_get (by simpa using h)]
  show _ + (_ + 0) = _
  omega
/-- The code beside a least length. -/
def codeZ (z : Int) : Int := if 0 ≤ z then 0 else 3
theorem codeZ_ok {z : Int} (h : 0 ≤ z) : codeZ z = 0 := if_pos h
theorem codeZ_no {z : Int} (h : ¬ 0 ≤ z) : codeZ z = 3 := if_neg h
/-- A way of the least length. -/
def WayR (n : Nat) (tb : List T3) (s td : Nat) (z : Int) (P : List Int) : Prop := 0 ≤ z → wk tb (-1) P s td ∧ lenW tb P = z ∧ P.length ≤ n
set_option maxRecDepth 100000 in
set_option maxHeartbeats 8000000 in
theorem implShortestWay_any (n : Nat) (tb : List T3) (s td : Nat) (A : Option Addr) (c : Nat) (w : World) (h : OkNet n tb) (hs : s < n) (ht : td < n) (hr : Rd3 w w.heap.size A tb) :
    Calls Tryz.prog 9 #[.agg #[.int .i64 n, .slice A tb.length c], .int .i64 s, .int .i64 td] w fun e w' => ∃ (P : List Int) (A' : Option Addr) (c' : Nat), e = .returned (.tuple #[.slice A' P.length c', .int .i64 (codeZ (dAt (dist n tb td (-1)) s))]) ∧ RdI w' w'.heap.size A' P ∧ WayR n tb s td (dAt (dist n tb td (-1)) s) P ∧ Below w.heap.size w w' := by
  obtain ⟨i0, hi0, hz0, hs0, hb0⟩ := info_parts int64_info
  have hn10 := h.1.2
  have hl24 := h.2.1
  have hok := ok_tubes h
  have b0 : Below w.heap.size w ((w.alloc (.cells #[.int .i64 n, .slice A tb.length c] 26)).alloc (.cells #[.int .i64 (s : Int), .int .i64 (td : Int)] 2)) := (by repeat (first | exact Below.refl _ _ | assumption | (refine Below.alloc ?_ (by simp <;> omega) _) | refine Below.drew ?_ | refine bdn ?_ _))
  have X0 := (BoxN.new w #[.int .i64 n, .slice A tb.length c] 26).alloc (.cells #[.int .i64 (s : Int), .int .i64 (td : Int)] 2)
  have HV := hide (show Calls Tryz.prog 36 #[.agg #[.int .i64 n, .slice A tb.length c], .slice (some ⟨w.heap.size + 1, 0, none⟩) 2 2] ((w.alloc (.cells #[.int .i64 n, .slice A tb.length c] 26)).alloc (.cells #[.int .i64 (s : Int), .int .i64 (td : Int)] 2)) _ from by
    have h1 := netCode_any n tb [(s : Int), (td : Int)] A (some ⟨(w.alloc (.cells #[.int .i64 n, .slice A tb.length c] 26)).heap.size, 0, none⟩) c 2 _ h ((hr.below b0).more b0.size) (by intro z hz; simp at hz; rcases hz with rfl | rfl <;> omega) (by simp) rdI2
    rw [show (w.alloc (.cells #[.int .i64 n, .slice A tb.length c] 26)).heap.size = w.heap.size + 1 by simp] at h1
    exact h1)
  have HD := hide fun W (hW : Below w.heap.size w W) => distances_any n tb td (-1) A c W h ⟨by omega, by omega⟩ ((hr.below hW).more hW.size)
  have HTF := hide fun v W (hW : Below w.heap.size w W) => tubesFrom_any n tb v A c W hl24 ((hr.below hW).more hW.size)
  have HR := hide hr
  have X1 := hide X0
  have B0 := hide b0
  have HFX := hide fun j => dist_fix hok ht j
  have HFS := hide (dist_self hok ht)
  have HSD := hide (dist_sound hok (wo := -1) (dst := (td : Int)) (by omega) (by omega))
  have HNG := hide fun v (hv : 0 ≤ v) (h : dAt (dist n tb td (-1)) v < 0) => dist_neg hok (wo := -1) (dst := (td : Int)) (by omega) (by omega) hv h
  have HBD0 := hide fun v (hv : 0 ≤ v) (hd : 0 ≤ dAt (dist n tb td (-1)) v) => (show dAt (dist n tb td (-1)) v ≤ 20000 from by
    obtain ⟨p, hp, hl⟩ := dist_way hok (wo := -1) (dst := (td : Int)) (by omega) (by omega) hv hd
    obtain ⟨p2, hp2, hl2, hle⟩ := short_way hok p.length (Nat.le_refl _) hp
    have h1 := dist_bd hok hp2
    have h2 := (dist_opt hok (wo := -1) (dst := (td : Int)) (by omega) (by omega) hv hp2).2
    omega)
  have hdl := dist_len n tb td (-1)
  have HOK := hide hok
  generalize dist n tb td (-1) = d at *
  clear h hr b0 X0 hok
  obtain ⟨z, hz⟩ : ∃ z, d[s]? = some z := ⟨_, List.getElem?_eq_getElem (by omega)⟩
  have hzd : dAt d (s : Int) = z := dAt_get hz
  have HZ := hide hz
  have hsi : (s : Int) < (n : Int) := by omega
  have hs0' : (0 : Int) ≤ (s : Int) := by omega
  rw [hzd]
  have HZD := hide hzd
  clear hz hzd
  go_enter Tryz.func9, Tryz.ntmps9
  go_upto_region 4 with (go_at_call 36; (with_reducible refine (HV.out).mono ?_); rintro e w1 ⟨rfl, b1⟩; have X2 := X1.out.only (lo := w.heap.size) (hi := w.heap.size) (only_of_below b1) (.inr (Nat.le_refl _)); have q0 : w1.cell? ⟨w.heap.size, 0, none⟩ = some (.int .i64 n) := X2.cell 0; have q1 : w1.cell? ⟨w.heap.size, 1, none⟩ = some (.slice A tb.length c) := X2.cell 1; have HB1 := hide (B0.out.trans (b1.mono B0.out.size)); have HX2 := hide X2; clear X2)
  go_upto_region 5 with (go_at_call 37; (with_reducible refine (HD.out _ HB1.out).mono ?_); rintro e w2 ⟨gd, rfl, hown, b2⟩)
  have X3 := hide (HX2.out.below b2 HX2.out.lt)
  have HB2 := hide (HB1.out.trans (b2.mono HB1.out.size))
  have HDR := hide hown
  have hgd := hown.lt gd rfl
  have cz : w2.cell? ⟨gd, s, none⟩ = some (.int .i64 z) := by rw [hown.cellAt s (by omega), List.getElem?_map, HZ.out]; rfl
  clear q0 q1 hown b2 b1 HX2 HB1 X1 B0 HV HD
  by_cases hz0' : 0 ≤ z
  case neg =>
    have HNZ := hide (show WayR n tb s td z [] from fun h => absurd h hz0')
    have HCZ := hide (codeZ_no hz0')
    have hD : decide (z < 0) = true := decide_eq_true (by omega)
    clear hz0'
    go_wp2_with fail
    refine bodyPost_ret (v := .tuple #[.slice none 0 0, .int .i64 3]) (by simp [results, Tryz.results9, go_sem]) rfl ?_
    exact ⟨[], none, 0, by rw [HCZ.out]; rfl, Rd.nil _ _ _, HNZ.out, HB2.out⟩
  have HCZ := hide (codeZ_ok hz0')
  have hD : decide (z < 0) = false := decide_eq_false (by omega)
  have ho1 := own_new0 w2 w2.heap.size 2 1 (Nat.le_refl _)
  have hB2 : Below w2.heap.size w2 (w2.alloc (.cells #[] 2)) := (Below.refl _ _).alloc (Nat.le_refl _) _
  have HD0 := hide (show 0 ≤ dAt d (s : Int) by rw [HZD.out]; exact hz0')
  clear hz0'
  go_wp2_with fail
  go_loopg [10, 1] (dAt d s).toNat (fun g sv av wr => ∃ (P : List Int) (at_ : Nat), av = .int .i64 at_ ∧ at_ < n ∧ Hid (g = (dAt d at_).toNat) ∧ Hid (0 ≤ dAt d at_) ∧ Hid (WaySt tb d P s at_) ∧ Hid (lenW tb P + dAt d at_ = dAt d s) ∧ Hid (wr.ownsRow w2.heap.size 2 1 sv P.length (P.map (Value.int .i64))) ∧ Hid (Below w2.heap.size w2 wr))
  case atStart => exact ⟨[], s, rfl, hs, rfl, HD0, ⟨rfl, by simp [begins], fun x hx => by cases hx⟩, hide (by show 0 + _ = _; omega), hide (by simpa using ho1), hB2⟩
  case round =>
    obtain ⟨P, at_, rfl, hat, hg, HDA, HW, HLN, HO, HB⟩ := hrel
    clear ho1 hB2 cz
    obtain ⟨A5, c5, rfl, _⟩ := own_shape HO.out
    have HPL := hide (show P.length ≤ n from by
      have := nodup_len HW.out.nod (begins_in HOK.out HW.out.way)
      rwa [begins, List.length_map] at this)
    by_cases hend : at_ = td
    · subst hend
      have HRES := hide (show wk tb (-1) P s at_ ∧ lenW tb P = z ∧ P.length ≤ n from ⟨HW.out.way, by have h1 := HLN.out; have h2 := HFS.out; have h3 := HZD.out; omega, HPL.out⟩)
      go_wp2_with fail
      refine bodyPost_ret (v := .tuple #[.slice A5 P.length c5, .int .i64 0]) (by simp [results, Tryz.results9, go_sem]) rfl ?_
      exact ⟨P, A5, c5, by rw [HCZ.out], Rd.of_own HO.out, fun _ => HRES.out, HB2.out.trans (HB.out.mono HB2.out.size)⟩
    · have hne : ((at_ : Int) != (td : Int)) = true := by simp; omega
      have HST := hide (far_step HOK.out HSD.out HFX.out HFS.out (v := (at_ : Int)) (by omega) HDA.out (by omega))
      have HEND := hide hend
      clear hend
      have HBX := hide (HB2.out.trans (HB.out.mono HB2.out.size))
      have x0 : wr.cell? ⟨w.heap.size, 0, none⟩ = some (.int .i64 n) := (X3.out.below HB.out X3.out.lt).cell 0
      have x1 : wr.cell? ⟨w.heap.size, 1, none⟩ = some (.slice A tb.length c) := (X3.out.below HB.out X3.out.lt).cell 1
      have HTS := hide (HTF.out (at_ : Int) wr HBX.out)
      go_upto_region 10 with (go_at_call 38; (with_reducible refine (HTS.out).mono ?_); rintro e w3 ⟨A6, c6, rfl, hts, b3⟩)
      have HRT := hide (Rd.of_own hts)
      have HO3 := hide (own_below HO.out b3 (Nat.le_refl _))
      have HB3 := hide (HB.out.trans (b3.mono HB.out.size))
      have HTM := hide fun (i : Int) => tubesL_mem (tb := tb) (s := (at_ : Int)) (i := i)
      have htl : (tubesL tb (at_ : Int)).length ≤ 24 := by
        have h1 := idx_ge (fun t : T3 => t.a == (at_ : Int)) tb 0
        have hl := Nat.le_of_lt_succ (Nat.lt_succ_of_le (show (tubesL tb (at_ : Int)).length ≤ tb.length from by
          have hn := (idx_up (fun t : T3 => t.a == (at_ : Int)) tb 0)
          have hnd : (tubesL tb (at_ : Int)).Nodup := hn.imp (fun h => by omega)
          exact nodup_len hnd (fun x hx => by have := h1 x hx; omega)))
        omega
      clear hts b3 x0 x1 HTS HO HB HBX
      generalize tubesL tb (at_ : Int) = ts at *
      obtain ⟨wU, hwU⟩ : ∃ q, q = w3 := ⟨w3, rfl⟩
      subst hwU
      go_loopg [10, 1, 38] ts.length (fun g sw aw i wr => ∃ j : Nat, j ≤ ts.length ∧ Hid (g = ts.length - j) ∧ sw = .slice A5 P.length c5 ∧ aw = .int .i64 (at_ : Int) ∧ i = .int .i64 j ∧ Hid (∀ q, q < j → ∀ (k : Nat) (t : T3), ts[q]? = some (k : Int) → tb[k]? = some t → ¬ (0 ≤ dAt d t.b ∧ dAt d t.b + t.c = dAt d at_)) ∧ Hid (Below wU.heap.size wU wr))
      case atStart => exact ⟨0, Nat.zero_le _, by simp [Hid], rfl, rfl, rfl, hide (fun q hq => absurd hq (Nat.not_lt_zero _)), hide (Below.refl _ _)⟩
      case round =>
        obtain ⟨j, hj, hgj, rfl, rfl, rfl, HNO, HBJ⟩ := hrel
        by_cases hjt : j < ts.length
        case neg =>
          exfalso
          obtain ⟨k, t, h1, h2, h3, h4⟩ := HST.out
          have hm : (k : Int) ∈ ts := (HTM.out (k : Int)).2 ⟨k, t, rfl, h1, h2⟩
          obtain ⟨q, hq, he⟩ := List.mem_iff_getElem.1 hm
          exact HNO.out q (by omega) k t (by rw [List.getElem?_eq_getElem hq, he]) h1 ⟨h3, h4⟩
        have hbw := HB3.out.size
        have HBW := hide (HB3.out.trans (HBJ.out.mono hbw))
        have hbb := HB2.out.size
        have HBA := hide (HB2.out.trans (HBW.out.mono hbb))
        obtain ⟨pb6, po6, zt, hA6, hlt6, hzt, hct⟩ := (show RdI wU wU.heap.size A6 ts from HRT.out).at_ hjt
        subst hA6
        obtain ⟨k, t, rfl, htk, hta0⟩ := (HTM.out zt).1 (List.mem_of_getElem? hzt)
        have ci : wr.cell? ⟨pb6, po6 + j, none⟩ = some (.int .i64 (k : Int)) := (HBJ.out.cell (p := ⟨pb6, po6 + j, none⟩) hlt6).trans hct
        have hkt : k < tb.length := lt_of_get htk
        have x1 : wr.cell? ⟨w.heap.size, 1, none⟩ = some (.slice A tb.length c) := (X3.out.below HBW.out X3.out.lt).cell 1
        obtain ⟨pb, po, t', hA, _, htj, hta, htb, htc⟩ := (HR.out.below HBA.out).at_ hkt
        subst hA
        obtain rfl : t = t' := Option.some.inj (htk.symm.trans htj)
        obtain ⟨hoa, hob, hoc⟩ := HOK.out t (List.mem_of_getElem? htj)
        obtain ⟨ta, tt, tc⟩ := t
        dsimp only at *
        subst hta0
        obtain ⟨bb, rfl⟩ := Int.eq_ofNat_of_zero_le hob.1
        have hbn : bb < n := by omega
        obtain ⟨db, hdb⟩ : ∃ z, d[bb]? = some z := ⟨_, List.getElem?_eq_getElem (by omega)⟩
        obtain ⟨da, hda⟩ : ∃ z, d[at_]? = some z := ⟨_, List.getElem?_eq_getElem (by omega)⟩
        have EB := hide (show dAt d (bb : Int) = db from dAt_get hdb)
        have EA := hide (show dAt d (at_ : Int) = da from dAt_get hda)
        have hd4 : da ≤ 20000 := by have := HBD0.out (at_ : Int) (by omega) HDA.out; have := EA.out; omega
        have hd2 : db ≤ 20000 := by
          rcases (show db < 0 ∨ 0 ≤ db by omega) with h0 | h0
          · omega
          · have := HBD0.out (bb : Int) (by omega) (by rw [EB.out]; exact h0); have := EB.out; omega
        have hd1 : -1 ≤ db := by
          rcases (show db < 0 ∨ 0 ≤ db by omega) with h0 | h0
          · have := HNG.out (bb : Int) (by omega) (by rw [EB.out]; exact h0); have := EB.out; omega
          · omega
        have hd3 : 0 ≤ da := by have h1 := HDA.out; have h2 := EA.out; omega
        have HTJ := hide htj
        have HZT := hide hzt
        have HRD := hide (own_below HDR.out HBW.out (Nat.le_refl _))
        have HOT := hide (own_below HO3.out HBJ.out (Nat.le_refl _))
        have HTB := hide (BoxN.new wr #[.int .i64 (at_ : Int), .int .i64 (bb : Int), .int .i64 tc] 41)
        have HBT := hide (HBJ.out.alloc HBJ.out.size (.cells #[.int .i64 (at_ : Int), .int .i64 (bb : Int), .int .i64 tc] 41))
        have HRT2 := hide (HRD.out.alloc (.cells #[.int .i64 (at_ : Int), .int .i64 (bb : Int), .int .i64 tc] 41))
        have HOA := hide (HOT.out.alloc (.cells #[.int .i64 (at_ : Int), .int .i64 (bb : Int), .int .i64 tc] 41))
        have hj9 : (j : Int) < (ts.length : Int) := by omega
        have hk9 : (k : Int) < (tb.length : Int) := by omega
        have hk0 : (0 : Int) ≤ (k : Int) := by omega
        obtain ⟨hc1, hc2⟩ := hoc
        clear hoa hob htj HRD HOT htk hzt hct
        go_upto_region 13 with fail
        have HGT := hide HBJ.out.size
        generalize hgt : wr.heap.size = gt at *
        generalize wr.alloc (.cells #[.int .i64 (at_ : Int), .int .i64 (bb : Int), .int .i64 tc] 41) = wT at *
        have k0 : wT.cell? ⟨gt, 0, none⟩ = some (.int .i64 (at_ : Int)) := HTB.out.cell 0
        have k1 : wT.cell? ⟨gt, 1, none⟩ = some (.int .i64 (bb : Int)) := HTB.out.cell 1
        have k2 : wT.cell? ⟨gt, 2, none⟩ = some (.int .i64 tc) := HTB.out.cell 2
        have ca : wT.cell? ⟨gd, at_, none⟩ = some (.int .i64 da) := by rw [HRT2.out.cellAt at_ (by omega), List.getElem?_map, hda]; rfl
        have cb : wT.cell? ⟨gd, bb, none⟩ = some (.int .i64 db) := by rw [HRT2.out.cellAt bb (by omega), List.getElem?_map, hdb]; rfl
        have hb1 : (bb : Int) < (n : Int) := by omega
        have ha1 : (at_ : Int) < (n : Int) := by omega
        have ha0 : (0 : Int) ≤ (at_ : Int) := by omega
        have hbb0 : (0 : Int) ≤ (bb : Int) := by omega
        have hwr : IntKind.i64.wrap (tc + db) = tc + db := by rw [IntKind.wrap_i64] <;> omega
        clear hta htb htc hda hdb x1 hgt ci
        have HNEXT := hide (show ¬ (0 ≤ db ∧ db + tc = da) → ∀ q, q < j + 1 → ∀ (k' : Nat) (t : T3), ts[q]? = some (k' : Int) → tb[k']? = some t → ¬ (0 ≤ dAt d t.b ∧ dAt d t.b + t.c = dAt d at_) from fun hn q hq k' t hk' ht' => by
          by_cases hqj : q < j
          · exact HNO.out q hqj k' t hk' ht'
          · obtain rfl : q = j := by omega
            rw [HZT.out] at hk'
            have hkk : k = k' := by have := Option.some.inj hk'; omega
            subst hkk
            rw [HTJ.out] at ht'
            cases ht'
            dsimp only
            rw [EB.out, EA.out]
            exact hn)
        by_cases h2 : 0 ≤ db
        case neg =>
          have h2' : decide (0 ≤ db) = false := by simp; omega
          have h2b : db < 0 := by omega
          have HN2 := hide (HNEXT.out (fun h => h2 h.1))
          clear h2
          go_quiet (fail)
          go_wp2_with fail
          go_roundg (ts.length - (j + 1))
          case measure => have := hgj.out; omega
          case rel => exact ⟨j + 1, by omega, rfl, rfl, rfl, by go_num, HN2, hide (bdn HBT.out _)⟩
        have h2' : decide (0 ≤ db) = true := decide_eq_true h2
        by_cases h3 : db + tc = da
        case neg =>
          have hB3 : ((tc + db : Int) == da) = false := by rw [beq_eq_false_iff_ne]; omega
          have HN2 := hide (HNEXT.out (fun h => h3 h.2))
          clear h3
          go_quiet (fail)
          go_wp2_with fail
          go_roundg (ts.length - (j + 1))
          case measure => have := hgj.out; omega
          case rel => exact ⟨j + 1, by omega, rfl, rfl, rfl, by go_num, HN2, hide (bdn HBT.out _)⟩
        · have hB3 : ((tc + db : Int) == da) = true := by rw [beq_iff_eq]; omega
          have HSS := hide (HW.out.step HTJ.out rfl (by show dAt d (bb : Int) < _; rw [EB.out, EA.out]; omega))
          have hpl := HPL.out
          have HMS := hide (show (dAt d (bb : Int)).toNat < (dAt d (at_ : Int)).toNat from by rw [EB.out, EA.out]; omega)
          have HDN := hide (show 0 ≤ dAt d (bb : Int) by rw [EB.out]; exact h2)
          have HL2 := hide (show lenW tb (P ++ [(k : Int)]) + dAt d (bb : Int) = dAt d s by
            rw [lenW_snoc HTJ.out]
            have h1 := HLN.out; have h2 := EB.out; have h4 := EA.out
            show lenW tb P + tc + _ = _
            omega)
          clear h3 h2
          go_quiet (fail)
          go_upto_region 14 with fail
          have HOA2 := hide (show (wT.drewN nq).drew.ownsRow w2.heap.size 2 1 (.slice A5 P.length c5) P.length (P.map (Value.int .i64)) from HOA.out)
          have HBT2 := hide (show Below wU.heap.size wU (wT.drewN nq).drew from (bdn HBT.out nq).drew)
          have k1' : (wT.drewN nq).drew.cell? ⟨gt, 1, none⟩ = some (.int .i64 (bb : Int)) := k1
          have XT := hide (show BoxN (wT.drewN nq).drew gt #[.int .i64 (at_ : Int), .int .i64 (bb : Int), .int .i64 tc] 41 from HTB.out)
          clear ca cb k0 k1 k2 HOA HBT HTB HRT2
          refine wp_region_held_drew (S := fun W => W.cell? ⟨gt, 1, none⟩ = some (.int .i64 (bb : Int))) (by kernel_rfl) (k1') (fun hHeld => ?_)
          generalize (wT.drewN nq).drew = wq at *
          have zt := XT.out.lt
          have zb := HBT2.out.size
          have HWQ := hide (HB3.out.trans (HBT2.out.mono hbw))
          have hwq := HWQ.out.size
          generalize Value.slice A5 P.length c5 = sv at *
          refine wpAnyH_take (i := 0) (v := ?_) rfl (by kernel_rfl) (by kernel_rfl) (by kernel_rfl) (fun _ _ _ h => h) (Or.inl ⟨by rfl, ?_⟩) (by assumption) ?_
          rotate_left 1
          · (intro w hSw; (try dsimp only at hSw); go_simp; try with_reducible rfl)
          try simp only [Act.put, List.getElem_toArray, List.getElem_cons_succ, List.getElem_cons_zero, List.setIfInBounds_toArray, List.set_cons_zero, List.set_cons_succ]
          refine wpAnyH_take (i := 1) (v := ?_) rfl (by kernel_rfl) (by kernel_rfl) (by kernel_rfl) (fun _ _ _ h => h) (Or.inl ⟨by rfl, ?_⟩) (by assumption) ?_
          rotate_left 1
          · (intro w hSw; (try dsimp only at hSw); go_simp; try with_reducible rfl)
          try simp only [Act.put, List.getElem_toArray, List.getElem_cons_succ, List.getElem_cons_zero, List.setIfInBounds_toArray, List.set_cons_zero, List.set_cons_succ]
          refine wpAnyH_take (i := 4) (v := ?_) rfl (by kernel_rfl) (by kernel_rfl) (by kernel_rfl) (fun _ _ _ h => h) (Or.inl ⟨by rfl, ?_⟩) (by assumption) ?_
          rotate_left 1
          · (intro w hSw; (try dsimp only at hSw); go_simp; try with_reducible rfl)
          try simp only [Act.put, List.getElem_toArray, List.getElem_cons_succ, List.getElem_cons_zero, List.setIfInBounds_toArray, List.set_cons_zero, List.set_cons_succ]
          refine wpAnyH_take (i := 5) (v := ?_) rfl (by kernel_rfl) (by kernel_rfl) (by kernel_rfl) (fun _ _ _ h => h) (Or.inl ⟨by rfl, ?_⟩) (by assumption) ?_
          rotate_left 1
          · (intro w hSw; (try dsimp only at hSw); go_simp; try with_reducible rfl)
          try simp only [Act.put, List.getElem_toArray, List.getElem_cons_succ, List.getElem_cons_zero, List.setIfInBounds_toArray, List.set_cons_zero, List.set_cons_succ]
          refine wpAnyH_ready (rs := [2]) (by kernel_rfl) (by simp) ?_
          refine AllReadyH.cons rfl (fun K hK => ?_) AllReadyH.nil
          try simp only [Act.put, List.getElem_toArray, List.getElem_cons_succ, List.getElem_cons_zero, List.setIfInBounds_toArray, List.set_cons_zero, List.set_cons_succ]
          go_simp
          have XT2 := hide (XT.out.alloc (.cells #[.int .i64 (k : Int)] 2))
          have f1 : (wq.alloc (.cells #[.int .i64 (k : Int)] 2)).cell? ⟨gt, 1, none⟩ = some (.int .i64 (bb : Int)) := XT2.out.cell 1
          refine hK.out _ _ (f1) (fun hHeld => ?_)
          clear hK K
          try simp only [Act.put, List.getElem_toArray, List.getElem_cons_succ, List.getElem_cons_zero, List.setIfInBounds_toArray, List.set_cons_zero, List.set_cons_succ]
          have hbz := HWQ.out.alloc hwq (.cells #[.int .i64 (k : Int)] 2)
          have hoz := HOA2.out.alloc (.cells #[.int .i64 (k : Int)] 2)
          have hrd := rd_new wq [.int .i64 (k : Int)] 2 _ rfl
          refine wpAnyH_ready (rs := [3]) (by kernel_rfl) (by simp) ?_
          refine AllReadyH.cons rfl (fun K hK => ?_) AllReadyH.nil
          try simp only [Act.put, List.getElem_toArray, List.getElem_cons_succ, List.getElem_cons_zero, List.setIfInBounds_toArray, List.set_cons_zero, List.set_cons_succ]
          rw [if_pos (by rfl)]
          refine op_app _ _ _ 31 rfl w2.heap.size 2 i0 (.int .i64 0) 1 8 Tryz.underlying31 hi0 hz0 hs0 hb0 rfl (by decide) _ _ _ rfl hoz _ _ 1 1 [.int .i64 (k : Int)] rfl rfl hrd (int_one _) (by omega) (by decide) hbz.size ?_
          intro v' w6 hown' hgrow hat'
          have XT6 := hide (show BoxN w6 gt #[.int .i64 (at_ : Int), .int .i64 (bb : Int), .int .i64 tc] 41 from (hgrow.block gt XT2.out.lt (fun e => by have := (HO3.out.lt _ e.symm).2; have := HGT.out; omega)).trans XT2.out)
          have f2 : w6.cell? ⟨gt, 1, none⟩ = some (.int .i64 (bb : Int)) := XT6.out.cell 1
          have HB6 := hide (app_below hbz hoz hgrow (Nat.le_refl _) hbz.size)
          have HMG := hide (show (P ++ [(k : Int)]).length = P.length + 1 by simp)
          have HMP := hide (show (P ++ [(k : Int)]).map (Value.int .i64) = P.map (Value.int .i64) ++ [.int .i64 (k : Int)] by simp)
          have HO6 := hide hown'
          dsimp only
          refine hK.out _ _ (f2) (fun hHeld => ?_)
          clear hK K
          try simp only [Act.put, List.getElem_toArray, List.getElem_cons_succ, List.getElem_cons_zero, List.setIfInBounds_toArray, List.set_cons_zero, List.set_cons_succ]
          refine wpAnyH_take (i := 6) (v := ?_) rfl (by kernel_rfl) (by kernel_rfl) (by kernel_rfl) (fun _ _ _ h => h) (Or.inl ⟨by rfl, ?_⟩) (by assumption) ?_
          rotate_left 1
          · (intro w hSw; (try dsimp only at hSw); go_simp; try with_reducible rfl)
          try simp only [Act.put, List.getElem_toArray, List.getElem_cons_succ, List.getElem_cons_zero, List.setIfInBounds_toArray, List.set_cons_zero, List.set_cons_succ]
          refine wpAnyH_take (i := 7) (v := ?_) rfl (by kernel_rfl) (by kernel_rfl) (by kernel_rfl) (fun _ _ _ h => h) (Or.inl ⟨by rfl, ?_⟩) (by assumption) ?_
          rotate_left 1
          · (intro w hSw; (try dsimp only at hSw); go_simp; try with_reducible rfl)
          try simp only [Act.put, List.getElem_toArray, List.getElem_cons_succ, List.getElem_cons_zero, List.setIfInBounds_toArray, List.set_cons_zero, List.set_cons_succ]
          refine wpAnyH_done (by kernel_rfl) ?_ _
          clear hown' hgrow hat' hbz hoz hrd f1 f2
          go_wp2_with fail
          go_roundg (dAt d (bb : Int)).toNat
          case measure => have := HMS.out; have := hg.out; omega
          case rel => exact ⟨P ++ [(k : Int)], bb, rfl, hbn, hide rfl, HDN, HSS, HL2, hide (by rw [HMG.out, HMP.out]; exact HO6.out), HB6⟩
end Go.Proofs.YtaajkmjilcamgaaGreatDoor
namespace Go.Proofs.YtaajkmjilcamgaaGreatDoor
open Go.RowKit
theorem decDigits_ne (u : Nat) : Lib.decDigits u ≠ [] := by
  rw [Lib.decDigits]
  split
  · simp
  · simp
/-- Digits that are done stand in out, the rest in k. -/
def DecInv (n k : Int) (out : List UInt8) : Prop := (k ≠ 0 ∧ n ≠ 0 ∧ Lib.decDigits n.natAbs = Lib.decDigits k.natAbs ++ out) ∨ (k = 0 ∧ n = 0 ∧ out = []) ∨ (k = 0 ∧ n ≠ 0 ∧ out = Lib.decDigits n.natAbs)
theorem DecInv.start (n : Int) : DecInv n n [] := by
  by_cases h : n = 0
  · exact .inr (.inl ⟨h, h, rfl⟩)
  · exact .inl ⟨h, h, by simp⟩
theorem DecInv.step {n k : Int} {out : List UInt8} (h : DecInv n k out) (hk : k ≠ 0) : DecInv n (k.tdiv 10) (UInt8.ofNat (48 + k.natAbs % 10) :: out) := by
  rcases h with ⟨_, hn, h⟩ | ⟨h, _⟩ | ⟨h, _⟩
  · have e : (k.tdiv 10).natAbs = k.natAbs / 10 := by rw [Int.natAbs_tdiv]; rfl
    have hd := Lib.decDigits.eq_1 k.natAbs
    by_cases hs : k.natAbs < 10
    · rw [dif_pos hs] at hd
      rw [hd] at h
      refine .inr (.inr ⟨?_, hn, ?_⟩)
      · have : (k.tdiv 10).natAbs = 0 := by rw [e]; omega
        omega
      · rw [h, Nat.mod_eq_of_lt hs]; rfl
    · rw [dif_neg hs] at hd
      rw [hd] at h
      refine .inl ⟨?_, hn, ?_⟩
      · intro h0
        have : (k.tdiv 10).natAbs = 0 := by rw [h0]; rfl
        rw [e] at this; omega
      · rw [h, e]; simp
  · exact absurd h hk
  · exact absurd h hk
theorem DecInv.zero {n : Int} {out : List UInt8} (h : DecInv n 0 out) : (out = [] ∧ n = 0 ∧ Lib.itoa n = [48]) ∨ (out ≠ [] ∧ n < 0 ∧ Lib.itoa n = 45 :: out) ∨ (out ≠ [] ∧ 0 < n ∧ Lib.itoa n = out) := by
  rcases h with ⟨h, _⟩ | ⟨_, h, h2⟩ | ⟨_, h, h2⟩
  · exact absurd rfl h
  · subst h
    exact .inl ⟨h2, rfl, by unfold Lib.itoa; rw [if_neg (by decide), Lib.decDigits]; rfl⟩
  · by_cases hn : n < 0
    · exact .inr (.inl ⟨by rw [h2]; exact decDigits_ne _, hn, by unfold Lib.itoa; rw [if_pos hn, h2]⟩)
    · refine .inr (.inr ⟨by rw [h2]; exact decDigits_ne _, by omega, ?_⟩)
      unfold Lib.itoa
      rw [if_neg hn, h2]
      congr 1
      omega
theorem dec_digit (k : Int) : (if k.tmod 10 < 0 then -(k.tmod 10) else k.tmod 10) = ((k.natAbs % 10 : Nat) : Int) := by
  have h := Int.natAbs_tmod k 10
  have e : ((10 : Int)).natAbs = 10 := rfl
  rw [e] at h
  split <;> omega
end Go.Proofs.YtaajkmjilcamgaaGreatDoor
