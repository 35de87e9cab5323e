/-
  Settings and ways in the program: valid settings, simple ways, codes, turned switches.
  Stocks: the contracts of the reference and of the program in the laws' words.
  Moves of carriers: which moves are valid; one carrier's way is sent; in the program and in the reference.
-/
import Derived.Test.YtlkccijlbeibjaaQTurns7
import Derived.Test.YtlkccijlbeibjaaQTurns3
import Derived.Deep.DeepCutAuto
import Derived.Deep.RegionHeld3
import Derived.Test.YtlkccijlbeibjaaQTurns2
namespace Go.Proofs.Ytlkccijlbeibjaa
open Go.RowKit
theorem okTubes_of {n : Nat} {tb : List T3} (h : OkNet n tb) : OkTubes n tb := fun t ht => by
  obtain ⟨h1, h2, _, h3⟩ := h.2.2 t ht
  exact ⟨by omega, by omega, h3⟩
set_option maxRecDepth 100000 in
set_option maxHeartbeats 4000000 in
theorem implValidSetting_any (n : Nat) (tb : List T3) (st : List Int) (A : Option Addr) (c : Nat) (w : World) (h : OkNet n tb) (hr : Rd3 w w.heap.size A tb) (As : Option Addr) (cs : Nat) (hs : OkSet n tb st) (hst : RdI w w.heap.size As st) :
    Calls Try.prog 144 #[.agg #[.int .i64 n, .slice A tb.length c], .slice As st.length cs] w fun e w' => e = .returned (.bool true) ∧ Below w.heap.size w w' := by
  have hl24 := h.2.1
  have hn10 := h.1.2
  have hsl := hs.1
  have hBl : ((st.length : Int) != (n : Int)) = false := by simp [hsl]
  have hsl10 : st.length ≤ 10 := by omega
  have HSL := hide hsl
  clear hsl
  have b0 : Below w.heap.size w (w.alloc (.cells #[.int .i64 n, .slice A tb.length c] 44)) := (by repeat (first | exact Below.refl _ _ | assumption | (refine Below.alloc ?_ (by simp <;> omega) _) | refine Below.drew ?_ | refine bdn ?_ _))
  have k0 : (w.alloc (.cells #[.int .i64 n, .slice A tb.length c] 44)).cell? ⟨w.heap.size, 0, none⟩ = some (.int .i64 n) := by simp [go_sem]
  have k1 : (w.alloc (.cells #[.int .i64 n, .slice A tb.length c] 44)).cell? ⟨w.heap.size, 1, none⟩ = some (.slice A tb.length c) := by simp [go_sem]
  have z0 : w.heap.size < (w.alloc (.cells #[.int .i64 n, .slice A tb.length c] 44)).heap.size := by simp
  have HN := hide fun W (hW : Below w.heap.size w W) => ((hr.below hW).more hW.size)
  have Hst := hide fun W (hW : Below w.heap.size w W) => RdI.more (RdI.below hst hW) hW.size
  have HV := hide (validNet_any n tb A c (w.alloc (.cells #[.int .i64 n, .slice A tb.length c] 44)) h (HN.out _ b0))
  have HO := hide fun W (hW : Below w.heap.size w W) => outside_any st (-1) ((tb.length : Int) - 1) As cs W (by omega) (Hst.out W hW)
  have hany : (st.any fun z => !inB (-1) ((tb.length : Int) - 1) z) = false := by
    rw [List.any_eq_false]; intro z hz'; rw [inB_t (hs.bd z hz')]; simp
  have HS := hide hs
  clear h hr hst hs
  go_enter Try.func144, Try.ntmps144
  go_upto_region 1 with fail
  generalize (w.alloc (.cells #[.int .i64 n, .slice A tb.length c] 44)) = w0 at *
  go_wp2_with (first
    | (go_at_call 96; (with_reducible refine (HV.out).mono ?_); rintro e w1 ⟨rfl, b1⟩; have q0 := (b1.cell (p := ⟨w.heap.size, 0, none⟩) z0).trans k0; have q1 := (b1.cell (p := ⟨w.heap.size, 1, none⟩) z0).trans k1; have bw1 := b0.trans (b1.mono b0.size); have z1 := Nat.lt_of_lt_of_le z0 b1.size)
    | (go_at_call 137; (with_reducible refine (HO.out _ bw1).mono ?_); rintro e w2 ⟨rfl, b2⟩; rw [hany]; have z2 := Nat.lt_of_lt_of_le z1 b2.size; have bw2 := bw1.trans (b2.mono bw1.size); have p0 := (b2.cell (p := ⟨w.heap.size, 0, none⟩) z1).trans q0; have p1 := (b2.cell (p := ⟨w.heap.size, 1, none⟩) z1).trans q1))
  go_loopg [27] st.length (fun g i wr => ∃ j : Nat, j ≤ st.length ∧ Hid (g = st.length - j) ∧ i = .int .i64 j ∧ Hid (Below w2.heap.size w2 wr))
  case atStart => exact ⟨0, by omega, by simp [Hid], rfl, Below.refl _ _⟩
  case round =>
    obtain ⟨j, hj, hgj, rfl, HB⟩ := hrel
    have r0 := (HB.out.cell (p := ⟨w.heap.size, 0, none⟩) z2).trans p0
    have r1 := (HB.out.cell (p := ⟨w.heap.size, 1, none⟩) z2).trans p1
    have hbw := bw2.trans (HB.out.mono bw2.size)
    clear k0 k1 q0 q1 p0 p1
    by_cases hjt : j < st.length
    · obtain ⟨b3, o3, z, rfl, _, hz, hc⟩ := (Hst.out wr hbw).at_ hjt
      rcases HS.out.2 j z hz with hz1 | ⟨hz0, t, ht, hta⟩
      · subst hz1
        clear hz hbw
        go_wp2_with fail
        go_roundg (st.length - (j + 1))
        case measure => have := hgj.out; omega
        case rel => exact ⟨j + 1, by omega, rfl, by go_num, HB⟩
      · obtain ⟨zn, rfl⟩ := Int.eq_ofNat_of_zero_le hz0
        rw [Int.toNat_natCast] at ht
        have hzt : zn < tb.length := lt_of_get ht
        obtain ⟨b4, o4, t', rfl, _, ht', c0, c1, c2⟩ := (HN.out wr hbw).at_ hzt
        obtain rfl := Option.some.inj (ht.symm.trans ht')
        have hzi : (zn : Int) < (tb.length : Int) := by omega
        clear hz hbw ht ht'
        rw [hta] at c0
        go_wp2_with fail
        go_roundg (st.length - (j + 1))
        case measure => have := hgj.out; omega
        case rel => exact ⟨j + 1, by omega, rfl, by go_num, HB⟩
    · go_wp2_with fail
      go_ret
      exact ⟨rfl, hbw⟩
set_option maxRecDepth 100000 in
set_option maxHeartbeats 4000000 in
theorem areTubes_any (n : Nat) (tb : List T3) (p : List Int) (A : Option Addr) (c : Nat) (w : World) (h : OkNet n tb) (hr : Rd3 w w.heap.size A tb) (Ap : Option Addr) (cp : Nat) (hin : ∀ z ∈ p, 0 ≤ z ∧ z ≤ (tb.length : Int) - 1) (hpl : p.length ≤ 1000) (hp : RdI w w.heap.size Ap p) :
    Calls Try.prog 91 #[.agg #[.int .i64 n, .slice A tb.length c], .slice Ap p.length cp] w fun e w' => e = .returned (.bool true) ∧ Below w.heap.size w w' := by
  have hl24 := h.2.1
  have b0 : Below w.heap.size w (w.alloc (.cells #[.int .i64 n, .slice A tb.length c] 44)) := (by repeat (first | exact Below.refl _ _ | assumption | (refine Below.alloc ?_ (by simp <;> omega) _) | refine Below.drew ?_ | refine bdn ?_ _))
  have k0 : (w.alloc (.cells #[.int .i64 n, .slice A tb.length c] 44)).cell? ⟨w.heap.size, 0, none⟩ = some (.int .i64 n) := by simp [go_sem]
  have k1 : (w.alloc (.cells #[.int .i64 n, .slice A tb.length c] 44)).cell? ⟨w.heap.size, 1, none⟩ = some (.slice A tb.length c) := by simp [go_sem]
  have z0 : w.heap.size < (w.alloc (.cells #[.int .i64 n, .slice A tb.length c] 44)).heap.size := by simp
  have Hp := hide fun W (hW : Below w.heap.size w W) => RdI.more (RdI.below hp hW) hW.size
  have HO := hide fun W (hW : Below w.heap.size w W) => outside_any p 0 ((tb.length : Int) - 1) Ap cp W (by omega) (Hp.out W hW)
  have hany : (p.any fun z => !inB 0 ((tb.length : Int) - 1) z) = false := by
    rw [List.any_eq_false]; intro z hz'; rw [inB_t (hin z hz')]; simp
  clear h hr hp hin
  go_enter Try.func91, Try.ntmps91
  go_upto_region 1 with fail
  generalize (w.alloc (.cells #[.int .i64 n, .slice A tb.length c] 44)) = w0 at *
  go_wp2_with (go_at_call 137; (with_reducible refine (HO.out _ b0).mono ?_); rintro e w2 ⟨rfl, b2⟩; rw [hany])
  go_ret
  exact ⟨rfl, b0.trans (b2.mono b0.size)⟩
set_option maxRecDepth 100000 in
set_option maxHeartbeats 4000000 in
theorem endOf_any (n : Nat) (tb : List T3) (p : List Int) (v u : Int) (A : Option Addr) (c : Nat) (w : World) (h : OkNet n tb) (hr : Rd3 w w.heap.size A tb) (Ap : Option Addr) (cp : Nat) (hw : wk tb (-1) p v u) (hpl : p.length ≤ 1000) (hp : RdI w w.heap.size Ap p) :
    Calls Try.prog 92 #[.agg #[.int .i64 n, .slice A tb.length c], .slice Ap p.length cp, .int .i64 v] w fun e w' => e = .returned (.tuple #[.int .i64 u, .bool true]) ∧ Below w.heap.size w w' := by
  have hl24 := h.2.1
  have b0 : Below w.heap.size w (w.alloc (.cells #[.int .i64 n, .slice A tb.length c] 44)) := (by repeat (first | exact Below.refl _ _ | assumption | (refine Below.alloc ?_ (by simp <;> omega) _) | refine Below.drew ?_ | refine bdn ?_ _))
  have k0 : (w.alloc (.cells #[.int .i64 n, .slice A tb.length c] 44)).cell? ⟨w.heap.size, 0, none⟩ = some (.int .i64 n) := by simp [go_sem]
  have k1 : (w.alloc (.cells #[.int .i64 n, .slice A tb.length c] 44)).cell? ⟨w.heap.size, 1, none⟩ = some (.slice A tb.length c) := by simp [go_sem]
  have z0 : w.heap.size < (w.alloc (.cells #[.int .i64 n, .slice A tb.length c] 44)).heap.size := by simp
  have HN := hide fun W (hW : Below w.heap.size w W) => ((hr.below hW).more hW.size)
  have Hp := hide fun W (hW : Below w.heap.size w W) => RdI.more (RdI.below hp hW) hW.size
  clear h hr hp
  go_enter Try.func92, Try.ntmps92
  go_upto_region 1 with fail
  generalize (w.alloc (.cells #[.int .i64 n, .slice A tb.length c] 44)) = w0 at *
  go_wp2_with fail
  go_loopg [12, 2] p.length (fun g i s wr => ∃ (j : Nat) (x : Int), j ≤ p.length ∧ Hid (g = p.length - j) ∧ i = .int .i64 j ∧ s = .int .i64 x ∧ Hid (wk tb (-1) (p.drop j) x u) ∧ Hid (Below w0.heap.size w0 wr))
  case atStart => exact ⟨0, v, by omega, by simp [Hid], rfl, rfl, hw, Below.refl _ _⟩
  case round =>
    obtain ⟨j, x, hj, hgj, rfl, rfl, HW, HB⟩ := hrel
    have r0 := (HB.out.cell (p := ⟨w.heap.size, 0, none⟩) z0).trans k0
    have r1 := (HB.out.cell (p := ⟨w.heap.size, 1, none⟩) z0).trans k1
    have hbw := b0.trans (HB.out.mono b0.size)
    clear k0 k1
    by_cases hjt : j < p.length
    · obtain ⟨b3, o3, z, rfl, _, hz, hc⟩ := (Hp.out wr hbw).at_ hjt
      have hd := HW.out
      rw [drop_cons hz] at hd
      obtain ⟨hz0, _, t, ht, hta, hw2⟩ := hd
      obtain ⟨zn, rfl⟩ := Int.eq_ofNat_of_zero_le hz0
      rw [Int.toNat_natCast] at ht
      have hzt : zn < tb.length := lt_of_get ht
      obtain ⟨b4, o4, t', rfl, _, ht', c0, c1, c2⟩ := (HN.out wr hbw).at_ hzt
      obtain rfl := Option.some.inj (ht.symm.trans ht')
      have hzi : (zn : Int) < (tb.length : Int) := by omega
      have HW2 := hide hw2
      clear hz hbw ht ht' HW hw2 hw
      rw [hta] at c0
      go_wp2_with fail
      go_roundg (p.length - (j + 1))
      case measure => have := hgj.out; omega
      case rel => exact ⟨j + 1, t.b, by omega, rfl, by go_num, rfl, HW2, HB⟩
    · have hd := HW.out
      rw [List.drop_eq_nil_of_le (by omega)] at hd
      have hd2 : x = u := hd
      subst hd2
      clear hd
      go_wp2_with fail
      go_ret2
      exact ⟨rfl, hbw⟩
set_option maxRecDepth 100000 in
set_option maxHeartbeats 4000000 in
theorem turns_any (n : Nat) (tb : List T3) (st p : List Int) (v u : Int) (A : Option Addr) (c : Nat) (w : World) (h : OkNet n tb) (hr : Rd3 w w.heap.size A tb) (As : Option Addr) (cs : Nat) (Ap : Option Addr) (cp : Nat) (hs : OkSet n tb st) (hw : wk tb (-1) p v u) (hpl : p.length ≤ 1000) (hst : RdI w w.heap.size As st) (hp : RdI w w.heap.size Ap p) :
    Calls Try.prog 86 #[.agg #[.int .i64 n, .slice A tb.length c], .slice As st.length cs, .slice Ap p.length cp] w fun e w' => e = .returned (.int .i64 (turnsC tb st p)) ∧ Below w.heap.size w w' := by
  have hl24 := h.2.1
  have hn10 := h.1.2
  have hsl := hs.1
  have HOK := hide (okTubes_of h)
  have b0 : Below w.heap.size w (w.alloc (.cells #[.int .i64 n, .slice A tb.length c] 44)) := (by repeat (first | exact Below.refl _ _ | assumption | (refine Below.alloc ?_ (by simp <;> omega) _) | refine Below.drew ?_ | refine bdn ?_ _))
  have k0 : (w.alloc (.cells #[.int .i64 n, .slice A tb.length c] 44)).cell? ⟨w.heap.size, 0, none⟩ = some (.int .i64 n) := by simp [go_sem]
  have k1 : (w.alloc (.cells #[.int .i64 n, .slice A tb.length c] 44)).cell? ⟨w.heap.size, 1, none⟩ = some (.slice A tb.length c) := by simp [go_sem]
  have z0 : w.heap.size < (w.alloc (.cells #[.int .i64 n, .slice A tb.length c] 44)).heap.size := by simp
  have HN := hide fun W (hW : Below w.heap.size w W) => ((hr.below hW).more hW.size)
  have Hst := hide fun W (hW : Below w.heap.size w W) => RdI.more (RdI.below hst hW) hW.size
  have Hp := hide fun W (hW : Below w.heap.size w W) => RdI.more (RdI.below hp hW) hW.size
  clear h hr hp hst
  have HWK := hide hw
  go_enter Try.func86, Try.ntmps86
  go_upto_region 1 with fail
  generalize (w.alloc (.cells #[.int .i64 n, .slice A tb.length c] 44)) = w0 at *
  go_wp2_with fail
  go_loopg [12, 7] p.length (fun g i s wr => ∃ (j : Nat) (x : Int), j ≤ p.length ∧ Hid (g = p.length - j) ∧ i = .int .i64 j ∧ s = .int .i64 x ∧ 0 ≤ x ∧ x ≤ j ∧ Hid (turnsC tb st p = x + turnsC tb st (p.drop j)) ∧ Hid (Below w0.heap.size w0 wr))
  case atStart => exact ⟨0, 0, by omega, by simp [Hid], rfl, rfl, by omega, by omega, by simp [Hid], Below.refl _ _⟩
  case round =>
    obtain ⟨j, x, hj, hgj, rfl, rfl, hx0, hx1, HT, HB⟩ := hrel
    have r0 := (HB.out.cell (p := ⟨w.heap.size, 0, none⟩) z0).trans k0
    have r1 := (HB.out.cell (p := ⟨w.heap.size, 1, none⟩) z0).trans k1
    have hbw := b0.trans (HB.out.mono b0.size)
    clear k0 k1 hw
    by_cases hjt : j < p.length
    · obtain ⟨b3, o3, z, rfl, _, hz, hc⟩ := (Hp.out wr hbw).at_ hjt
      obtain ⟨hz0, t, ht⟩ := wk_get HWK.out hz
      have hT := HT.out
      rw [turnsC_drop hz] at hT
      obtain ⟨zn, rfl⟩ := Int.eq_ofNat_of_zero_le hz0
      have hta := tubeAt_get ht
      rw [hta] at hT
      rw [Int.toNat_natCast] at ht
      have hzt : zn < tb.length := lt_of_get ht
      have hbt := HOK.out t (List.mem_of_getElem? ht)
      obtain ⟨tn, htn⟩ : ∃ tn : Nat, t.a = (tn : Int) := ⟨t.a.toNat, by omega⟩
      have htl : tn < st.length := by omega
      obtain ⟨b4, o4, t', rfl, _, ht', c0, c1, c2⟩ := (HN.out wr hbw).at_ hzt
      obtain rfl := Option.some.inj (ht.symm.trans ht')
      obtain ⟨b5, o5, y, rfl, _, hy, hcy⟩ := (Hst.out wr hbw).at_ htl
      have hdy : dAt st t.a = y := by rw [htn]; simp [dAt, hy]
      rw [hdy] at hT
      have hzi : (zn : Int) < (tb.length : Int) := by omega
      have htl2 : (tn : Int) < (st.length : Int) := by omega
      rw [htn] at c0
      clear hz ht ht' hbt HT hta hy hdy
      by_cases hyz : y = (zn : Int)
      · have hB : (y != (zn : Int)) = false := by simp [hyz]
        have HT2 : Hid (turnsC tb st p = x + turnsC tb st (p.drop (j + 1))) := by unfold Hid; rw [if_pos hyz] at hT; omega
        have HYZ := hide hyz
        clear hyz hT hbw
        go_wp2_with fail
        go_roundg (p.length - (j + 1))
        case measure => have := hgj.out; omega
        case rel => exact ⟨j + 1, x, by omega, rfl, by go_num, rfl, by omega, by omega, HT2, HB⟩
      · have hB : (y != (zn : Int)) = true := by simp [hyz]
        have HT2 : Hid (turnsC tb st p = x + 1 + turnsC tb st (p.drop (j + 1))) := by unfold Hid; rw [if_neg hyz] at hT; omega
        have HYZ := hide hyz
        clear hyz hT hbw
        go_wp2_with fail
        go_roundg (p.length - (j + 1))
        case measure => have := hgj.out; omega
        case rel => exact ⟨j + 1, x + 1, by omega, rfl, by go_num, rfl, by omega, by omega, HT2, HB⟩
    · have hd := HT.out
      rw [turnsC_end (by omega), Int.add_zero] at hd
      go_wp2_with fail
      go_ret
      exact ⟨ret_i hd.symm, hbw⟩
end Go.Proofs.Ytlkccijlbeibjaa
namespace Go.Proofs.Ytlkccijlbeibjaa
open Go.RowKit

end Go.Proofs.Ytlkccijlbeibjaa
namespace Go.Proofs.Ytlkccijlbeibjaa
open Go.RowKit

def okMove (n : Int) (m : T3) : Bool := inB 0 (n - 1) m.a && (inB 0 (n - 1) m.b && (!decide (m.a = m.b) && inB 1 200 m.c))
theorem okMove_iff {n : Int} {m : T3} : okMove n m = true ↔ (0 ≤ m.a ∧ m.a ≤ n - 1) ∧ (0 ≤ m.b ∧ m.b ≤ n - 1) ∧ m.a ≠ m.b ∧ (1 ≤ m.c ∧ m.c ≤ 200) := by
  simp [okMove, inB]
def vMoves (n : Int) (ms : List T3) : Bool := ms.all (okMove n) && decide (ms.length ≤ 40)

set_option maxRecDepth 100000 in
set_option maxHeartbeats 1000000 in
theorem l00Own_any (xs : List Int) (A : Option Addr) (c : Nat) (w : World) (hx : xs.length ≤ 1048576) (h1 : RdI w w.heap.size A xs) :
    Calls Try.prog 136 #[.slice A xs.length c] w fun e w' => ∃ A' c', e = .returned (.slice A' xs.length c') ∧ w'.ownsRow w.heap.size 2 1 (.slice A' xs.length c') xs.length (xs.map (Value.int .i64)) ∧ Below w.heap.size w w' := by
  obtain ⟨i0, hi0, hz0, hs0, hb0⟩ := info_parts int64_info
  have HX := hide h1; clear h1
  go_enter Try.func136, Try.ntmps136
  have ho0 := own_new0 w w.heap.size 2 1 (Nat.le_refl _)
  have hb1 : Below w.heap.size w (w.alloc (.cells #[] 2)) := (Below.refl _ _).alloc (Nat.le_refl _) _
  have HR := hide (Rd.below HX.out hb1)
  go_wp2_with (at_builtin; go_must (refine wp_app _ rfl _ _ 22 rfl w.heap.size 2 i0 (.int .i64 0) 1 8 Try.underlying22 hi0 hz0 hs0 hb0 rfl (by decide) _ _ _ rfl ho0 _ _ xs.length c _ rfl (by simp) HR.out (ints_one _) (by omega) (by decide) (by simp) ?_); intro v' w1 hown' hgrow hat)
  go_ret
  simp only [Nat.zero_add, List.nil_append] at hown'
  obtain ⟨A', c', rfl, _⟩ := own_shape hown'
  exact ⟨A', c', rfl, hown', app_below hb1 ho0 hgrow (Nat.le_refl _) (by simp)⟩
theorem own_pos' {w : World} {base : Nat} {e : TypeId} {size n c : Nat} {A : Option Addr} {xs : List Value} (h : w.ownsRow base e size (.slice A n c) n xs) (hn : 0 < n) : ∃ g, A = some ⟨g, 0, none⟩ ∧ base ≤ g ∧ g < w.heap.size := by
  rcases own_block h with ⟨_, h0, _⟩ | ⟨g, hA, h1, h2⟩
  · omega
  · exact ⟨g, hA, h1, h2⟩
theorem own_int_at {w : World} {base : Nat} {e : TypeId} {n c g : Nat} {zs : List Int} (h : w.ownsRow base e 1 (.slice (some ⟨g, 0, none⟩) n c) n (zs.map (Value.int .i64))) {i : Nat} {z : Int} (hz : zs[i]? = some z) : w.cell? ⟨g, i, none⟩ = some (.int .i64 z) := by
  have hl := h.1
  have hi := lt_of_get hz
  simp only [List.length_map, Nat.mul_one] at hl
  rw [h.cellAt i (by omega), List.getElem?_map, hz]; rfl
theorem own_int_set {w : World} {base : Nat} {e : TypeId} {n c g : Nat} {zs : List Int} (h : w.ownsRow base e 1 (.slice (some ⟨g, 0, none⟩) n c) n (zs.map (Value.int .i64))) (i : Nat) (z : Int) :
    (w.setCell ⟨g, i, none⟩ (.int .i64 z)).ownsRow base e 1 (.slice (some ⟨g, 0, none⟩) n c) n ((zs.set i z).map (Value.int .i64)) ∧ w.grownBy (w.setCell ⟨g, i, none⟩ (.int .i64 z)) (some g) := by
  have := h.stored i (.int .i64 z)
  rw [← List.map_set] at this
  exact this
end Go.Proofs.Ytlkccijlbeibjaa
