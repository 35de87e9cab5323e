/-
  A network as a text, in the program.
  Drawn moves.
  A drawn tube.
-/
import Derived.Test.YtaajkmjilcamgaaGreatDoorQWays8
import Derived.Test.YtaajkmjilcamgaaGreatDoorQWays9
import Derived.Test.YtaajkmjilcamgaaGreatDoorQWays2
import Derived.Test.YtaajkmjilcamgaaGreatDoorQWays10
import Derived.Deep.DeepCutAuto
import Derived.Deep.RegionHeld3
import Derived.Test.YtaajkmjilcamgaaGreatDoorQWays5
namespace Go.Proofs.YtaajkmjilcamgaaGreatDoor
open Go.RowKit
theorem decS {n : Int} (h : 0 ≤ n ∧ n ≤ 10000) : (decB n).size ≤ 21 := itoa_size (by omega) (by omega)
theorem joinExtra : Builder.Extra Tryz.prog YtaajkmjilcamgaaGreatDoor.joinLay_ren := {
  sizeBuilder := by kernel_rfl
  liesBuilder := by kernel_rfl
  t5 := Tryz.underlying5
  a5 := Tryz.isAgg5
  z5 := Tryz.sizeOf5
  v5 := Tryz.zeroValue5
  infoByte := by kernel_rfl
  cellsByte := by kernel_rfl
  sizeByte := by kernel_rfl
  neB5 := by decide }
theorem joinS_any (xs : List ByteArray) (g k : Nat) (W : World) (hc : ∀ (j : Nat) x, xs[j]? = some x → W.cell? ⟨g, j, none⟩ = some (.string x)) (hg : g < W.heap.size) (hl : xs.length ≤ 100) (hk : xs.length ≤ k) (hlen : (Lib.join (xs.map (·.data.toList)) [32]).length ≤ 100000) :
    Calls Tryz.prog 45 #[.slice (some ⟨g, 0, none⟩) xs.length k, .string ⟨#[32]⟩] W fun e w' => e = .returned (.string ⟨(Lib.join (xs.map (·.data.toList)) [32]).toArray⟩) ∧ Below W.heap.size W w' :=
  Go.Proofs.Any.strings_Join { YtaajkmjilcamgaaGreatDoor.joinLay with } joinExtra g 0 k xs ⟨#[32]⟩ W (fun j x hx => by rw [Nat.zero_add]; exact hc j x hx) hg (by omega) hk (by show (Lib.join _ [32]).length ≤ _; omega)
def netWB (n : Int) (tb : List T3) : List ByteArray := headB n :: tb.map tubeB
theorem netWB_join (n : Int) (tb : List T3) : Lib.join ((netWB n tb).map (·.data.toList)) [32] = netL n tb := by
  unfold netWB netL
  rw [List.map_cons, List.map_map]
  rfl
theorem netL_len {n : Int} {tb : List T3} (h : OkNet n tb) : (netL n tb).length ≤ 2000 := by
  obtain ⟨⟨hn2, hn10⟩, hl, ht⟩ := h
  have h1 := join_len (headL n :: tb.map tubeL) 32 59 (fun x hx => by
    rcases List.mem_cons.1 hx with rfl | hx
    · have := itoa_len (n := n) (by omega)
      unfold headL
      rw [List.length_append]
      show _ + 1 ≤ _
      omega
    · obtain ⟨t, htm, rfl⟩ := List.mem_map.1 hx
      obtain ⟨h1, h2, _, h3⟩ := ht t htm
      exact tubeL_len (n := n) ⟨by omega, by omega, by omega⟩)
  rw [List.length_cons, List.length_map] at h1
  unfold netL
  omega
set_option maxRecDepth 100000 in
set_option maxHeartbeats 8000000 in
theorem netText_any (n : Nat) (tb : List T3) (A : Option Addr) (c : Nat) (w : World) (h : OkNet n tb) (hr : Rd3 w w.heap.size A tb) (htw : TabW w) :
    Calls Tryz.prog 11 #[.agg #[.int .i64 n, .slice A tb.length c]] w fun e w' => e = .returned (.string (netB n tb)) ∧ Below w.heap.size w w' := by
  obtain ⟨i0, hi0, hz0, hs0, hb0⟩ := info_parts string_inf
  have hl24 := h.2.1
  have hn10 := h.1.2
  have hlen := netL_len h
  have X0 := hide (BoxN.new w #[.int .i64 n, .slice A tb.length c] 26)
  have B0 := hide (show Below w.heap.size w (w.alloc (.cells #[.int .i64 n, .slice A tb.length c] 26)) from (Below.refl _ _).alloc (Nat.le_refl _) _)
  have HV := hide fun W (hW : Below w.heap.size w W) => validNet_any n tb A c W h ((hr.below hW).more hW.size)
  have HDC := hide fun (z : Int) W (hz : 0 ≤ z ∧ z ≤ 10000) (hW : Below w.heap.size w W) => decimal_any z W (by omega) (by omega) (htw.below hW)
  have HR := hide hr
  have HJ := hide fun g k W hc hg hk => joinS_any (netWB n tb) g k W hc hg (by unfold netWB; rw [List.length_cons, List.length_map]; omega) hk (by rw [netWB_join]; omega)
  rw [netWB_join] at HJ
  have hwl : (netWB n tb).length = tb.length + 1 := by unfold netWB; rw [List.length_cons, List.length_map]
  rw [hwl] at HJ
  have HHB := hide (headB_eq (n : Int))
  have HTB := hide fun t => tubeB_eq t
  have HTD := hide fun t (ht : t ∈ tb) => h.2.2 t ht
  have hsz := decS (n := (n : Int)) ⟨by omega, by omega⟩
  have HWB := hide (show netWB n tb = headB n :: tb.map tubeB from rfl)
  have HNB := hide (show netB n tb = ⟨(netL n tb).toArray⟩ from rfl)
  clear h hr htw hlen hwl
  go_enter Tryz.func11, Tryz.ntmps11
  go_upto_region 1 with fail
  generalize w.alloc (.cells #[.int .i64 n, .slice A tb.length c] 26) = w1 at *
  have k0 := X0.out.cell 0
  have k1 := X0.out.cell 1
  go_upto_region 3 with (go_at_call 43; (with_reducible refine (HV.out _ B0.out).mono ?_); rintro e w2 ⟨rfl, b2⟩)
  have X2 := hide (X0.out.below b2 X0.out.lt)
  have B2 := hide (B0.out.trans (b2.mono B0.out.size))
  clear k0 k1 b2 X0 B0 HV
  have k0 : w2.cell? ⟨w.heap.size, 0, none⟩ = some (.int .i64 n) := X2.out.cell 0
  have HD0 := hide (HDC.out (n : Int) w2 (by omega) B2.out)
  generalize decB (n : Int) = hb at *
  have hcat : ¬ 9223372036854775807 < hb.size + 1 := by omega
  go_upto_region 4 with (go_at_call 44; (with_reducible refine (HD0.out).mono ?_); rintro e w3 ⟨rfl, b3⟩)
  have X3 := hide (X2.out.below b3 X2.out.lt)
  have B3 := hide (B2.out.trans (b3.mono B2.out.size))
  clear k0 b3 X2 B2 HD0
  rw [HHB.out]
  have HO4 := hide (show (w3.alloc (.cells #[.string (headB n)] 9)).ownsRow w.heap.size 9 1 (.slice (some ⟨w3.heap.size, 0, none⟩) 1 1) 1 ([headB n].map Value.string) from by have := World.ownsRow_lit (e := 9) (size := 1) w3 #[.string (headB n)] 1 B3.out.size (by decide) rfl; exact this)
  have X4 := hide (X3.out.alloc (.cells #[.string (headB n)] 9))
  have B4 := hide (B3.out.alloc B3.out.size (.cells #[.string (headB n)] 9))
  clear X3 B3
  generalize w3.alloc (.cells #[.string (headB n)] 9) = w4 at *
  generalize Value.slice (some ⟨w3.heap.size, 0, none⟩) 1 1 = sv0 at *
  have k1 : w4.cell? ⟨w.heap.size, 1, none⟩ = some (.slice A tb.length c) := X4.out.cell 1
  go_upto_region 5 with fail
  go_loopg [3, 17] tb.length (fun g sv iv wr => ∃ k : Nat, k ≤ tb.length ∧ Hid (g = tb.length - k) ∧ iv = .int .i64 k ∧ Hid (wr.ownsRow w.heap.size 9 1 sv (k + 1) ((headB n :: (tb.take k).map tubeB).map Value.string)) ∧ Hid (Below w.heap.size w wr))
  case atStart => exact ⟨0, by omega, by simp [Hid], rfl, hide (by simpa using HO4.out), B4⟩
  case round =>
    obtain ⟨k, hk, hg, rfl, HO, HB⟩ := hrel
    clear HO4 B4 k1
    have zr := HB.out.size
    by_cases hkt : k < tb.length
    case neg =>
      obtain rfl : k = tb.length := by omega
      have ho := HO.out
      rw [List.take_length] at ho
      obtain ⟨A9, c9, rfl, _⟩ := own_shape ho
      obtain ⟨g9, rfl, _, hg9⟩ : ∃ g, A9 = some ⟨g, 0, none⟩ ∧ w.heap.size ≤ g ∧ g < wr.heap.size := by
        rcases own_block ho with ⟨_, h0, _⟩ | h0
        · omega
        · exact h0
      have hcap : tb.length + 1 ≤ c9 := by
        rcases ho.2 with ⟨h0, _⟩ | ⟨_, cap, _, he, _, _, hc, _⟩
        · cases h0
        · cases he; exact hc
      have HJ2 := hide (HJ.out g9 c9 wr (fun j x hx => by
        rw [HWB.out] at hx
        have hh := ho.cells rfl j _ (by rw [List.getElem?_map, hx]; rfl)
        rcases Nat.eq_zero_or_pos j with rfl | h0
        · simpa [Addr.add] using hh
        · simpa [Addr.add, Nat.pos_iff_ne_zero.1 h0] using hh) hg9 hcap)
      clear ho HO
      go_wp2_with (go_at_call 45; (with_reducible refine (HJ2.out).mono ?_); rintro e w9 ⟨rfl, b9⟩)
      go_ret
      exact ⟨by rw [HNB.out]; rfl, HB.out.trans (b9.mono HB.out.size)⟩
    obtain ⟨pb, po, t, hA, _, htj, hta, htb, htc⟩ := ((HR.out.below HB.out).more HB.out.size).at_ hkt
    subst hA
    obtain ⟨q1, q2, _, q3⟩ := HTD.out t (List.mem_of_getElem? htj)
    obtain ⟨ta, tt, tc⟩ := t
    dsimp only at q1 q2 q3 hta htb htc
    have HTT := hide (HTB.out ⟨ta, tt, tc⟩)
    dsimp only at HTT
    have HTK := hide (show tb.take (k + 1) = tb.take k ++ [⟨ta, tt, tc⟩] by rw [List.take_add_one, htj]; rfl)
    have za := decS (n := ta) ⟨by omega, by omega⟩
    have zb := decS (n := tt) ⟨by omega, by omega⟩
    have zc := decS (n := tc) ⟨by omega, by omega⟩
    have HDa := hide fun W (hW : Below w.heap.size w W) => HDC.out ta W (by omega) hW
    have HDb := hide fun W (hW : Below w.heap.size w W) => HDC.out tt W (by omega) hW
    have HDc := hide fun W (hW : Below w.heap.size w W) => HDC.out tc W (by omega) hW
    generalize decB ta = SA at *
    generalize decB tt = SB at *
    generalize decB tc = SC at *
    generalize htx : tubeB ⟨ta, tt, tc⟩ = TX at *
    have HTX := hide htx
    clear htx
    have c1 : ¬ 9223372036854775807 < SA.size + 1 := by omega
    have c2 : ¬ 9223372036854775807 < SA.size + 1 + SB.size := by omega
    have c3 : ¬ 9223372036854775807 < SA.size + 1 + SB.size + 1 := by omega
    have c4 : ¬ 9223372036854775807 < SA.size + 1 + SB.size + 1 + SC.size := by omega
    have hki : (k : Int) < (tb.length : Int) := by omega
    clear htj q1 q2 q3
    go_upto_region 7 with fail
    have XT : Hid (BoxN (wr.alloc (.cells #[.int .i64 ta, .int .i64 tt, .int .i64 tc] 41)).drew wr.heap.size #[.int .i64 ta, .int .i64 tt, .int .i64 tc] 41) := hide (BoxN.new wr #[.int .i64 ta, .int .i64 tt, .int .i64 tc] 41)
    have BT := hide (show Below w.heap.size w (wr.alloc (.cells #[.int .i64 ta, .int .i64 tt, .int .i64 tc] 41)).drew from (HB.out.alloc zr _).drew)
    have OT : Hid ((wr.alloc (.cells #[.int .i64 ta, .int .i64 tt, .int .i64 tc] 41)).drew.ownsRow w.heap.size 9 1 u3 (k + 1) ((headB n :: (tb.take k).map tubeB).map Value.string)) := hide (HO.out.alloc (.cells #[.int .i64 ta, .int .i64 tt, .int .i64 tc] 41))
    have HLT := hide (fun g (e : u3.ownBlock = some g) => (HO.out.lt g e).2)
    clear hta htb htc HO HB
    have e0 := XT.out.cell 0
    have e1 := XT.out.cell 1
    have e2 := XT.out.cell 2
    generalize wr.heap.size = gt at *
    refine wp_region_held_drew (S := fun W => W.cell? ⟨gt, 0, none⟩ = some (.int .i64 ta) ∧ W.cell? ⟨gt, 1, none⟩ = some (.int .i64 tt) ∧ W.cell? ⟨gt, 2, none⟩ = some (.int .i64 tc)) (by kernel_rfl) (⟨e0, e1, e2⟩) (fun hHeld => ?_)
    generalize (wr.alloc (.cells #[.int .i64 ta, .int .i64 tt, .int .i64 tc] 41)).drew = wd at *
    refine wpAnyH_take (i := 0) (v := ?_) rfl (by kernel_rfl) (by kernel_rfl) (by kernel_rfl) (fun _ _ _ h => h) (Or.inl ⟨by rfl, ?_⟩) (by assumption) ?_
    rotate_left 1
    · (intro w hSw; (try dsimp only at hSw); go_simp; try with_reducible rfl)
    try simp only [Act.put, List.getElem_toArray, List.getElem_cons_succ, List.getElem_cons_zero, List.setIfInBounds_toArray, List.set_cons_zero, List.set_cons_succ]
    refine wpAnyH_take (i := 1) (v := ?_) rfl (by kernel_rfl) (by kernel_rfl) (by kernel_rfl) (fun _ _ _ h => h) (Or.inl ⟨by rfl, ?_⟩) (by assumption) ?_
    rotate_left 1
    · (intro w hSw; (try dsimp only at hSw); go_simp; try with_reducible rfl)
    try simp only [Act.put, List.getElem_toArray, List.getElem_cons_succ, List.getElem_cons_zero, List.setIfInBounds_toArray, List.set_cons_zero, List.set_cons_succ]
    refine wpAnyH_take (i := 2) (v := ?_) rfl (by kernel_rfl) (by kernel_rfl) (by kernel_rfl) (fun _ _ _ h => h) (Or.inl ⟨by rfl, ?_⟩) (by assumption) ?_
    rotate_left 1
    · (intro w hSw; (try dsimp only at hSw); go_simp; try with_reducible rfl)
    try simp only [Act.put, List.getElem_toArray, List.getElem_cons_succ, List.getElem_cons_zero, List.setIfInBounds_toArray, List.set_cons_zero, List.set_cons_succ]
    refine wpAnyH_take (i := 5) (v := ?_) rfl (by kernel_rfl) (by kernel_rfl) (by kernel_rfl) (fun _ _ _ h => h) (Or.inl ⟨by rfl, ?_⟩) (by assumption) ?_
    rotate_left 1
    · (intro w hSw; (try dsimp only at hSw); go_simp; try with_reducible rfl)
    try simp only [Act.put, List.getElem_toArray, List.getElem_cons_succ, List.getElem_cons_zero, List.setIfInBounds_toArray, List.set_cons_zero, List.set_cons_succ]
    refine wpAnyH_take (i := 6) (v := ?_) rfl (by kernel_rfl) (by kernel_rfl) (by kernel_rfl) (fun _ _ _ h => h) (Or.inl ⟨by rfl, ?_⟩) (by assumption) ?_
    rotate_left 1
    · (intro w hSw; (try dsimp only at hSw); go_simp; try with_reducible rfl)
    try simp only [Act.put, List.getElem_toArray, List.getElem_cons_succ, List.getElem_cons_zero, List.setIfInBounds_toArray, List.set_cons_zero, List.set_cons_succ]
    refine wpAnyH_take (i := 10) (v := ?_) rfl (by kernel_rfl) (by kernel_rfl) (by kernel_rfl) (fun _ _ _ h => h) (Or.inl ⟨by rfl, ?_⟩) (by assumption) ?_
    rotate_left 1
    · (intro w hSw; (try dsimp only at hSw); go_simp; try with_reducible rfl)
    try simp only [Act.put, List.getElem_toArray, List.getElem_cons_succ, List.getElem_cons_zero, List.setIfInBounds_toArray, List.set_cons_zero, List.set_cons_succ]
    refine wpAnyH_take (i := 11) (v := ?_) rfl (by kernel_rfl) (by kernel_rfl) (by kernel_rfl) (fun _ _ _ h => h) (Or.inl ⟨by rfl, ?_⟩) (by assumption) ?_
    rotate_left 1
    · (intro w hSw; (try dsimp only at hSw); go_simp; try with_reducible rfl)
    try simp only [Act.put, List.getElem_toArray, List.getElem_cons_succ, List.getElem_cons_zero, List.setIfInBounds_toArray, List.set_cons_zero, List.set_cons_succ]
    refine wpAnyH_ready (rs := [3]) (by kernel_rfl) (by simp) ?_
    refine AllReadyH.cons rfl (fun K hK => ?_) AllReadyH.nil
    try simp only [Act.put, List.getElem_toArray, List.getElem_cons_succ, List.getElem_cons_zero, List.setIfInBounds_toArray, List.set_cons_zero, List.set_cons_succ]
    go_simp
    go_at_call 44
    refine (HDa.out _ BT.out).mono ?_
    rintro e w5 ⟨rfl, b5⟩
    have X5 := hide (XT.out.below b5 XT.out.lt)
    have O5 := hide (own_below OT.out b5 (Nat.le_refl _))
    have B5 := hide (BT.out.trans (b5.mono BT.out.size))
    clear b5 e0 e1 e2 XT OT BT
    have e0 := X5.out.cell 0
    have e1 := X5.out.cell 1
    have e2 := X5.out.cell 2
    dsimp only
    refine hK.out _ _ (⟨e0, e1, e2⟩) (fun hHeld => ?_)
    clear hK K
    try simp only [Act.put, List.getElem_toArray, List.getElem_cons_succ, List.getElem_cons_zero, List.setIfInBounds_toArray, List.set_cons_zero, List.set_cons_succ]
    refine wpAnyH_take (i := 4) (v := ?_) rfl (by kernel_rfl) (by kernel_rfl) (by kernel_rfl) (fun _ _ _ h => h) (Or.inl ⟨by rfl, ?_⟩) (by assumption) ?_
    rotate_left 1
    · (intro w hSw; (try dsimp only at hSw); go_simp; try with_reducible rfl)
    try simp only [Act.put, List.getElem_toArray, List.getElem_cons_succ, List.getElem_cons_zero, List.setIfInBounds_toArray, List.set_cons_zero, List.set_cons_succ]
    refine wpAnyH_ready (rs := [7]) (by kernel_rfl) (by simp) ?_
    refine AllReadyH.cons rfl (fun K hK => ?_) AllReadyH.nil
    try simp only [Act.put, List.getElem_toArray, List.getElem_cons_succ, List.getElem_cons_zero, List.setIfInBounds_toArray, List.set_cons_zero, List.set_cons_succ]
    go_simp
    go_at_call 44
    refine (HDb.out _ B5.out).mono ?_
    rintro e w6 ⟨rfl, b6⟩
    have X6 := hide (X5.out.below b6 X5.out.lt)
    have O6 := hide (own_below O5.out b6 (Nat.le_refl _))
    have B6 := hide (B5.out.trans (b6.mono B5.out.size))
    clear b6 e0 e1 e2 X5 O5 B5
    have e0 := X6.out.cell 0
    have e1 := X6.out.cell 1
    have e2 := X6.out.cell 2
    dsimp only
    refine hK.out _ _ (⟨e0, e1, e2⟩) (fun hHeld => ?_)
    clear hK K
    try simp only [Act.put, List.getElem_toArray, List.getElem_cons_succ, List.getElem_cons_zero, List.setIfInBounds_toArray, List.set_cons_zero, List.set_cons_succ]
    refine wpAnyH_take (i := 8) (v := ?_) rfl (by kernel_rfl) (by kernel_rfl) (by kernel_rfl) (fun _ _ _ h => h) (Or.inl ⟨by rfl, ?_⟩) (by assumption) ?_
    rotate_left 1
    · (intro w hSw; (try dsimp only at hSw); go_simp; try with_reducible rfl)
    try simp only [Act.put, List.getElem_toArray, List.getElem_cons_succ, List.getElem_cons_zero, List.setIfInBounds_toArray, List.set_cons_zero, List.set_cons_succ]
    refine wpAnyH_take (i := 9) (v := ?_) rfl (by kernel_rfl) (by kernel_rfl) (by kernel_rfl) (fun _ _ _ h => h) (Or.inl ⟨by rfl, ?_⟩) (by assumption) ?_
    rotate_left 1
    · (intro w hSw; (try dsimp only at hSw); go_simp; try with_reducible rfl)
    try simp only [Act.put, List.getElem_toArray, List.getElem_cons_succ, List.getElem_cons_zero, List.setIfInBounds_toArray, List.set_cons_zero, List.set_cons_succ]
    refine wpAnyH_ready (rs := [12]) (by kernel_rfl) (by simp) ?_
    refine AllReadyH.cons rfl (fun K hK => ?_) AllReadyH.nil
    try simp only [Act.put, List.getElem_toArray, List.getElem_cons_succ, List.getElem_cons_zero, List.setIfInBounds_toArray, List.set_cons_zero, List.set_cons_succ]
    go_simp
    go_at_call 44
    refine (HDc.out _ B6.out).mono ?_
    rintro e w7 ⟨rfl, b7⟩
    have X7 := hide (X6.out.below b7 X6.out.lt)
    have O7 := hide (own_below O6.out b7 (Nat.le_refl _))
    have B7 := hide (B6.out.trans (b7.mono B6.out.size))
    clear b7 e0 e1 e2 X6 O6 B6
    have e0 := X7.out.cell 0
    have e1 := X7.out.cell 1
    have e2 := X7.out.cell 2
    dsimp only
    refine hK.out _ _ (⟨e0, e1, e2⟩) (fun hHeld => ?_)
    clear hK K
    try simp only [Act.put, List.getElem_toArray, List.getElem_cons_succ, List.getElem_cons_zero, List.setIfInBounds_toArray, List.set_cons_zero, List.set_cons_succ]
    refine wpAnyH_take (i := 13) (v := ?_) rfl (by kernel_rfl) (by kernel_rfl) (by kernel_rfl) (fun _ _ _ h => h) (Or.inl ⟨by rfl, ?_⟩) (by assumption) ?_
    rotate_left 1
    · (intro w hSw; (try dsimp only at hSw); go_simp; try with_reducible rfl)
    try simp only [Act.put, List.getElem_toArray, List.getElem_cons_succ, List.getElem_cons_zero, List.setIfInBounds_toArray, List.set_cons_zero, List.set_cons_succ]
    refine wpAnyH_ready (rs := [14]) (by kernel_rfl) (by simp) ?_
    refine AllReadyH.cons rfl (fun K hK => ?_) AllReadyH.nil
    try simp only [Act.put, List.getElem_toArray, List.getElem_cons_succ, List.getElem_cons_zero, List.setIfInBounds_toArray, List.set_cons_zero, List.set_cons_succ]
    go_simp
    rw [HTT.out]
    have X8 := hide (X7.out.alloc (.cells #[.string TX] 9))
    have f0 := X8.out.cell 0
    have f1 := X8.out.cell 1
    have f2 := X8.out.cell 2
    refine hK.out _ _ (⟨f0, f1, f2⟩) (fun hHeld => ?_)
    clear hK K
    try simp only [Act.put, List.getElem_toArray, List.getElem_cons_succ, List.getElem_cons_zero, List.setIfInBounds_toArray, List.set_cons_zero, List.set_cons_succ]
    have hb8 := B7.out.alloc B7.out.size (.cells #[.string TX] 9)
    have ho8 := O7.out.alloc (.cells #[.string TX] 9)
    have hrd := rd_new w7 [.string TX] 9 _ rfl
    refine wpAnyH_ready (rs := [15]) (by kernel_rfl) (by simp) ?_
    refine AllReadyH.cons rfl (fun K hK => ?_) AllReadyH.nil
    try simp only [Act.put, List.getElem_toArray, List.getElem_cons_succ, List.getElem_cons_zero, List.setIfInBounds_toArray, List.set_cons_zero, List.set_cons_succ]
    rw [if_pos (by rfl)]
    refine op_app _ _ _ 65 rfl w.heap.size 9 i0 (.string ByteArray.empty) 1 16 Tryz.underlying65 hi0 hz0 hs0 hb0 rfl (by decide) _ _ _ rfl ho8 _ _ 1 1 [.string TX] rfl rfl hrd (str_one _) (by omega) (by decide) hb8.size ?_
    intro v9 w9 hown9 hgrow9 hat9
    have X9 := hide (show BoxN w9 gt #[.int .i64 ta, .int .i64 tt, .int .i64 tc] 41 from (hgrow9.block gt X8.out.lt (fun e => by have := HLT.out _ e.symm; omega)).trans X8.out)
    have HB9 := hide (app_below hb8 ho8 hgrow9 (Nat.le_refl _) hb8.size)
    have HO9 := hide (show w9.ownsRow w.heap.size 9 1 v9 (k + 1 + 1) ((headB n :: (tb.take (k + 1)).map tubeB).map Value.string) by
      rw [HTK.out, List.map_append]
      show w9.ownsRow w.heap.size 9 1 v9 (k + 1 + 1) (((headB n :: (tb.take k).map tubeB) ++ [tubeB ⟨ta, tt, tc⟩]).map Value.string)
      rw [List.map_append, HTX.out]
      exact hown9)
    have l0 := X9.out.cell 0
    have l1 := X9.out.cell 1
    have l2 := X9.out.cell 2
    dsimp only
    refine hK.out _ _ (⟨l0, l1, l2⟩) (fun hHeld => ?_)
    clear hK K
    try simp only [Act.put, List.getElem_toArray, List.getElem_cons_succ, List.getElem_cons_zero, List.setIfInBounds_toArray, List.set_cons_zero, List.set_cons_succ]
    refine wpAnyH_take (i := 16) (v := ?_) rfl (by kernel_rfl) (by kernel_rfl) (by kernel_rfl) (fun _ _ _ h => h) (Or.inl ⟨by rfl, ?_⟩) (by assumption) ?_
    rotate_left 1
    · (intro w hSw; (try dsimp only at hSw); go_simp; try with_reducible rfl)
    try simp only [Act.put, List.getElem_toArray, List.getElem_cons_succ, List.getElem_cons_zero, List.setIfInBounds_toArray, List.set_cons_zero, List.set_cons_succ]
    refine wpAnyH_done (by kernel_rfl) ?_ _
    clear hown9 hgrow9 hat9 hb8 ho8 hrd e0 e1 e2 f0 f1 f2 l0 l1 l2
    go_wp2_with fail
    go_roundg (tb.length - (k + 1))
    case measure => have := hg.out; omega
    case rel => exact ⟨k + 1, by omega, rfl, by go_num, HO9, HB9⟩
end Go.Proofs.YtaajkmjilcamgaaGreatDoor
namespace Go.Proofs.YtaajkmjilcamgaaGreatDoor
open Go.RowKit
theorem BoxN.c3 {w : World} {b : Nat} {x y z : Value} {e : TypeId} (h : BoxN w b #[x, y, z] e) : w.cell? ⟨b, 0, none⟩ = some x ∧ w.cell? ⟨b, 1, none⟩ = some y ∧ w.cell? ⟨b, 2, none⟩ = some z := ⟨h.cell 0, h.cell 1, h.cell 2⟩
def MvOk (n : Int) (m : T3) : Prop := (0 ≤ m.a ∧ m.a < n) ∧ (-1 ≤ m.b ∧ m.b ≤ n) ∧ -1 ≤ m.c ∧ m.c ≤ 201
end Go.Proofs.YtaajkmjilcamgaaGreatDoor
namespace Go.Proofs.YtaajkmjilcamgaaGreatDoor
open Go.RowKit
theorem ring_mod {a q n : Int} (ha : 0 ≤ a) (han : a < n) (hq : 1 ≤ q) (hqn : q < n) : (a + q).tmod n = if a + q < n then a + q else a + q - n := by
  rw [Int.tmod_eq_emod_of_nonneg (by omega)]
  split
  · rename_i h; exact Int.emod_eq_of_lt (by omega) h
  · rename_i h
    rw [show a + q = (a + q - n) + n by omega, Int.add_emod_right, Int.emod_eq_of_lt (by omega) (by omega)]; omega
theorem Tube_inf : (Tryz.prog.info? 41).map (fun i => (i.zero, i.size, i.bytes)) = some (some (.agg #[.int .i64 0, .int .i64 0, .int .i64 0]), 3, 24) := by kernel_rfl
set_option maxRecDepth 100000 in
set_option maxHeartbeats 4000000 in
theorem newTube_any (b : Nat) (bs : List Int) (N n : Int) (w : World) (hbs : BsOk bs) (hN : N ≤ 1099510000000) (hn : 2 ≤ n) (hn2 : n ≤ 10) (h : SrcAt b bs N w) :
    Calls Tryz.prog 69 #[.pointer (some ⟨b, 0, none⟩), .int .i64 n] w fun e w' => ∃ t : T3, e = .returned (.agg #[.int .i64 t.a, .int .i64 t.b, .int .i64 t.c]) ∧ OkTube n t ∧ SrcAt b bs (N + 10) w' ∧ Only b (b + 1) w w' := by
  have hbl := h.lt
  have HP := hide fun M n W (hM : M ≤ 1099511000000) (hW : SrcAt b bs M W) => pick_any b bs M n W hbs hM hW
  have X0 := hide (BoxN.new w #[.int .i64 0, .int .i64 0, .int .i64 0] 41)
  have S0 := hide (h.alloc (.cells #[.int .i64 0, .int .i64 0, .int .i64 0] 41))
  have O0 : Hid (Only b (b + 1) w (w.alloc (.cells #[.int .i64 0, .int .i64 0, .int .i64 0] 41))) := only_of_below ((Below.refl _ _).alloc (Nat.le_refl _) _)
  have z0 : w.heap.size + 1 ≤ (w.alloc (.cells #[.int .i64 0, .int .i64 0, .int .i64 0] 41)).heap.size := by simp
  have C0 := hide (HP.out N n _ (by omega) S0.out)
  clear h
  go_enter Tryz.func69, Tryz.ntmps69
  go_upto_region 2 with (go_at_call 68; (with_reducible refine (C0.out).mono ?_); rintro e w1 ⟨a, rfl, ⟨ha0, ha1', _⟩, hs1, ho1⟩; have ha1 := ha1' (by omega); have X1 := hide (X0.out.only ho1 (.inr (by omega))); have z1 := ho1.size; have O1 := hide (only_trans O0.out ho1); have S1 := hide hs1; clear hs1 ho1 C0 X0 S0 O0 ha1')
  have X2 := hide (X1.out.alloc (.cells #[.int .i64 a, .int .i64 0, .int .i64 0] 41))
  have Y2 := hide (BoxN.new w1 #[.int .i64 a, .int .i64 0, .int .i64 0] 41)
  have S2 := hide (S1.out.alloc (.cells #[.int .i64 a, .int .i64 0, .int .i64 0] 41))
  have O2 := hide (only_alloc O1.out (.cells #[.int .i64 a, .int .i64 0, .int .i64 0] 41))
  have z2 : w1.heap.size + 1 ≤ (w1.alloc (.cells #[.int .i64 a, .int .i64 0, .int .i64 0] 41)).heap.size := by simp
  have zz : w.heap.size < w1.heap.size := by omega
  clear X1 S1 O1
  generalize hgt : w1.heap.size = gt at *
  generalize w1.alloc (.cells #[.int .i64 a, .int .i64 0, .int .i64 0] 41) = w2 at *
  clear hgt
  have e0 : w2.drew.cell? ⟨gt, 0, none⟩ = some (.int .i64 a) := Y2.out.cell 0
  have X3 : Hid (BoxN w2.drew w.heap.size #[.int .i64 0, .int .i64 0, .int .i64 0] 41) := X2.out
  have Y3 : Hid (BoxN w2.drew gt #[.int .i64 a, .int .i64 0, .int .i64 0] 41) := Y2.out
  have S3 : Hid (SrcAt b bs (N + 2) w2.drew) := S2.out.below (B := b + 1) (Below.refl _ _).drew (Nat.lt_succ_self b)
  have O3 : Hid (Only b (b + 1) w w2.drew) := only_trans O2.out (only_of_below (Below.refl _ w2).drew)
  have z3 : gt + 1 ≤ w2.drew.heap.size := z2
  clear X2 Y2 S2 O2 z2
  refine wp_region_held_drew (S := fun W => W.cell? ⟨gt, 0, none⟩ = some (.int .i64 a)) (by kernel_rfl) (e0) (fun hHeld => ?_)
  generalize w2.drew = wd at *
  have HC := hide (HP.out (N + 2) (n - 1) wd (by omega) S3.out)
  have hwa : IntKind.i64.wrap (a + 1) = a + 1 := by rw [IntKind.wrap_i64] <;> omega
  have hwn : IntKind.i64.wrap (n - 1) = n - 1 := by rw [IntKind.wrap_i64] <;> omega
  have hn0 : n ≠ 0 := by omega
  refine wpAnyH_take (i := 0) (v := ?_) rfl (by kernel_rfl) (by kernel_rfl) (by kernel_rfl) (fun _ _ _ h => h) (Or.inl ⟨by rfl, ?_⟩) (by assumption) ?_
  rotate_left 1
  · (intro w hSw; (try dsimp only at hSw); go_simp; try with_reducible rfl)
  try simp only [Act.put, List.getElem_toArray, List.getElem_cons_succ, List.getElem_cons_zero, List.setIfInBounds_toArray, List.set_cons_zero, List.set_cons_succ]
  refine wpAnyH_take (i := 1) (v := ?_) rfl (by kernel_rfl) (by kernel_rfl) (by kernel_rfl) (fun _ _ _ h => h) (Or.inl ⟨by rfl, ?_⟩) (by assumption) ?_
  rotate_left 1
  · (intro w hSw; (try dsimp only at hSw); go_simp; try with_reducible rfl)
  try simp only [Act.put, List.getElem_toArray, List.getElem_cons_succ, List.getElem_cons_zero, List.setIfInBounds_toArray, List.set_cons_zero, List.set_cons_succ]
  refine wpAnyH_take (i := 2) (v := ?_) rfl (by kernel_rfl) (by kernel_rfl) (by kernel_rfl) (fun _ _ _ h => h) (Or.inl ⟨by rfl, ?_⟩) (by assumption) ?_
  rotate_left 1
  · (intro w hSw; (try dsimp only at hSw); go_simp; try with_reducible rfl)
  try simp only [Act.put, List.getElem_toArray, List.getElem_cons_succ, List.getElem_cons_zero, List.setIfInBounds_toArray, List.set_cons_zero, List.set_cons_succ]
  refine wpAnyH_take (i := 3) (v := ?_) rfl (by kernel_rfl) (by kernel_rfl) (by kernel_rfl) (fun _ _ _ h => h) (Or.inl ⟨by rfl, ?_⟩) (by assumption) ?_
  rotate_left 1
  · (intro w hSw; (try dsimp only at hSw); go_simp; try with_reducible rfl)
  try simp only [Act.put, List.getElem_toArray, List.getElem_cons_succ, List.getElem_cons_zero, List.setIfInBounds_toArray, List.set_cons_zero, List.set_cons_succ]
  refine wpAnyH_take (i := 4) (v := ?_) rfl (by kernel_rfl) (by kernel_rfl) (by kernel_rfl) (fun _ _ _ h => h) (Or.inl ⟨by rfl, ?_⟩) (by assumption) ?_
  rotate_left 1
  · (intro w hSw; (try dsimp only at hSw); go_simp; try with_reducible rfl)
  try simp only [Act.put, List.getElem_toArray, List.getElem_cons_succ, List.getElem_cons_zero, List.setIfInBounds_toArray, List.set_cons_zero, List.set_cons_succ]
  refine wpAnyH_take (i := 5) (v := ?_) rfl (by kernel_rfl) (by kernel_rfl) (by kernel_rfl) (fun _ _ _ h => h) (Or.inl ⟨by rfl, ?_⟩) (by assumption) ?_
  rotate_left 1
  · (intro w hSw; (try dsimp only at hSw); go_simp; try with_reducible rfl)
  try simp only [Act.put, List.getElem_toArray, List.getElem_cons_succ, List.getElem_cons_zero, List.setIfInBounds_toArray, List.set_cons_zero, List.set_cons_succ]
  refine wpAnyH_take (i := 8) (v := ?_) rfl (by kernel_rfl) (by kernel_rfl) (by kernel_rfl) (fun _ _ _ h => h) (Or.inl ⟨by rfl, ?_⟩) (by assumption) ?_
  rotate_left 1
  · (intro w hSw; (try dsimp only at hSw); go_simp; try with_reducible rfl)
  try simp only [Act.put, List.getElem_toArray, List.getElem_cons_succ, List.getElem_cons_zero, List.setIfInBounds_toArray, List.set_cons_zero, List.set_cons_succ]
  refine wpAnyH_ready (rs := [6]) (by kernel_rfl) (by simp) ?_
  refine AllReadyH.cons rfl (fun K hK => ?_) AllReadyH.nil
  try simp only [Act.put, List.getElem_toArray, List.getElem_cons_succ, List.getElem_cons_zero, List.setIfInBounds_toArray, List.set_cons_zero, List.set_cons_succ]
  go_simp
  go_at_call 68
  refine (HC.out).mono ?_
  rintro e w4 ⟨q, rfl, ⟨hq0, hq1', _⟩, hs4, ho4⟩
  have hq1 := hq1' (by omega)
  have X4 := hide (X3.out.only ho4 (.inr (by omega)))
  have Y4 := hide (Y3.out.only ho4 (.inr (by omega)))
  have g0 : w4.cell? ⟨gt, 0, none⟩ = some (.int .i64 a) := Y4.out.cell 0
  have g1 : w4.cell? ⟨gt, 1, none⟩ = some (.int .i64 0) := Y4.out.cell 1
  have gf := Y4.out.fro 1
  have z4 := ho4.size
  have O4 := hide (only_trans O3.out ho4)
  have hring := ring_mod (a := a) (q := 1 + q) (n := n) ha0 (by omega) (by omega) (by omega)
  rw [show a + (1 + q) = a + 1 + q by omega] at hring
  have hwq : IntKind.i64.wrap (a + 1 + q) = a + 1 + q := by rw [IntKind.wrap_i64] <;> omega
  obtain ⟨v, hv⟩ : ∃ v, (a + 1 + q).tmod n = v := ⟨_, rfl⟩
  rw [hv] at hring
  have hv0 : 0 ≤ v ∧ v ≤ n - 1 ∧ v ≠ a := by split at hring <;> omega
  have hwv : IntKind.i64.wrap v = v := by rw [IntKind.wrap_i64] <;> omega
  have HV0 := hide hv0
  have HRG := hide hring
  clear hring hv0
  dsimp only
  refine hK.out _ _ (g0) (fun hHeld => ?_)
  clear hK K
  try simp only [Act.put, List.getElem_toArray, List.getElem_cons_succ, List.getElem_cons_zero, List.setIfInBounds_toArray, List.set_cons_zero, List.set_cons_succ]
  refine wpAnyH_take (i := 7) (v := ?_) rfl (by kernel_rfl) (by kernel_rfl) (by kernel_rfl) (fun _ _ _ h => h) (Or.inl ⟨by rfl, ?_⟩) (by assumption) ?_
  rotate_left 1
  · (intro w hSw; (try dsimp only at hSw); go_simp; try with_reducible rfl)
  try simp only [Act.put, List.getElem_toArray, List.getElem_cons_succ, List.getElem_cons_zero, List.setIfInBounds_toArray, List.set_cons_zero, List.set_cons_succ]
  refine wpAnyH_take (i := 9) (v := ?_) rfl (by kernel_rfl) (by kernel_rfl) (by kernel_rfl) (fun _ _ _ h => h) (Or.inl ⟨by rfl, ?_⟩) (by assumption) ?_
  rotate_left 1
  · (intro w hSw; (try dsimp only at hSw); go_simp; try with_reducible rfl)
  try simp only [Act.put, List.getElem_toArray, List.getElem_cons_succ, List.getElem_cons_zero, List.setIfInBounds_toArray, List.set_cons_zero, List.set_cons_succ]
  refine wpAnyH_take (i := 10) (v := ?_) rfl (by kernel_rfl) (by kernel_rfl) (by kernel_rfl) (fun _ _ _ h => h) (Or.inl ⟨by rfl, ?_⟩) (by assumption) ?_
  rotate_left 1
  · (intro w hSw; (try dsimp only at hSw); go_simp; try with_reducible rfl)
  try simp only [Act.put, List.getElem_toArray, List.getElem_cons_succ, List.getElem_cons_zero, List.setIfInBounds_toArray, List.set_cons_zero, List.set_cons_succ]
  refine wpAnyH_ready (rs := [11]) (by kernel_rfl) (by simp) ?_
  refine AllReadyH.cons rfl (fun K hK => ?_) AllReadyH.nil
  try simp only [Act.put, List.getElem_toArray, List.getElem_cons_succ, List.getElem_cons_zero, List.setIfInBounds_toArray, List.set_cons_zero, List.set_cons_succ]
  go_simp
  have Y5 := hide (Y4.out.set 1 (.int .i64 v))
  have X5 := hide (X4.out.other (b' := gt) (by omega) 1 (.int .i64 v))
  have S5 := hide (hs4.set ⟨gt, 1, none⟩ (.int .i64 v) (by dsimp only; omega))
  have O5 := hide (only_setNew O4.out ⟨gt, 1, none⟩ (.int .i64 v) (by dsimp only; omega))
  have g5 : (w4.setCell ⟨gt, 1, none⟩ (.int .i64 v)).cell? ⟨gt, 0, none⟩ = some (.int .i64 a) := Y5.out.cell 0
  have z5 : gt + 1 ≤ (w4.setCell ⟨gt, 1, none⟩ (.int .i64 v)).heap.size := by simp [World.setCell]; omega
  refine hK.out _ _ (g5) (fun hHeld => ?_)
  clear hK K
  try simp only [Act.put, List.getElem_toArray, List.getElem_cons_succ, List.getElem_cons_zero, List.setIfInBounds_toArray, List.set_cons_zero, List.set_cons_succ]
  refine wpAnyH_done (by kernel_rfl) ?_ _
  clear g0 g1 gf g5 X4 Y4 O4 hs4 ho4 hwa hwn hwq hwv
  generalize w4.setCell ⟨gt, 1, none⟩ (.int .i64 v) = w5 at *
  have HC5 := hide (HP.out (N + 2 + 2) 20 w5 (by omega) S5.out)
  go_upto_region 4 with (go_at_call 68; (with_reducible refine (HC5.out).mono ?_); rintro e w6 ⟨u, rfl, ⟨hu0, hu1', _⟩, hs6, ho6⟩; have hu1 := hu1' (by omega); have X6 := hide (X5.out.only ho6 (.inr (by omega))); have Y6 := hide (Y5.out.only ho6 (.inr (by omega))); have y6 : w6.cell? ⟨gt, 2, none⟩ = some (.int .i64 0) := Y6.out.cell 2; have f6 := Y6.out.fro 2; have O6 := hide (only_trans O5.out ho6); have S6 := hide hs6; clear hs6 ho6 hu1')
  have Y7 : Hid (BoxN (w6.setCell ⟨gt, 2, none⟩ (.int .i64 (10 * (1 + u)))) gt #[.int .i64 a, .int .i64 v, .int .i64 (10 * (1 + u))] 41) := Y6.out.set 2 (.int .i64 (10 * (1 + u)))
  have X7 := hide (X6.out.other (b' := gt) (by omega) 2 (.int .i64 (10 * (1 + u))))
  have S7 := hide (S6.out.set ⟨gt, 2, none⟩ (.int .i64 (10 * (1 + u))) (by dsimp only; omega))
  have O7 := hide (only_setNew O6.out ⟨gt, 2, none⟩ (.int .i64 (10 * (1 + u))) (by dsimp only; omega))
  clear X5 Y5 S5 O5 X6 Y6 y6 f6 S6 O6 HC5
  generalize w6.setCell ⟨gt, 2, none⟩ (.int .i64 (10 * (1 + u))) = w9 at *
  have l0 : w9.cell? ⟨gt, 0, none⟩ = some (.int .i64 a) := Y7.out.cell 0
  have l1 : w9.cell? ⟨gt, 1, none⟩ = some (.int .i64 v) := Y7.out.cell 1
  have l2 : w9.cell? ⟨gt, 2, none⟩ = some (.int .i64 (10 * (1 + u))) := Y7.out.cell 2
  have T0 := hide (X7.out.set 0 (.int .i64 a))
  have T1 := hide (T0.out.set 1 (.int .i64 v))
  have T2 := hide (T1.out.set 2 (.int .i64 (10 * (1 + u))))
  have m0 : w9.cell? ⟨w.heap.size, 0, none⟩ = some (.int .i64 0) := X7.out.cell 0
  have n0 := X7.out.fro 0
  have m1 : (w9.setCell ⟨w.heap.size, 0, none⟩ (.int .i64 a)).cell? ⟨w.heap.size, 1, none⟩ = some (.int .i64 0) := T0.out.cell 1
  have n1 := T0.out.fro 1
  have m2 : ((w9.setCell ⟨w.heap.size, 0, none⟩ (.int .i64 a)).setCell ⟨w.heap.size, 1, none⟩ (.int .i64 v)).cell? ⟨w.heap.size, 2, none⟩ = some (.int .i64 0) := T1.out.cell 2
  have n2 := T1.out.fro 2
  go_wp2_with fail
  have q0 : (((w9.setCell ⟨w.heap.size, 0, none⟩ (.int .i64 a)).setCell ⟨w.heap.size, 1, none⟩ (.int .i64 v)).setCell ⟨w.heap.size, 2, none⟩ (.int .i64 (10 * (1 + u)))).cell? ⟨w.heap.size, 0, none⟩ = some (.int .i64 a) := T2.out.cell 0
  have q1 : (((w9.setCell ⟨w.heap.size, 0, none⟩ (.int .i64 a)).setCell ⟨w.heap.size, 1, none⟩ (.int .i64 v)).setCell ⟨w.heap.size, 2, none⟩ (.int .i64 (10 * (1 + u)))).cell? ⟨w.heap.size, 1, none⟩ = some (.int .i64 v) := T2.out.cell 1
  have q2 : (((w9.setCell ⟨w.heap.size, 0, none⟩ (.int .i64 a)).setCell ⟨w.heap.size, 1, none⟩ (.int .i64 v)).setCell ⟨w.heap.size, 2, none⟩ (.int .i64 (10 * (1 + u)))).cell? ⟨w.heap.size, 2, none⟩ = some (.int .i64 (10 * (1 + u))) := T2.out.cell 2
  obtain ⟨hv0, hv1, hv2⟩ := HV0.out
  refine bodyPost_ret (v := .agg #[.int .i64 a, .int .i64 v, .int .i64 (10 * (1 + u))]) (by simp [results, Tryz.results69, go_sem, q0, q1, q2]) rfl ⟨⟨a, v, 10 * (1 + u)⟩, rfl, ⟨⟨ha0, by dsimp only; omega⟩, ⟨hv0, hv1⟩, (fun h => hv2 h.symm), by dsimp only; omega, by dsimp only; omega⟩, ?_, ?_⟩
  · exact (((S7.out.set ⟨w.heap.size, 0, none⟩ (.int .i64 a) hbl).set ⟨w.heap.size, 1, none⟩ (.int .i64 v) hbl).set ⟨w.heap.size, 2, none⟩ (.int .i64 (10 * (1 + u))) hbl).more (by omega)
  · exact only_setNew (only_setNew (only_setNew O7.out ⟨w.heap.size, 0, none⟩ (.int .i64 a) (Nat.le_refl _)) ⟨w.heap.size, 1, none⟩ (.int .i64 v) (Nat.le_refl _)) ⟨w.heap.size, 2, none⟩ (.int .i64 (10 * (1 + u))) (Nat.le_refl _)
end Go.Proofs.YtaajkmjilcamgaaGreatDoor
