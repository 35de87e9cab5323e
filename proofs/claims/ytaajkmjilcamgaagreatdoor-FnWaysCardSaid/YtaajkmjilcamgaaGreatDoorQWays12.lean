/-
  A network read back from its text, in the program.
  Settings and ways in the program: valid settings, simple ways, codes, turned switches.
  Stocks: the contracts of the reference and of the program in the laws' words.
  Moves of carriers: which moves are valid; one carrier's way is sent; in the program and in the reference.
  Settings and ways in the program: simple ways, codes, a way's setting.
-/
import Derived.Test.YtaajkmjilcamgaaGreatDoorQWays11
import Derived.Test.YtaajkmjilcamgaaGreatDoorQWays5
import Derived.Test.YtaajkmjilcamgaaGreatDoorQWays6
import Derived.Test.YtaajkmjilcamgaaGreatDoorQWays2
import Derived.Deep.DeepCutAuto
import Derived.Deep.RegionHeld3
import Derived.Test.YtaajkmjilcamgaaGreatDoorQWays1
import Derived.Test.YtaajkmjilcamgaaGreatDoorQWays4
import Derived.Test.YtaajkmjilcamgaaGreatDoorQWays3
namespace Go.Proofs.YtaajkmjilcamgaaGreatDoor
open Go.RowKit
theorem trimW_any (a p : ByteArray) (W : World) (h : a.size ≤ 1000000) : Calls Tryz.prog 41 #[.string a, .string p] W fun e w' => e = .returned (.string ⟨(Lib.trimSuffix a.data.toList p.data.toList).toArray⟩) ∧ w' = W :=
  Go.Proofs.Any.strings_TrimSuffix { YtaajkmjilcamgaaGreatDoor.trimSLay with } a p W (by omega)
theorem cutW_any (a p : ByteArray) (W : World) (h : a.size ≤ 1000000) (ht : TxtW W) : Calls Tryz.prog 42 #[.string a, .string p] W fun e w' => e = .returned (.tuple #[.string ⟨(Lib.cut a.data.toList p.data.toList).1.toArray⟩, .string ⟨(Lib.cut a.data.toList p.data.toList).2.1.toArray⟩, .bool (Lib.cut a.data.toList p.data.toList).2.2]) ∧ ∃ n, w' = W.drewN n := by
  obtain ⟨m, hm⟩ := ht.maxl
  exact Go.Proofs.Any.strings_Cut { YtaajkmjilcamgaaGreatDoor.cutLay with } a p m W (by omega) hm
/-- What is behind the first number of a tube's word. -/
def restB (t : T3) : ByteArray := ⟨(Lib.itoa t.b ++ 42 :: Lib.itoa t.c).toArray⟩
theorem cut1_any (t : T3) (W : World) (h : (tubeB t).size ≤ 1000) (ht : TxtW W) : Calls Tryz.prog 42 #[.string (tubeB t), .string ⟨#[62]⟩] W fun e w' => e = .returned (.tuple #[.string (decB t.a), .string (restB t), .bool true]) ∧ Below W.heap.size W w' := by
  have hc := cutW_any (tubeB t) ⟨#[62]⟩ W (by omega) ht
  rw [show (tubeB t).data.toList = tubeL t from rfl, show ((⟨#[62]⟩ : ByteArray).data.toList) = [62] from rfl, tube_cut1] at hc
  exact hc.mono fun e w' ⟨he, m, hm⟩ => ⟨he, hm ▸ bdn (Below.refl _ _) m⟩
theorem cut2_any (t : T3) (W : World) (h : (restB t).size ≤ 1000) (ht : TxtW W) : Calls Tryz.prog 42 #[.string (restB t), .string ⟨#[42]⟩] W fun e w' => e = .returned (.tuple #[.string (decB t.b), .string (decB t.c), .bool true]) ∧ Below W.heap.size W w' := by
  have hc := cutW_any (restB t) ⟨#[42]⟩ W (by omega) ht
  rw [show (restB t).data.toList = Lib.itoa t.b ++ 42 :: Lib.itoa t.c from rfl, show ((⟨#[42]⟩ : ByteArray).data.toList) = [42] from rfl, tube_cut2] at hc
  exact hc.mono fun e w' ⟨he, m, hm⟩ => ⟨he, hm ▸ bdn (Below.refl _ _) m⟩
theorem readD_any (z : Int) (W : World) (h : 0 ≤ z ∧ z ≤ 10000) (ht : TxtW W) : Calls Tryz.prog 40 #[.string (decB z)] W fun e w' => e = .returned (.tuple #[.int .i64 z, .bool true]) ∧ Below W.heap.size W w' := by
  have hn : numB (decB z) = some z := numOf_itoa (by omega)
  have hs := decS h
  have hc := readDec_any (decB z) W (by omega) ht
  rw [hn] at hc
  exact hc
theorem mk_size (l : List UInt8) : (⟨l.toArray⟩ : ByteArray).size = l.length := by simp [ByteArray.size]
theorem splitW_any (n : Int) (tb : List T3) (W : World) (hl : tb.length ≤ 24) (hs : (netB n tb).size ≤ 2000) (ht : TxtW W) : Calls Tryz.prog 39 #[.string (netB n tb), .string ⟨#[32]⟩, .int .i64 26] W fun e w' => ∃ N : Nat, e = .returned (.slice (some ⟨W.heap.size, 0, none⟩) (tb.length + 1) N) ∧ (2 ≤ N ∧ tb.length + 1 ≤ N ∧ N ≤ 26) ∧ w' = W.alloc (.cells (Lib.cellsOf (netWB n tb) N) 9) := by
  obtain ⟨m, hm⟩ := ht.maxl
  have hc := Go.Proofs.Any.strings_SplitN { YtaajkmjilcamgaaGreatDoor.splitNLay with } YtaajkmjilcamgaaGreatDoor.splitNLay.i9 (netB n tb) ⟨#[32]⟩ 26 m W (by omega) hm (Nat.le_refl 1) (by decide) (by decide)
  have hlen := Lib.splitB_length_le ⟨#[32]⟩ 0 (min 26 ((netB n tb).size + 1) - 1) (netB n tb)
  rw [net_words hl] at hc hlen
  have hwl : (headB n :: tb.map tubeB).length = tb.length + 1 := by rw [List.length_cons, List.length_map]
  rw [hwl] at hc hlen
  have h2 : 2 ≤ (netB n tb).size := by
    have e : (netB n tb).size = (netL n tb).length := mk_size _
    rw [e]
    unfold netL
    rw [Lib.join_cons, List.length_append]
    have : 2 ≤ (headL n).length := by
      unfold headL
      rw [List.length_append]
      have := itoa_ne n
      have h3 : 1 ≤ (Lib.itoa n).length := by
        cases hh : Lib.itoa n with
        | nil => exact absurd hh this
        | cons a b => simp
      show 2 ≤ _ + 1
      omega
    omega
  exact hc.mono fun e w' ⟨he, hw⟩ => ⟨min 26 ((netB n tb).size + 1), he, ⟨by omega, by omega, by omega⟩, hw⟩
theorem words_at {n : Int} {tb : List T3} {N : Nat} {k : Nat} {x : ByteArray} (h : (netWB n tb)[k]? = some x) : (Lib.cellsOf (netWB n tb) N).toList[k]? = some (.string x) := by
  unfold Lib.cellsOf
  have hk : k < (netWB n tb).length := (List.getElem?_eq_some_iff.1 h).1
  rw [List.getElem?_append_left (by rw [List.length_map]; exact hk), List.getElem?_map, h]
  rfl
set_option maxRecDepth 100000 in
set_option maxHeartbeats 8000000 in
theorem readNet_any (n : Nat) (tb : List T3) (w : World) (h : OkNet n tb) (htw : TxtW w) :
    Calls Tryz.prog 10 #[.string (netB n tb)] w fun e w' => ∃ (A' : Option Addr) (c' : Nat), e = .returned (.tuple #[.agg #[.int .i64 n, .slice A' tb.length c'], .bool true]) ∧ Rd3 w' w'.heap.size A' tb ∧ Below w.heap.size w w' := by
  obtain ⟨i0, hi0, hz0, hs0, hb0⟩ := info_parts Tube_inf
  have hl24 := h.2.1
  have hn10 := h.1.2
  have hsz : (netB n tb).size ≤ 2000 := by rw [show (netB n tb).size = (netL n tb).length from mk_size _]; exact netL_len h
  have X0 := hide (BoxN.new w #[.int .i64 0, .slice none 0 0] 26)
  have B0 := hide (show Below w.heap.size w (w.alloc (.cells #[.int .i64 0, .slice none 0 0] 26)) from (Below.refl _ _).alloc (Nat.le_refl _) _)
  have FT := hide fun W (hW : Below w.heap.size w W) => htw.below hW
  have HSP := hide fun W (hW : Below w.heap.size w W) => splitW_any n tb W hl24 hsz (htw.below hW)
  have HTR := hide fun W => (show Calls Tryz.prog 41 #[.string (headB n), .string ⟨#[58]⟩] W fun e w' => e = .returned (.string (decB n)) ∧ w' = W from by
    have hh : (headB n).size ≤ 1000 := by
      rw [show (headB n).size = (headL n).length from mk_size _]
      have := itoa_len (n := n) (by omega)
      unfold headL
      rw [List.length_append]
      show _ + 1 ≤ _
      omega
    have hc := trimW_any (headB n) ⟨#[58]⟩ W (by omega)
    rw [show (headB n).data.toList = headL n from rfl, show ((⟨#[58]⟩ : ByteArray).data.toList) = [58] from rfl, head_trim] at hc
    exact hc)
  have HRN := hide fun W (hW : Below w.heap.size w W) => readD_any (n : Int) W ⟨by omega, by omega⟩ (htw.below hW)
  have HTD := hide fun t (ht : t ∈ tb) => h.2.2 t ht
  have HNT := hide fun A c W hr (hW : Below w.heap.size w W) => netText_any n tb A c W h hr (htw.below hW).tab
  have HW0 := hide (show (netWB n tb)[0]? = some (headB n) from rfl)
  have HWK := hide fun (k : Nat) (t : T3) (hk : tb[k]? = some t) => (show (netWB n tb)[1 + k]? = some (tubeB t) by
    unfold netWB
    rw [Nat.add_comm, List.getElem?_cons_succ, List.getElem?_map, hk]; rfl)
  have HWA := hide fun N (k : Nat) (x : ByteArray) (hx : (netWB n tb)[k]? = some x) => words_at (N := N) hx
  generalize netWB (n : Int) tb = ws at *
  generalize decB (n : Int) = hb at *
  generalize netB n tb = nx at *
  generalize headB (n : Int) = hd at *
  clear h htw hsz
  go_enter Tryz.func10, Tryz.ntmps10
  go_upto_region 1 with fail
  generalize w.alloc (.cells #[.int .i64 0, .slice none 0 0] 26) = w1 at *
  go_upto_region 2 with (go_at_call 39; (with_reducible refine (HSP.out _ B0.out).mono ?_); rintro e w2 ⟨N, rfl, ⟨hN2, hN1, hN26⟩, hw2⟩; replace hw2 := hide hw2)
  have CW : Hid (BoxN w2 w1.heap.size (Lib.cellsOf ws N) 9) := hide (by rw [hw2.out]; exact BoxN.new _ _ _)
  have X2 : Hid (BoxN w2 w.heap.size #[.int .i64 0, .slice none 0 0] 26) := hide (by rw [hw2.out]; exact X0.out.alloc _)
  have B2 : Hid (Below w.heap.size w w2) := hide (by rw [hw2.out]; exact B0.out.alloc B0.out.size _)
  have hg0 := X0.out.lt
  generalize w1.heap.size = gw at *
  clear hw2 X0 B0 HSP
  have cc0 : w2.cell? ⟨gw, 0, none⟩ = some (.string hd) := (CW.out.cell 0).trans (HWA.out N 0 hd HW0.out)
  have hNi : ¬ N = 1 := by omega
  go_upto_region 3 with (first | (go_at_call 41; (with_reducible refine (HTR.out _).mono ?_); rintro e w3 ⟨rfl, rfl⟩) | (go_at_call 40; (with_reducible refine (HRN.out _ B2.out).mono ?_); rintro e w4 ⟨rfl, b4⟩))
  have C4 := hide (CW.out.below b4 CW.out.lt)
  have X4 := hide (X2.out.below b4 X2.out.lt)
  have B4 := hide (B2.out.trans (b4.mono B2.out.size))
  have hgw := C4.out.lt
  have hg4 := X4.out.lt
  clear cc0 b4 CW X2 B2 HTR HRN HW0
  have X5 := hide (BoxN.new w4 #[.int .i64 n, .slice none 0 0] 26)
  have B5 := hide (show Below w4.heap.size w4 (w4.alloc (.cells #[.int .i64 n, .slice none 0 0] 26)) from (Below.refl _ _).alloc (Nat.le_refl _) _)
  go_upto_region 5 with fail
  go_loopg [6, 37] tb.length (fun g ov iv wr => ∃ (k : Nat) (tv : Value), ov = .bool true ∧ k ≤ tb.length ∧ Hid (g = tb.length - k) ∧ iv = .int .i64 k ∧ Hid (BoxN wr w4.heap.size #[.int .i64 n, tv] 26) ∧ Hid (wr.ownsRow (w4.heap.size + 1) 41 3 tv k ((tb.take k).flatMap T3.cells)) ∧ Hid (Below w4.heap.size w4 wr))
  case atStart => exact ⟨0, .slice none 0 0, rfl, by omega, by simp [Hid], rfl, X5, hide ⟨rfl, .inl ⟨rfl, rfl⟩⟩, B5⟩
  case round =>
    obtain ⟨k, tv, rfl, hk, hg, rfl, HX, HO, HB⟩ := hrel
    clear X5 B5
    have zr := HB.out.size
    obtain ⟨A5, c5, rfl, _⟩ := own_shape HO.out
    have xlt := HX.out.lt
    by_cases hkt : k < tb.length
    case neg =>
      obtain rfl : k = tb.length := by omega
      have ho := HO.out
      rw [List.take_length] at ho
      have HRD := hide (show Rd3 wr wr.heap.size A5 tb from Rd.of_own ho)
      have HBW := hide (B4.out.trans (HB.out.mono B4.out.size))
      have HNT2 := hide (HNT.out A5 c5 wr HRD.out HBW.out)
      have k0 : wr.cell? ⟨w4.heap.size, 0, none⟩ = some (.int .i64 n) := HX.out.cell 0
      have k1 : wr.cell? ⟨w4.heap.size, 1, none⟩ = some (.slice A5 tb.length c5) := HX.out.cell 1
      have hnx : (nx.toList == nx.toList) = true := beq_self_eq_true _
      have XR := hide (X4.out.below HB.out X4.out.lt)
      have xrl := XR.out.lt
      have HOW := hide ho
      clear ho HO HNT
      go_wp2_with (go_at_call 11; (with_reducible refine (HNT2.out).mono ?_); rintro e wZ ⟨rfl, b9⟩; have X9 := hide (HX.out.below b9 xlt); have l0 : wZ.cell? ⟨w4.heap.size, 0, none⟩ = some (.int .i64 n) := X9.out.cell 0; have l1 : wZ.cell? ⟨w4.heap.size, 1, none⟩ = some (.slice A5 tb.length c5) := X9.out.cell 1; have Y8 := hide (XR.out.below b9 xrl); have T1 := hide (Y8.out.set 0 (.int .i64 n)); have T2 := hide (T1.out.set 1 (.slice A5 tb.length c5)); have m0 : wZ.cell? ⟨w.heap.size, 0, none⟩ = some (.int .i64 0) := Y8.out.cell 0; have n0 := Y8.out.fro 0; have m1 : (wZ.setCell ⟨w.heap.size, 0, none⟩ (.int .i64 n)).cell? ⟨w.heap.size, 1, none⟩ = some (.slice none 0 0) := T1.out.cell 1; have n1 := T1.out.fro 1)
      have q0 : ((wZ.setCell ⟨w.heap.size, 0, none⟩ (.int .i64 n)).setCell ⟨w.heap.size, 1, none⟩ (.slice A5 tb.length c5)).cell? ⟨w.heap.size, 0, none⟩ = some (.int .i64 n) := T2.out.cell 0
      have q1 : ((wZ.setCell ⟨w.heap.size, 0, none⟩ (.int .i64 n)).setCell ⟨w.heap.size, 1, none⟩ (.slice A5 tb.length c5)).cell? ⟨w.heap.size, 1, none⟩ = some (.slice A5 tb.length c5) := T2.out.cell 1
      refine bodyPost_ret (v := .tuple #[.agg #[.int .i64 n, .slice A5 tb.length c5], .bool true]) (by simp [results, Tryz.results10, go_sem, q0, q1]) rfl ⟨A5, c5, rfl, ?_, ?_⟩
      · have h1 := own_below HOW.out b9 (Nat.le_refl _)
        have hne : (Value.slice A5 tb.length c5).ownBlock = none ∨ (Value.slice A5 tb.length c5).ownBlock ≠ some w.heap.size := .inr (fun e => by have := (HOW.out.lt _ e).1; omega)
        exact Rd.of_own ((h1.kept (grown_setCell wZ ⟨w.heap.size, 0, none⟩ (.int .i64 n)) hne).kept (grown_setCell _ ⟨w.heap.size, 1, none⟩ (.slice A5 tb.length c5)) hne)
      · exact ((HBW.out.trans (b9.mono HBW.out.size)).setCell (p := ⟨w.heap.size, 0, none⟩) (Nat.le_refl _) _).setCell (p := ⟨w.heap.size, 1, none⟩) (Nat.le_refl _) _
    obtain ⟨t, htj⟩ : ∃ t, tb[k]? = some t := ⟨_, List.getElem?_eq_getElem hkt⟩
    obtain ⟨q1, q2, _, q3⟩ := HTD.out t (List.mem_of_getElem? htj)
    have HBW := hide (B4.out.trans (HB.out.mono B4.out.size))
    have ck : wr.cell? ⟨gw, 1 + k, none⟩ = some (.string (tubeB t)) := ((C4.out.below HB.out C4.out.lt).cell (1 + k)).trans (HWA.out N (1 + k) _ (HWK.out k t htj))
    have hts : (tubeB t).size ≤ 1000 := by
      rw [show (tubeB t).size = (tubeL t).length from mk_size _]
      have := tubeL_len (n := n) (t := t) ⟨by omega, by omega, by omega⟩
      omega
    have hrs : (restB t).size ≤ 1000 := by
      rw [show (restB t).size = _ from mk_size _]
      have h1 := itoa_len (n := t.b) (by omega)
      have h2 := itoa_len (n := t.c) (by omega)
      simp only [List.length_append, List.length_cons]
      omega
    have HC1 := hide fun W (hW : Below w.heap.size w W) => cut1_any t W hts (FT.out W hW)
    have HC2 := hide fun W (hW : Below w.heap.size w W) => cut2_any t W hrs (FT.out W hW)
    have HRa := hide fun W (hW : Below w.heap.size w W) => readD_any t.a W ⟨by omega, by omega⟩ (FT.out W hW)
    have HRb := hide fun W (hW : Below w.heap.size w W) => readD_any t.b W ⟨by omega, by omega⟩ (FT.out W hW)
    have HRc := hide fun W (hW : Below w.heap.size w W) => readD_any t.c W ⟨by omega, by omega⟩ (FT.out W hW)
    have HTK := hide (show (tb.take (k + 1)).flatMap T3.cells = (tb.take k).flatMap T3.cells ++ [.int .i64 t.a, .int .i64 t.b, .int .i64 t.c] by rw [List.take_add_one, htj, List.flatMap_append]; rfl)
    obtain ⟨ta, tt, tc⟩ := t
    dsimp only at HC1 HC2 HRa HRb HRc HTK q1 q2 q3
    have hki : (k : Int) < (tb.length : Int) := by omega
    generalize tubeB ⟨ta, tt, tc⟩ = TX at *
    generalize restB ⟨ta, tt, tc⟩ = RX at *
    generalize decB ta = SA at *
    generalize decB tt = SB at *
    generalize decB tc = SC at *
    clear htj q1 q2 q3 hts hrs
    go_upto_region 8 with (go_at_call 42; (with_reducible refine (HC1.out _ HBW.out).mono ?_); rintro e w5 ⟨rfl, b5⟩)
    have Z5 := hide (show Below wr.heap.size wr w5 from b5)
    have H5 := hide (HBW.out.trans (Z5.out.mono HBW.out.size))
    clear ck b5
    go_upto_region 9 with (go_at_call 42; (with_reducible refine (HC2.out _ H5.out).mono ?_); rintro e w6 ⟨rfl, b6⟩)
    have Z6 := hide (Z5.out.trans (b6.mono Z5.out.size))
    have H6 := hide (HBW.out.trans (Z6.out.mono HBW.out.size))
    clear b6 Z5 H5
    go_upto_region 10 with (go_at_call 40; (with_reducible refine (HRa.out _ H6.out).mono ?_); rintro e w7 ⟨rfl, b7⟩)
    have Z7 := hide (Z6.out.trans (b7.mono Z6.out.size))
    have H7 := hide (HBW.out.trans (Z7.out.mono HBW.out.size))
    clear b7 Z6 H6
    go_upto_region 11 with (go_at_call 40; (with_reducible refine (HRb.out _ H7.out).mono ?_); rintro e w8 ⟨rfl, b8⟩)
    have Z8 := hide (Z7.out.trans (b8.mono Z7.out.size))
    have H8 := hide (HBW.out.trans (Z8.out.mono HBW.out.size))
    clear b8 Z7 H7
    go_upto_region 12 with (go_at_call 40; (with_reducible refine (HRc.out _ H8.out).mono ?_); rintro e w9 ⟨rfl, b9⟩)
    have Z9 := hide (Z8.out.trans (b9.mono Z8.out.size))
    clear b9 Z8 H8 HC1 HC2 HRa HRb HRc
    have X9 := hide (HX.out.below Z9.out xlt)
    have O9 := hide (own_below HO.out Z9.out (Nat.le_refl _))
    have B9 := hide (HB.out.trans (Z9.out.mono HB.out.size))
    have k1 : w9.cell? ⟨w4.heap.size, 1, none⟩ = some (.slice A5 k c5) := X9.out.cell 1
    have x9l := X9.out.lt
    clear HX HO HB Z9 HBW
    generalize Value.slice A5 k c5 = sv at *
    go_wp2_with (at_builtin; refine Hid.out ?_)
    refine hide ?_
    have hoF := O9.out.alloc (.cells #[.int .i64 ta, .int .i64 tt, .int .i64 tc] 41)
    refine wp_app _ rfl _ _ 24 rfl (w4.heap.size + 1) 41 i0 (.agg #[.int .i64 0, .int .i64 0, .int .i64 0]) 3 24 Tryz.underlying24 hi0 hz0 hs0 hb0 rfl (by decide) sv k ((tb.take k).flatMap T3.cells) rfl hoF _ _ 1 1 [.int .i64 ta, .int .i64 tt, .int .i64 tc] rfl rfl (rd_new _ _ _ _ ?c1) (by intro q hq; simp at hq; rcases hq with rfl | rfl | rfl <;> rfl) ?c2 (by decide) ?c3 ?_
    case c1 => simp
    case c2 => omega
    case c3 => simp; omega
    intro v9 w10 hown9 hgrow9 hat9
    obtain ⟨A9, c9, rfl, _⟩ := own_shape hown9
    have X10 := hide (show BoxN w10 w4.heap.size #[.int .i64 n, sv] 26 from (hgrow9.block w4.heap.size (by simp; omega) (fun e => by have := (O9.out.lt _ e.symm).1; omega)).trans (X9.out.alloc _))
    have HB10 := hide (app_below (B9.out.alloc B9.out.size _) hoF hgrow9 (by omega) (by simp; omega))
    have m1 : w10.cell? ⟨w4.heap.size, 1, none⟩ = some sv := X10.out.cell 1
    have n1 := X10.out.fro 1
    have hne : (Value.slice A9 (k + 1) c9).ownBlock = none ∨ (Value.slice A9 (k + 1) c9).ownBlock ≠ some w4.heap.size := .inr (fun e => by have := (hown9.lt _ e).1; omega)
    have X11 := hide (show BoxN (w10.setCell ⟨w4.heap.size, 1, none⟩ (.slice A9 (k + 1) c9)) w4.heap.size #[.int .i64 n, .slice A9 (k + 1) c9] 26 from X10.out.set 1 (.slice A9 (k + 1) c9))
    have O11 := hide (show (w10.setCell ⟨w4.heap.size, 1, none⟩ (.slice A9 (k + 1) c9)).ownsRow (w4.heap.size + 1) 41 3 (.slice A9 (k + 1) c9) (k + 1) ((tb.take (k + 1)).flatMap T3.cells) by
      rw [HTK.out]
      exact hown9.kept (grown_setCell w10 ⟨w4.heap.size, 1, none⟩ (.slice A9 (k + 1) c9)) hne)
    have B11 := hide (HB10.out.setCell (p := ⟨w4.heap.size, 1, none⟩) (Nat.le_refl _) (.slice A9 (k + 1) c9))
    clear hown9 hgrow9 hat9 hoF k1 X9 O9 B9 hne
    go_wp2_with fail
    go_roundg (tb.length - (k + 1))
    case measure => have := hg.out; omega
    case rel => exact ⟨k + 1, _, rfl, by omega, rfl, by go_num, X11, O11, B11⟩
end Go.Proofs.YtaajkmjilcamgaaGreatDoor
namespace Go.Proofs.YtaajkmjilcamgaaGreatDoor
open Go.RowKit
theorem okTubes_of {n : Nat} {tb : List T3} (h : OkNet n tb) : OkTubes n tb := fun t ht => by
  obtain ⟨h1, h2, _, h3⟩ := h.2.2 t ht
  exact ⟨by omega, by omega, h3⟩
set_option maxRecDepth 100000 in
set_option maxHeartbeats 4000000 in
theorem areTubes_any (n : Nat) (tb : List T3) (p : List Int) (A : Option Addr) (c : Nat) (w : World) (h : OkNet n tb) (hr : Rd3 w w.heap.size A tb) (Ap : Option Addr) (cp : Nat) (hin : ∀ z ∈ p, 0 ≤ z ∧ z ≤ (tb.length : Int) - 1) (hpl : p.length ≤ 1000) (hp : RdI w w.heap.size Ap p) :
    Calls Tryz.prog 46 #[.agg #[.int .i64 n, .slice A tb.length c], .slice Ap p.length cp] w fun e w' => e = .returned (.bool true) ∧ Below w.heap.size w w' := by
  have hl24 := h.2.1
  have b0 : Below w.heap.size w (w.alloc (.cells #[.int .i64 n, .slice A tb.length c] 26)) := (by repeat (first | exact Below.refl _ _ | assumption | (refine Below.alloc ?_ (by simp <;> omega) _) | refine Below.drew ?_ | refine bdn ?_ _))
  have k0 : (w.alloc (.cells #[.int .i64 n, .slice A tb.length c] 26)).cell? ⟨w.heap.size, 0, none⟩ = some (.int .i64 n) := by simp [go_sem]
  have k1 : (w.alloc (.cells #[.int .i64 n, .slice A tb.length c] 26)).cell? ⟨w.heap.size, 1, none⟩ = some (.slice A tb.length c) := by simp [go_sem]
  have z0 : w.heap.size < (w.alloc (.cells #[.int .i64 n, .slice A tb.length c] 26)).heap.size := by simp
  have Hp := hide fun W (hW : Below w.heap.size w W) => RdI.more (RdI.below hp hW) hW.size
  have HO := hide fun W (hW : Below w.heap.size w W) => outside_any p 0 ((tb.length : Int) - 1) Ap cp W (by omega) (Hp.out W hW)
  have hany : (p.any fun z => !inB 0 ((tb.length : Int) - 1) z) = false := by
    rw [List.any_eq_false]; intro z hz'; rw [inB_t (hin z hz')]; simp
  clear h hr hp hin
  go_enter Tryz.func46, Tryz.ntmps46
  go_upto_region 1 with fail
  generalize (w.alloc (.cells #[.int .i64 n, .slice A tb.length c] 26)) = w0 at *
  go_wp2_with (go_at_call 70; (with_reducible refine (HO.out _ b0).mono ?_); rintro e w2 ⟨rfl, b2⟩; rw [hany])
  go_ret
  exact ⟨rfl, b0.trans (b2.mono b0.size)⟩
set_option maxRecDepth 100000 in
set_option maxHeartbeats 4000000 in
theorem endOf_any (n : Nat) (tb : List T3) (p : List Int) (v u : Int) (A : Option Addr) (c : Nat) (w : World) (h : OkNet n tb) (hr : Rd3 w w.heap.size A tb) (Ap : Option Addr) (cp : Nat) (hw : wk tb (-1) p v u) (hpl : p.length ≤ 1000) (hp : RdI w w.heap.size Ap p) :
    Calls Tryz.prog 47 #[.agg #[.int .i64 n, .slice A tb.length c], .slice Ap p.length cp, .int .i64 v] w fun e w' => e = .returned (.tuple #[.int .i64 u, .bool true]) ∧ Below w.heap.size w w' := by
  have hl24 := h.2.1
  have b0 : Below w.heap.size w (w.alloc (.cells #[.int .i64 n, .slice A tb.length c] 26)) := (by repeat (first | exact Below.refl _ _ | assumption | (refine Below.alloc ?_ (by simp <;> omega) _) | refine Below.drew ?_ | refine bdn ?_ _))
  have k0 : (w.alloc (.cells #[.int .i64 n, .slice A tb.length c] 26)).cell? ⟨w.heap.size, 0, none⟩ = some (.int .i64 n) := by simp [go_sem]
  have k1 : (w.alloc (.cells #[.int .i64 n, .slice A tb.length c] 26)).cell? ⟨w.heap.size, 1, none⟩ = some (.slice A tb.length c) := by simp [go_sem]
  have z0 : w.heap.size < (w.alloc (.cells #[.int .i64 n, .slice A tb.length c] 26)).heap.size := by simp
  have HN := hide fun W (hW : Below w.heap.size w W) => ((hr.below hW).more hW.size)
  have Hp := hide fun W (hW : Below w.heap.size w W) => RdI.more (RdI.below hp hW) hW.size
  clear h hr hp
  go_enter Tryz.func47, Tryz.ntmps47
  go_upto_region 1 with fail
  generalize (w.alloc (.cells #[.int .i64 n, .slice A tb.length c] 26)) = w0 at *
  go_wp2_with fail
  go_loopg [12, 2] p.length (fun g i s wr => ∃ (j : Nat) (x : Int), j ≤ p.length ∧ Hid (g = p.length - j) ∧ i = .int .i64 j ∧ s = .int .i64 x ∧ Hid (wk tb (-1) (p.drop j) x u) ∧ Hid (Below w0.heap.size w0 wr))
  case atStart => exact ⟨0, v, by omega, by simp [Hid], rfl, rfl, hw, Below.refl _ _⟩
  case round =>
    obtain ⟨j, x, hj, hgj, rfl, rfl, HW, HB⟩ := hrel
    have r0 := (HB.out.cell (p := ⟨w.heap.size, 0, none⟩) z0).trans k0
    have r1 := (HB.out.cell (p := ⟨w.heap.size, 1, none⟩) z0).trans k1
    have hbw := b0.trans (HB.out.mono b0.size)
    clear k0 k1
    by_cases hjt : j < p.length
    · obtain ⟨b3, o3, z, rfl, _, hz, hc⟩ := (Hp.out wr hbw).at_ hjt
      have hd := HW.out
      rw [drop_cons hz] at hd
      obtain ⟨hz0, _, t, ht, hta, hw2⟩ := hd
      obtain ⟨zn, rfl⟩ := Int.eq_ofNat_of_zero_le hz0
      rw [Int.toNat_natCast] at ht
      have hzt : zn < tb.length := lt_of_get ht
      obtain ⟨b4, o4, t', rfl, _, ht', c0, c1, c2⟩ := (HN.out wr hbw).at_ hzt
      obtain rfl := Option.some.inj (ht.symm.trans ht')
      have hzi : (zn : Int) < (tb.length : Int) := by omega
      have HW2 := hide hw2
      clear hz hbw ht ht' HW hw2 hw
      rw [hta] at c0
      go_wp2_with fail
      go_roundg (p.length - (j + 1))
      case measure => have := hgj.out; omega
      case rel => exact ⟨j + 1, t.b, by omega, rfl, by go_num, rfl, HW2, HB⟩
    · have hd := HW.out
      rw [List.drop_eq_nil_of_le (by omega)] at hd
      have hd2 : x = u := hd
      subst hd2
      clear hd
      go_wp2_with fail
      go_ret2
      exact ⟨rfl, hbw⟩
end Go.Proofs.YtaajkmjilcamgaaGreatDoor
namespace Go.Proofs.YtaajkmjilcamgaaGreatDoor
open Go.RowKit

end Go.Proofs.YtaajkmjilcamgaaGreatDoor
namespace Go.Proofs.YtaajkmjilcamgaaGreatDoor
open Go.RowKit

def okMove (n : Int) (m : T3) : Bool := inB 0 (n - 1) m.a && (inB 0 (n - 1) m.b && (!decide (m.a = m.b) && inB 1 200 m.c))
theorem okMove_iff {n : Int} {m : T3} : okMove n m = true ↔ (0 ≤ m.a ∧ m.a ≤ n - 1) ∧ (0 ≤ m.b ∧ m.b ≤ n - 1) ∧ m.a ≠ m.b ∧ (1 ≤ m.c ∧ m.c ≤ 200) := by
  simp [okMove, inB]
def vMoves (n : Int) (ms : List T3) : Bool := ms.all (okMove n) && decide (ms.length ≤ 40)

theorem own_pos' {w : World} {base : Nat} {e : TypeId} {size n c : Nat} {A : Option Addr} {xs : List Value} (h : w.ownsRow base e size (.slice A n c) n xs) (hn : 0 < n) : ∃ g, A = some ⟨g, 0, none⟩ ∧ base ≤ g ∧ g < w.heap.size := by
  rcases own_block h with ⟨_, h0, _⟩ | ⟨g, hA, h1, h2⟩
  · omega
  · exact ⟨g, hA, h1, h2⟩
theorem own_int_at {w : World} {base : Nat} {e : TypeId} {n c g : Nat} {zs : List Int} (h : w.ownsRow base e 1 (.slice (some ⟨g, 0, none⟩) n c) n (zs.map (Value.int .i64))) {i : Nat} {z : Int} (hz : zs[i]? = some z) : w.cell? ⟨g, i, none⟩ = some (.int .i64 z) := by
  have hl := h.1
  have hi := lt_of_get hz
  simp only [List.length_map, Nat.mul_one] at hl
  rw [h.cellAt i (by omega), List.getElem?_map, hz]; rfl
theorem own_int_set {w : World} {base : Nat} {e : TypeId} {n c g : Nat} {zs : List Int} (h : w.ownsRow base e 1 (.slice (some ⟨g, 0, none⟩) n c) n (zs.map (Value.int .i64))) (i : Nat) (z : Int) :
    (w.setCell ⟨g, i, none⟩ (.int .i64 z)).ownsRow base e 1 (.slice (some ⟨g, 0, none⟩) n c) n ((zs.set i z).map (Value.int .i64)) ∧ w.grownBy (w.setCell ⟨g, i, none⟩ (.int .i64 z)) (some g) := by
  have := h.stored i (.int .i64 z)
  rw [← List.map_set] at this
  exact this
end Go.Proofs.YtaajkmjilcamgaaGreatDoor
namespace Go.Proofs.YtaajkmjilcamgaaGreatDoor
open Go.RowKit
theorem wk_in {tb : List T3} {p : List Int} {v u : Int} (h : wk tb (-1) p v u) : ∀ z ∈ p, 0 ≤ z ∧ z ≤ (tb.length : Int) - 1 := fun z hz => by
  obtain ⟨k, hk⟩ := List.getElem?_of_mem hz
  obtain ⟨h0, t, ht⟩ := wk_get h hk
  have := lt_of_get ht
  omega
theorem begins_get {tb : List T3} {p : List Int} {j : Nat} {z : Int} {t : T3} (hz : p[j]? = some z) (ht : tb[z.toNat]? = some t) : (begins tb p)[j]? = some t.a := by
  rw [begins, List.getElem?_map, hz]; simp [tubeAt_get ht]
theorem nodup_step {xs : List Int} {u x : Int} (h : (xs ++ [u]).Nodup) {j : Nat} (hx : xs[j]? = some x) : hasI (xs.take j) x = false ∧ x ≠ u ∧ xs.take (j + 1) = xs.take j ++ [x] := by
  have h2 := List.pairwise_append.1 h
  refine ⟨?_, h2.2.2 x (List.mem_of_getElem? hx) u (List.mem_singleton.2 rfl), by rw [List.take_add_one, hx]; rfl⟩
  rw [Bool.eq_false_iff]
  intro hh
  obtain ⟨i, hi⟩ := List.getElem?_of_mem (hasI_mem.1 hh)
  have hij : i < j := by
    have := lt_of_get hi
    rw [List.length_take] at this; omega
  rw [List.getElem?_take_of_lt hij] at hi
  have h3 := List.pairwise_iff_getElem.1 h2.1 i j (lt_of_get hi) (lt_of_get hx) hij
  obtain ⟨_, e1⟩ := List.getElem?_eq_some_iff.1 hi
  obtain ⟨_, e2⟩ := List.getElem?_eq_some_iff.1 hx
  exact h3 (e1.trans e2.symm)
set_option maxRecDepth 100000 in
set_option maxHeartbeats 4000000 in
theorem isWay_any (n : Nat) (tb : List T3) (p : List Int) (v u : Int) (A : Option Addr) (c : Nat) (w : World) (h : OkNet n tb) (hr : Rd3 w w.heap.size A tb) (Ap : Option Addr) (cp : Nat) (hw : wk tb (-1) p v u) (hv : 0 ≤ v ∧ v ≤ (n : Int) - 1) (hu : 0 ≤ u ∧ u ≤ (n : Int) - 1) (hpl : p.length ≤ 1000) (hp : RdI w w.heap.size Ap p) :
    Calls Tryz.prog 13 #[.agg #[.int .i64 n, .slice A tb.length c], .slice Ap p.length cp, .int .i64 v, .int .i64 u] w fun e w' => e = .returned (.tuple #[.bool true, .int .i64 0]) ∧ Below w.heap.size w w' := by
  have b0 : Below w.heap.size w (w.alloc (.cells #[.int .i64 n, .slice A tb.length c] 26)) := (by repeat (first | exact Below.refl _ _ | assumption | (refine Below.alloc ?_ (by simp <;> omega) _) | refine Below.drew ?_ | refine bdn ?_ _))
  have X0 := hide (BoxN.new w #[.int .i64 n, .slice A tb.length c] 26)
  have z0 : w.heap.size < (w.alloc (.cells #[.int .i64 n, .slice A tb.length c] 26)).heap.size := by simp
  have x0 : (w.alloc (.cells #[.int .i64 n, .slice A tb.length c] 26)).cell? ⟨w.heap.size, 0, none⟩ = some (.int .i64 n) := X0.out.cell 0
  have x1 : (w.alloc (.cells #[.int .i64 n, .slice A tb.length c] 26)).cell? ⟨w.heap.size, 1, none⟩ = some (.slice A tb.length c) := X0.out.cell 1
  have HN := hide fun W (hW : Below w.heap.size w W) => ((hr.below hW).more hW.size)
  have Hp := hide fun W (hW : Below w.heap.size w W) => RdI.more (RdI.below hp hW) hW.size
  have W2 : Below w.heap.size w ((w.alloc (.cells #[.int .i64 n, .slice A tb.length c] 26)).alloc (.cells #[.int .i64 v, .int .i64 u] 2)) := b0.alloc b0.size _
  have X2 := hide (X0.out.alloc (.cells #[.int .i64 v, .int .i64 u] 2))
  have hv9 : Calls Tryz.prog 36 #[.agg #[.int .i64 n, .slice A tb.length c], .slice (some ⟨(w.alloc (.cells #[.int .i64 n, .slice A tb.length c] 26)).heap.size, 0, none⟩) 2 2] ((w.alloc (.cells #[.int .i64 n, .slice A tb.length c] 26)).alloc (.cells #[.int .i64 v, .int .i64 u] 2)) fun e w' => e = .returned (.int .i64 0) ∧ Below ((w.alloc (.cells #[.int .i64 n, .slice A tb.length c] 26)).alloc (.cells #[.int .i64 v, .int .i64 u] 2)).heap.size ((w.alloc (.cells #[.int .i64 n, .slice A tb.length c] 26)).alloc (.cells #[.int .i64 v, .int .i64 u] 2)) w' := (netCode_any n tb [v, u] A (some ⟨(w.alloc (.cells #[.int .i64 n, .slice A tb.length c] 26)).heap.size, 0, none⟩) c 2 ((w.alloc (.cells #[.int .i64 n, .slice A tb.length c] 26)).alloc (.cells #[.int .i64 v, .int .i64 u] 2)) h (HN.out _ W2) (fun z hz => by simp at hz; rcases hz with rfl | rfl <;> assumption) (by simp) (fun _ => ⟨(w.alloc (.cells #[.int .i64 n, .slice A tb.length c] 26)).heap.size, 0, rfl, by simp, fun j u hj => by
    match j, hj with
    | 0, hj => simp at hj; subst hj; simp [go_sem]
    | 1, hj => simp at hj; subst hj; simp [go_sem]
    | j + 2, hj => simp at hj⟩))
  have HV := hide hv9
  clear hv9
  have HA := hide fun W (hW : Below w.heap.size w W) => areTubes_any n tb p A c W h (HN.out W hW) Ap cp (wk_in hw) hpl (Hp.out W hW)
  have HE := hide fun W (hW : Below w.heap.size w W) => endOf_any n tb p v u A c W h (HN.out W hW) Ap cp hw hpl (Hp.out W hW)
  have hz2 : w.heap.size < ((w.alloc (.cells #[.int .i64 n, .slice A tb.length c] 26)).alloc (.cells #[.int .i64 v, .int .i64 u] 2)).heap.size := by simp; omega
  have y0 : ((w.alloc (.cells #[.int .i64 n, .slice A tb.length c] 26)).alloc (.cells #[.int .i64 v, .int .i64 u] 2)).cell? ⟨w.heap.size, 0, none⟩ = some (.int .i64 n) := X2.out.cell 0
  have y1 : ((w.alloc (.cells #[.int .i64 n, .slice A tb.length c] 26)).alloc (.cells #[.int .i64 v, .int .i64 u] 2)).cell? ⟨w.heap.size, 1, none⟩ = some (.slice A tb.length c) := X2.out.cell 1
  clear h hr hp hw hv hu
  go_enter Tryz.func13, Tryz.ntmps13
  go_upto_region 1 with fail
  generalize (w.alloc (.cells #[.int .i64 n, .slice A tb.length c] 26)) = w0 at *
  go_wp2_with (first
    | (go_at_call 36; (with_reducible refine (HV.out).mono ?_); rintro e w1 ⟨rfl, b1⟩; have q0 := (b1.cell (p := ⟨w.heap.size, 0, none⟩) hz2).trans y0; have q1 := (b1.cell (p := ⟨w.heap.size, 1, none⟩) hz2).trans y1; have bw1 := W2.trans (b1.mono W2.size); have z1 := Nat.lt_of_lt_of_le hz2 b1.size)
    | (go_at_call 46; (with_reducible refine (HA.out _ bw1).mono ?_); rintro e w2 ⟨rfl, b2⟩; have r0 := (b2.cell (p := ⟨w.heap.size, 0, none⟩) z1).trans q0; have r1 := (b2.cell (p := ⟨w.heap.size, 1, none⟩) z1).trans q1; have bw2 := bw1.trans (b2.mono bw1.size))
    | (go_at_call 47; (with_reducible refine (HE.out _ bw2).mono ?_); rintro e w3 ⟨rfl, b3⟩; have bw3 := bw2.trans (b3.mono bw2.size)))
  go_ret2
  exact ⟨by simp, bw3⟩
end Go.Proofs.YtaajkmjilcamgaaGreatDoor
