/-
  The first clash of two ways, and whether ways fit, in the program.
  The last end in the reference; the late wishes in both.
  All orders of n things, one behind the other, and the best one: plain definitions and laws.
  All orders, by the program's function that calls itself.
  Carriers are sent: one move, many moves; in the program and in the reference.
  What is wanted at stations: the codes; what each station has fewer or more than it wants.
  What stations have fewer and more than they want; in the program and in the reference.
-/
import Derived.Test.YtlkccijlbeibjaaQTurns10
import Derived.Test.YtlkccijlbeibjaaQTurns3
import Derived.Test.YtlkccijlbeibjaaQTurns6
import Derived.Test.YtlkccijlbeibjaaQTurns9
import Derived.Deep.RegionHeld3
namespace Go.Proofs.Ytlkccijlbeibjaa
open Go.RowKit
set_option maxRecDepth 100000 in
set_option maxHeartbeats 4000000 in
theorem firstClash_any (n : Nat) (tb : List T3) (a b : List Int) (v u v' u' : Int) (A : Option Addr) (c : Nat) (w : World) (h : OkNet n tb) (hr : Rd3 w w.heap.size A tb) (Aa : Option Addr) (ca : Nat) (ha : Simple tb a v u) (hal : a.length ≤ 1000) (hra : RdI w w.heap.size Aa a) (Ab : Option Addr) (cb : Nat) (hb : Simple tb b v' u') (hbl : b.length ≤ 1000) (hrb : RdI w w.heap.size Ab b) :
    Calls Try.prog 24 #[.agg #[.int .i64 n, .slice A tb.length c], .slice Aa a.length ca, .slice Ab b.length cb] w fun e w' => e = .returned (.tuple #[.int .i64 (clash tb a b), .int .i64 0]) ∧ Below w.heap.size w w' := by
  have b0 : Below w.heap.size w (w.alloc (.cells #[.int .i64 n, .slice A tb.length c] 44)) := (by repeat (first | exact Below.refl _ _ | assumption | (refine Below.alloc ?_ (by simp <;> omega) _) | refine Below.drew ?_ | refine bdn ?_ _))
  have X0 := hide (BoxN.new w #[.int .i64 n, .slice A tb.length c] 44)
  have z0 : w.heap.size < (w.alloc (.cells #[.int .i64 n, .slice A tb.length c] 44)).heap.size := by simp
  have x0 : (w.alloc (.cells #[.int .i64 n, .slice A tb.length c] 44)).cell? ⟨w.heap.size, 0, none⟩ = some (.int .i64 n) := X0.out.cell 0
  have x1 : (w.alloc (.cells #[.int .i64 n, .slice A tb.length c] 44)).cell? ⟨w.heap.size, 1, none⟩ = some (.slice A tb.length c) := X0.out.cell 1
  have HN := hide fun W (hW : Below w.heap.size w W) => ((hr.below hW).more hW.size)
  have Ha := hide fun W (hW : Below w.heap.size w W) => RdI.more (RdI.below hra hW) hW.size
  have Hb := hide fun W (hW : Below w.heap.size w W) => RdI.more (RdI.below hrb hW) hW.size
  have HV := hide (validNet_any n tb A c (w.alloc (.cells #[.int .i64 n, .slice A tb.length c] 44)) h (HN.out _ b0))
  have HSA := hide fun W (hW : Below w.heap.size w W) => isSimple_any n tb a v u A c W h (HN.out W hW) Aa ca ha.1 ha.2 hal (Ha.out W hW)
  have HSB := hide fun W (hW : Below w.heap.size w W) => isSimple_any n tb b v' u' A c W h (HN.out W hW) Ab cb hb.1 hb.2 hbl (Hb.out W hW)
  have HC := hide fun W (hW : Below w.heap.size w W) => clash_any n tb a b v u v' u' A c W h (HN.out W hW) Aa ca ha.1 hal (Ha.out W hW) Ab cb hb.1 hbl (Hb.out W hW)
  clear h hr hra hrb ha hb
  go_enter Try.func24, Try.ntmps24
  go_upto_region 1 with fail
  generalize (w.alloc (.cells #[.int .i64 n, .slice A tb.length c] 44)) = w0 at *
  go_wp2_with (first
    | (go_at_call 96; (with_reducible refine (HV.out).mono ?_); rintro e w1 ⟨rfl, b1⟩; have q0 := (b1.cell (p := ⟨w.heap.size, 0, none⟩) z0).trans x0; have q1 := (b1.cell (p := ⟨w.heap.size, 1, none⟩) z0).trans x1; have bw1 := b0.trans (b1.mono b0.size); have z1 := Nat.lt_of_lt_of_le z0 b1.size)
    | (go_at_call 97; (with_reducible refine (HSA.out _ bw1).mono ?_); rintro e w2 ⟨rfl, b2⟩; have r0 := (b2.cell (p := ⟨w.heap.size, 0, none⟩) z1).trans q0; have r1 := (b2.cell (p := ⟨w.heap.size, 1, none⟩) z1).trans q1; have bw2 := bw1.trans (b2.mono bw1.size); have z2 := Nat.lt_of_lt_of_le z1 b2.size)
    | (go_at_call 97; (with_reducible refine (HSB.out _ bw2).mono ?_); rintro e w3 ⟨rfl, b3⟩; have s0 := (b3.cell (p := ⟨w.heap.size, 0, none⟩) z2).trans r0; have s1 := (b3.cell (p := ⟨w.heap.size, 1, none⟩) z2).trans r1; have bw3 := bw2.trans (b3.mono bw2.size))
    | (go_at_call 98; (with_reducible refine (HC.out _ bw3).mono ?_); rintro e w4 ⟨rfl, b4⟩; have bw4 := bw3.trans (b4.mono bw3.size)))
  go_ret2
  exact ⟨by simp, bw4⟩
set_option maxRecDepth 100000 in
set_option maxHeartbeats 1000000 in
theorem indexFuncR_any (F : FuncId) (cap : Array Value) (xs : List Value) (A : Option Addr) (c : Nat) (w : World) (hx : xs.length ≤ 1000)
    (hcf : ∀ args w, (callFunc F args).run Try.prog w = .ok (.enter F args) w) (h1 : Rd w w.heap.size A xs)
    (hp : ∀ z ∈ xs, ∀ W, Below w.heap.size w W → Calls Try.prog F (#[z] ++ cap) W fun e w' => e = .returned (.bool false) ∧ Below W.heap.size W w') :
    Calls Try.prog 153 #[.slice A xs.length c, .func (.func F) #[] cap] w fun e w' => e = .returned (.int .i64 (-1)) ∧ Below w.heap.size w w' := by
  have HP := hide hp; clear hp
  go_enter Try.func153, Try.ntmps153
  go_wp2_with fail
  go_loopg [8] xs.length (fun g i wr => ∃ k : Nat, k ≤ xs.length ∧ Hid (g = xs.length - k) ∧ i = .int .i64 k ∧ Below w.heap.size w wr)
  case atStart => exact ⟨0, by omega, by simp [Hid], rfl, Below.refl _ _⟩
  case round =>
    obtain ⟨k, hk, HG, rfl, hb⟩ := hrel
    by_cases hlt : k < xs.length
    · obtain ⟨b, o, z, rfl, _, hz, hca⟩ := (Rd.below h1 hb).at_ hlt
      have HQ := HP.out z (List.mem_of_getElem? hz) wr hb
      have HQ' := hide HQ
      clear hz h1 HQ
      go_wp2_with fail
      refine HQ'.out.mono ?_
      rintro e w1 ⟨rfl, hb1⟩
      go_wp2_with fail
      go_roundg (xs.length - (k + 1))
      case measure => have := HG.out; omega
      case rel => exact ⟨k + 1, by omega, rfl, by go_num, hb.trans (hb1.mono hb.size)⟩
    · go_wp2_with fail
      go_ret
      exact ⟨rfl, hb⟩
set_option maxRecDepth 100000 in
set_option maxHeartbeats 1000000 in
theorem containsFuncR_any (F : FuncId) (cap : Array Value) (xs : List Value) (A : Option Addr) (c : Nat) (w : World) (hx : xs.length ≤ 1000)
    (hcf : ∀ args w, (callFunc F args).run Try.prog w = .ok (.enter F args) w) (h1 : Rd w w.heap.size A xs)
    (hp : ∀ z ∈ xs, ∀ W, Below w.heap.size w W → Calls Try.prog F (#[z] ++ cap) W fun e w' => e = .returned (.bool false) ∧ Below W.heap.size W w') :
    Calls Try.prog 99 #[.slice A xs.length c, .func (.func F) #[] cap] w fun e w' => e = .returned (.bool false) ∧ Below w.heap.size w w' := by
  have HC := hide (indexFuncR_any F cap xs A c w hx hcf h1 hp)
  clear hp
  go_enter Try.func99, Try.ntmps99
  go_wp2_with fail
  refine HC.out.mono ?_
  rintro e w1 ⟨rfl, hb⟩
  go_wp2_with fail
  go_ret
  exact ⟨rfl, hb⟩
set_option maxRecDepth 100000 in
set_option maxHeartbeats 1000000 in
theorem waysFit1_any (n : Nat) (tb : List T3) (p : List Int) (v u : Int) (A : Option Addr) (c g : Nat) (w : World) (h : OkNet n tb) (hr : Rd3 w w.heap.size A tb) (hbx : BoxN w g #[.int .i64 n, .slice A tb.length c] 44) (Ap : Option Addr) (cp : Nat) (hp : Simple tb p v u) (hpl : p.length ≤ 1000) (hrp : RdI w w.heap.size Ap p) :
    Calls Try.prog 100 #[.slice Ap p.length cp, .pointer (some ⟨g, 0, none⟩)] w fun e w' => e = .returned (.bool false) ∧ Below w.heap.size w w' := by
  have HS := hide (isSimple_any n tb p v u A c w h hr Ap cp hp.1 hp.2 hpl hrp)
  have k0 := hbx.cell 0
  have k1 := hbx.cell 1
  clear h hr hp hrp
  go_enter Try.func100, Try.ntmps100
  go_wp2_with (go_at_call 97; refine (HS.out).mono ?_; rintro e w1 ⟨rfl, b1⟩)
  go_ret
  exact ⟨by simp, b1⟩
/-- A way that lies in memory. -/
structure WyAt (tb : List T3) (w : World) (x : Option Addr × Nat × List Int) : Prop where
  sim : ∃ v u, Simple tb x.2.2 v u
  len : x.2.2.length ≤ 1000
  rd : RdI w w.heap.size x.1 x.2.2
def wayV (x : Option Addr × Nat × List Int) : Value := .slice x.1 x.2.2.length x.2.1
theorem WyAt.below {tb : List T3} {w W : World} {x : Option Addr × Nat × List Int} (h : WyAt tb w x) (k : Below w.heap.size w W) : WyAt tb W x := ⟨h.sim, h.len, RdI.more (RdI.below h.rd k) k.size⟩
def FitR (tb : List T3) (L : List (Option Addr × Nat × List Int)) (f : Bool) : Prop := f = true ↔ ∀ (i k : Nat) (x y : Option Addr × Nat × List Int), k < i → L[i]? = some x → L[k]? = some y → clash tb x.2.2 y.2.2 < 0
set_option maxRecDepth 100000 in
set_option maxHeartbeats 4000000 in
theorem waysFit_any (n : Nat) (tb : List T3) (L : List (Option Addr × Nat × List Int)) (A : Option Addr) (c : Nat) (w : World) (h : OkNet n tb) (hr : Rd3 w w.heap.size A tb) (hl : L.length ≤ 20) (hL : ∀ x ∈ L, WyAt tb w x) (Al : Option Addr) (cl : Nat) (hcl : L.length ≤ cl) (hcl2 : cl ≤ 1000) (hrl : Rd w w.heap.size Al (L.map wayV)) :
    Calls Try.prog 25 #[.agg #[.int .i64 n, .slice A tb.length c], .slice Al L.length cl] w fun e w' => ∃ f : Bool, e = .returned (.tuple #[.bool f, .int .i64 0]) ∧ FitR tb L f ∧ Below w.heap.size w w' := by
  have hcf := callFunc_gen (P := Try.prog) (F := 100) Try.func100 (by kernel_rfl) (by kernel_rfl)
  have b0 : Below w.heap.size w (w.alloc (.cells #[.int .i64 n, .slice A tb.length c] 44)) := (by repeat (first | exact Below.refl _ _ | assumption | (refine Below.alloc ?_ (by simp <;> omega) _) | refine Below.drew ?_ | refine bdn ?_ _))
  have X0 := hide (BoxN.new w #[.int .i64 n, .slice A tb.length c] 44)
  have z0 : w.heap.size < (w.alloc (.cells #[.int .i64 n, .slice A tb.length c] 44)).heap.size := by simp
  have HN := hide fun W (hW : Below w.heap.size w W) => ((hr.below hW).more hW.size)
  have HV := hide (validNet_any n tb A c (w.alloc (.cells #[.int .i64 n, .slice A tb.length c] 44)) h (HN.out _ b0))
  have HK := hide fun W (hW : Below w.heap.size w W) (x y : Option Addr × Nat × List Int) (hx : x ∈ L) (hy : y ∈ L) => by
    obtain ⟨⟨v, u, hx1⟩, hx2, hx3⟩ := (hL x hx).below hW
    obtain ⟨⟨v', u', hy1⟩, hy2, hy3⟩ := (hL y hy).below hW
    exact clash_any n tb x.2.2 y.2.2 v u v' u' A c W h (HN.out W hW) x.1 x.2.1 hx1.1 hx2 hx3 y.1 y.2.1 hy1.1 hy2 hy3
  have HRL := hide fun W (hW : Below w.heap.size w W) => Rd.more (Rd.below hrl hW) hW.size
  have HF := hide fun W (hW : Below w.heap.size w W) (hX : BoxN W w.heap.size #[.int .i64 n, .slice A tb.length c] 44) => containsFuncR_any 100 #[.pointer (some ⟨w.heap.size, 0, none⟩)] (L.map wayV) Al cl W (by rw [List.length_map]; omega) hcf (HRL.out W hW) (fun z hz W2 hW2 => by
    obtain ⟨x, hx, rfl⟩ := List.mem_map.1 hz
    have hw2 := hW.trans (hW2.mono hW.size)
    obtain ⟨⟨v, u, hx1⟩, hx2, hx3⟩ := (hL x hx).below hw2
    exact waysFit1_any n tb x.2.2 v u A c w.heap.size W2 h (HN.out W2 hw2) (hX.below hW2 hX.lt) x.1 x.2.1 hx1 hx2 hx3)
  rw [List.length_map] at HF
  clear h hr hL hrl
  go_enter Try.func25, Try.ntmps25
  go_upto_region 1 with fail
  generalize (w.alloc (.cells #[.int .i64 n, .slice A tb.length c] 44)) = w0 at *
  have x0 : w0.cell? ⟨w.heap.size, 0, none⟩ = some (.int .i64 n) := X0.out.cell 0
  have x1 : w0.cell? ⟨w.heap.size, 1, none⟩ = some (.slice A tb.length c) := X0.out.cell 1
  go_upto_region 3 with (go_at_call 96; (with_reducible refine (HV.out).mono ?_); rintro e w1 ⟨rfl, b1⟩)
  have B1 := hide (b0.trans (b1.mono b0.size))
  have X1 := hide (X0.out.below b1 z0)
  clear x0 x1 b1
  go_upto_region 5 with (go_at_call 99; (with_reducible refine (HF.out _ B1.out X1.out).mono ?_); rintro e w2 ⟨rfl, b2⟩)
  have B2 := hide (B1.out.trans (b2.mono B1.out.size))
  have X2 := hide (X1.out.below b2 X1.out.lt)
  clear b2
  have z2 := X2.out.lt
  go_wp2_with fail
  go_loopg [25] L.length (fun g i wr => ∃ j : Nat, j ≤ L.length ∧ Hid (g = L.length - j) ∧ i = .int .i64 j ∧ Hid (∀ (i k : Nat) (x y : Option Addr × Nat × List Int), i < j → k < i → L[i]? = some x → L[k]? = some y → clash tb x.2.2 y.2.2 < 0) ∧ Hid (Below w2.heap.size w2 wr))
  case atStart => exact ⟨0, by omega, by simp [Hid], rfl, hide (fun i k x y hi => absurd hi (Nat.not_lt_zero _)), hide (Below.refl _ _)⟩
  case round =>
    obtain ⟨j, hj, hgj, rfl, HNO, HB⟩ := hrel
    by_cases hjt : j < L.length
    case neg =>
      have HRES := hide (show FitR tb L true from ⟨fun _ i k x y hk hx hy => HNO.out i k x y (by have := lt_of_get hx; omega) hk hx hy, fun _ => rfl⟩)
      go_wp2_with fail
      go_ret2
      exact ⟨true, by simp, HRES.out, B2.out.trans (HB.out.mono B2.out.size)⟩
    have HBW := hide (B2.out.trans (HB.out.mono B2.out.size))
    obtain ⟨b3, o3, z, rfl, _, hz, hc⟩ := (HRL.out wr HBW.out).at_ (j := j) (by rw [List.length_map]; exact hjt)
    obtain ⟨x, hxj⟩ : ∃ x, L[j]? = some x := ⟨_, List.getElem?_eq_getElem hjt⟩
    have hzx : z = wayV x := by rw [List.getElem?_map, hxj] at hz; exact (Option.some.inj hz).symm
    subst hzx
    have hc' : wr.cell? ⟨b3, o3 + j, none⟩ = some (.slice x.1 x.2.2.length x.2.1) := hc
    have HXJ := hide hxj
    have hjc : j ≤ cl := by omega
    obtain ⟨wU, hwU⟩ : ∃ q, q = wr := ⟨wr, rfl⟩
    subst hwU
    clear hz hc hxj
    go_wp2_with fail
    go_loopg [34] j (fun g i wr => ∃ k : Nat, k ≤ j ∧ Hid (g = j - k) ∧ i = .int .i64 k ∧ Hid (∀ (q : Nat) (y : Option Addr × Nat × List Int), q < k → L[q]? = some y → clash tb x.2.2 y.2.2 < 0) ∧ Hid (Below w2.heap.size w2 wr))
    case atStart => exact ⟨0, by omega, by simp [Hid], rfl, hide (fun q y hq => absurd hq (Nat.not_lt_zero _)), HB⟩
    case round =>
      obtain ⟨k, hk, hgk, rfl, HNI, HB2⟩ := hrel
      by_cases hkt : k < j
      case neg =>
        have HNO2 := hide (show ∀ (i k : Nat) (x y : Option Addr × Nat × List Int), i < j + 1 → k < i → L[i]? = some x → L[k]? = some y → clash tb x.2.2 y.2.2 < 0 from fun i k' x' y' hi hk' hx hy => by
          by_cases hij : i < j
          · exact HNO.out i k' x' y' hij hk' hx hy
          · obtain rfl : i = j := by omega
            rw [HXJ.out] at hx; cases hx
            exact HNI.out k' y' (by omega) hy)
        go_wp2_with fail
        go_roundg (L.length - (j + 1))
        case measure => have := hgj.out; omega
        case rel => exact ⟨j + 1, by omega, rfl, by go_num, HNO2, HB2⟩
      have HBV := hide (B2.out.trans (HB2.out.mono B2.out.size))
      obtain ⟨b4, o4, z, hA4, _, hz, hc⟩ := (HRL.out wr HBV.out).at_ (j := k) (by rw [List.length_map]; omega)
      obtain ⟨rfl, rfl⟩ : b3 = b4 ∧ o3 = o4 := by cases hA4; exact ⟨rfl, rfl⟩
      obtain ⟨y, hyk⟩ : ∃ y, L[k]? = some y := ⟨_, List.getElem?_eq_getElem (by omega)⟩
      have hzy : z = wayV y := by rw [List.getElem?_map, hyk] at hz; exact (Option.some.inj hz).symm
      subst hzy
      have hc'' : wr.cell? ⟨b3, o3 + k, none⟩ = some (.slice y.1 y.2.2.length y.2.1) := hc
      have HYK := hide hyk
      have x2 : wr.cell? ⟨w.heap.size, 0, none⟩ = some (.int .i64 n) := (HB2.out.cell z2).trans (X2.out.cell 0)
      have x3 : wr.cell? ⟨w.heap.size, 1, none⟩ = some (.slice A tb.length c) := (HB2.out.cell z2).trans (X2.out.cell 1)
      have HCL := hide (HK.out wr HBV.out x y (List.mem_of_getElem? HXJ.out) (List.mem_of_getElem? HYK.out))
      clear hz hc hA4 hyk
      by_cases hcl9 : clash tb x.2.2 y.2.2 < 0
      · have HNI2 := hide (show ∀ (q : Nat) (y : Option Addr × Nat × List Int), q < k + 1 → L[q]? = some y → clash tb x.2.2 y.2.2 < 0 from fun q y' hq hy => by
          by_cases hqk : q < k
          · exact HNI.out q y' hqk hy
          · obtain rfl : q = k := by omega
            rw [HYK.out] at hy; cases hy; exact hcl9)
        have hcl8 : decide (0 ≤ clash tb x.2.2 y.2.2) = false := by simp; omega
        go_wp2_with (go_at_call 98; (with_reducible refine (HCL.out).mono ?_); rintro e w4 ⟨rfl, b4⟩)
        go_roundg (j - (k + 1))
        case measure => have := hgk.out; omega
        case rel => exact ⟨k + 1, by omega, rfl, by go_num, HNI2, hide (HB2.out.trans (b4.mono HB2.out.size))⟩
      · have hcl8 : decide (0 ≤ clash tb x.2.2 y.2.2) = true := by simp; omega
        have hcl7 : 0 ≤ clash tb x.2.2 y.2.2 := by omega
        have HRES := hide (show FitR tb L false from ⟨(fun e => by cases e), fun hh => absurd (hh j k x y hkt HXJ.out HYK.out) hcl9⟩)
        clear hcl9
        go_wp2_with (go_at_call 98; (with_reducible refine (HCL.out).mono ?_); rintro e w4 ⟨rfl, b4⟩)
        go_ret2
        exact ⟨false, by simp, HRES.out, HBV.out.trans (b4.mono HBV.out.size)⟩
end Go.Proofs.Ytlkccijlbeibjaa
namespace Go.Proofs.Ytlkccijlbeibjaa
open Go.RowKit

theorem laGo_len (ts : List Int) (l : List TN) : ∀ (xs : List Int) (k : Nat), (laGo ts l xs k).length ≤ xs.length := by
  intro xs
  induction xs with
  | nil => intro k; simp [laGo]
  | cons s r ih =>
    intro k; rw [laGo]
    have := ih (k + 1)
    split <;> simp <;> omega
end Go.Proofs.Ytlkccijlbeibjaa
namespace Go.Proofs.Ytlkccijlbeibjaa

/-- An order is taken where its value is less than the least one so far. -/
def best1 (v : List Int → Int) (s : List Int × Int) (o : List Int) : List Int × Int := if s.2 < 0 ∨ v o < s.2 then (o, v o) else s
/-- All orders that begin with the given one, m things being left. -/
def ordGoF (v : List Int → Int) (n : Nat) : Nat → List Int → List Int × Int → List Int × Int
  | 0, done, s => best1 v s done
  | m + 1, done, s => (List.range n).foldl (fun s (k : Nat) => if hasI done k = true then s else ordGoF v n m (done ++ [(k : Int)]) s) s
/-- The orders from the k-th next thing on. -/
def ordFrom (v : List Int → Int) (n m : Nat) (done : List Int) (k : Nat) (s : List Int × Int) : List Int × Int :=
  ((List.range n).drop k).foldl (fun s (k : Nat) => if hasI done k = true then s else ordGoF v n m (done ++ [(k : Int)]) s) s
theorem ordFrom_zero (v : List Int → Int) (n m : Nat) (done : List Int) (s : List Int × Int) : ordGoF v n (m + 1) done s = ordFrom v n m done 0 s := rfl
theorem ordFrom_end (v : List Int → Int) (n m : Nat) (done : List Int) (s : List Int × Int) : ordFrom v n m done n s = s := by
  unfold ordFrom
  rw [List.drop_eq_nil_of_le (by simp)]; rfl
theorem ordFrom_step (v : List Int → Int) {n m : Nat} (done : List Int) {k : Nat} (hk : k < n) (s : List Int × Int) : ordFrom v n m done k s = ordFrom v n m done (k + 1) (if hasI done k = true then s else ordGoF v n m (done ++ [(k : Int)]) s) := by
  unfold ordFrom
  rw [List.drop_eq_getElem_cons (by simpa using hk), List.foldl_cons, List.getElem_range]
theorem hasI_iff {xs : List Int} {v : Int} : hasI xs v = true ↔ v ∈ xs := by simp [hasI]
theorem ordGo_of {n : Int} : ∀ {r pre : List Int}, (∀ k ∈ r, 0 ≤ k ∧ k ≤ n - 1) → r.Nodup → (∀ k ∈ r, k ∉ pre) → ordGo n pre r = true := by
  intro r
  induction r with
  | nil => intro pre _ _ _; rfl
  | cons k r ih =>
    intro pre h1 h2 h3
    rw [List.nodup_cons] at h2
    rw [ordGo, inB_t (h1 k (List.mem_cons_self ..)), ih (fun z hz => h1 z (List.mem_cons_of_mem _ hz)) h2.2 (fun z hz hp => by
      rcases List.mem_append.1 hp with hp | hp
      · exact h3 z (List.mem_cons_of_mem _ hz) hp
      · rw [List.mem_singleton] at hp; subst hp; exact h2.1 hz)]
    have : hasI pre k = false := by
      cases hh : hasI pre k
      · rfl
      · exact absurd (hasI_iff.1 hh) (h3 k (List.mem_cons_self ..))
    rw [this]; rfl
/-- Things of an order, of n ones. -/
def GoodO (n : Nat) (o : List Int) : Prop := (∀ z ∈ o, 0 ≤ z ∧ z ≤ (n : Int) - 1) ∧ o.Nodup
theorem GoodO.nil (n : Nat) : GoodO n [] := ⟨by simp, List.nodup_nil⟩
theorem GoodO.snoc {n : Nat} {o : List Int} (h : GoodO n o) {k : Nat} (hk : k < n) (hh : hasI o k = false) : GoodO n (o ++ [(k : Int)]) := by
  refine ⟨fun z hz => ?_, ?_⟩
  · rcases List.mem_append.1 hz with hz | hz
    · exact h.1 z hz
    · rw [List.mem_singleton] at hz; subst hz; omega
  · rw [List.nodup_append]
    refine ⟨h.2, List.pairwise_singleton .., fun a ha b hb => ?_⟩
    rw [List.mem_singleton] at hb; subst hb
    rintro rfl
    rw [hasI_iff.2 ha] at hh; cases hh
theorem GoodO.code {ts : List Int} {l : List TN} {o : List Int} (hv : vWishes ts l = true) (h : GoodO l.length o) (hl : o.length = l.length) : codeO ts l o = 0 := by
  unfold codeO
  rw [if_pos hv, if_pos]
  unfold ordOk
  rw [ordGo_of h.1 h.2 (fun _ _ => by simp), hl]; simp
/-- The value of an order: its late carriers, or the sum of its delays. -/
def valO (late : Bool) (ts : List Int) (l : List TN) (o : List Int) : Int := if late = true then ((laGo ts l (plan ts l o) 0).length : Int) else dlGo l (plan ts l o) 0
def bestO (late : Bool) (ts : List Int) (l : List TN) : List Int × Int × Int :=
  if vWishes ts l = true then ((ordGoF (valO late ts l) l.length l.length [] ([], -1)).1, (ordGoF (valO late ts l) l.length l.length [] ([], -1)).2, 0) else ([], 0, 1)
theorem best1_y {v : List Int → Int} {s : List Int × Int} {o : List Int} (h : s.2 < 0 ∨ v o < s.2) : best1 v s o = (o, v o) := if_pos h
theorem best1_n {v : List Int → Int} {s : List Int × Int} {o : List Int} (h1 : ¬ s.2 < 0) (h2 : ¬ v o < s.2) : best1 v s o = s := if_neg (by omega)
end Go.Proofs.Ytlkccijlbeibjaa
namespace Go.Proofs.Ytlkccijlbeibjaa
open Go.RowKit

theorem own_rdI {w : World} {lo hi : Nat} {A : Option Addr} {n c : Nat} {x : List Int} (h : O_Int64S w lo hi (.slice A n c) x) : RdI w w.heap.size A x := by
  obtain ⟨A', c', he, hr⟩ := h.r
  simp only [Value.slice.injEq] at he
  rw [he.1]; exact hr
theorem own_to {w w' : World} {lo hi hi' B pb : Nat} {v : Value} {x : List Int} (h : O_Int64S w lo hi v x) (k : Only pb B w w') (hB : B ≤ lo) (hh : hi ≤ hi') : O_Int64S w' lo hi' v x := (h.kept k (.inr hB)).widen (Nat.le_refl _) hh
theorem own_tob {w w' : World} {lo hi hi' B : Nat} {v : Value} {x : List Int} (h : O_Int64S w lo hi v x) (k : Below B w w') (hB : hi ≤ B) (hh : hi ≤ hi') : O_Int64S w' lo hi' v x := (h.below k hB).widen (Nat.le_refl _) hh
end Go.Proofs.Ytlkccijlbeibjaa
namespace Go.Proofs.Ytlkccijlbeibjaa
open Go.RowKit

/-- One move: none if there are not enough carriers. -/
def send1 (zs : List Int) (m : T3) : Option (List Int) :=
  match zs[m.a.toNat]?, zs[m.b.toNat]? with
  | some za, some zb => if za < m.c then none else some ((zs.set m.a.toNat (za - m.c)).set m.b.toNat (zb + m.c))
  | _, _ => none
def sendCarriers (zs : List Int) (m : T3) : List Int × Int :=
  if vStock zs then (if okMove zs.length m then (match send1 zs m with | some r => (r, 0) | none => ([], 6)) else ([], 2)) else ([], 1)
def sendFrom : List Int → List T3 → Nat → List Int × Int
  | zs, [], _ => (zs, -1)
  | zs, m :: ms, k => match send1 zs m with | some zs' => sendFrom zs' ms (k + 1) | none => (zs, (k : Int))
def sendAll (zs : List Int) (ms : List T3) : List Int × Int × Int :=
  if vStock zs then (if vMoves zs.length ms then ((sendFrom zs ms 0).1, (sendFrom zs ms 0).2, 0) else ([], 0, 2)) else ([], 0, 1)
/-- What a stock of one's own keeps. -/
def StOk (zs : List Int) : Prop := (∀ z ∈ zs, 0 ≤ z) ∧ zs.sum ≤ 200
theorem le_sum {zs : List Int} (h : ∀ z ∈ zs, 0 ≤ z) : ∀ z ∈ zs, z ≤ zs.sum := by
  induction zs with
  | nil => intro z hz; cases hz
  | cons x xs ih =>
    intro z hz
    have h0 := h x (by simp)
    have hs : 0 ≤ xs.sum := by
      have hh : ∀ ys : List Int, (∀ y ∈ ys, 0 ≤ y) → 0 ≤ ys.sum := by
        intro ys; induction ys with
        | nil => intro _; simp
        | cons y ys ih => intro hy; have := ih (fun z hz => hy z (by simp [hz])); have := hy y (by simp); simp only [List.sum_cons]; omega
      exact hh xs (fun y hy => h y (by simp [hy]))
    rcases List.mem_cons.1 hz with rfl | hz
    · simp only [List.sum_cons]; omega
    · have := ih (fun y hy => h y (by simp [hy])) z hz; simp only [List.sum_cons]; omega
theorem sum_set {zs : List Int} : ∀ {i : Nat} {z v : Int}, zs[i]? = some z → (zs.set i v).sum = zs.sum - z + v := by
  induction zs with
  | nil => intro i z v h; simp at h
  | cons x xs ih =>
    intro i z v h
    cases i with
    | zero => simp at h; subst h; simp only [List.set_cons_zero, List.sum_cons]; omega
    | succ i => simp only [List.set_cons_succ, List.sum_cons]; rw [ih (by simpa using h)]; omega
theorem stOk_of {zs : List Int} (h : vStock zs = true) : StOk zs ∧ 2 ≤ zs.length ∧ zs.length ≤ 10 := by
  simp only [vStock, Bool.and_eq_true, List.all_eq_true, inB_iff, decide_eq_true_eq] at h
  exact ⟨⟨fun z hz => (h.1 z hz).1, h.2.2⟩, by omega, by omega⟩
theorem stOk_bd {zs : List Int} (h : StOk zs) {i : Nat} {z : Int} (hz : zs[i]? = some z) : 0 ≤ z ∧ z ≤ 200 := by
  have hm := List.mem_of_getElem? hz
  exact ⟨h.1 z hm, by have := le_sum h.1 z hm; have := h.2; omega⟩
theorem stOk_send {zs : List Int} {i j : Nat} {za zb c : Int} (h : StOk zs) (hza : zs[i]? = some za) (hzb : zs[j]? = some zb) (hij : i ≠ j) (hc : 1 ≤ c) (hle : c ≤ za) :
    StOk ((zs.set i (za - c)).set j (zb + c)) := by
  have h2 : (zs.set i (za - c))[j]? = some zb := by rw [List.getElem?_set_ne hij]; exact hzb
  refine ⟨fun z hz => ?_, by rw [sum_set h2, sum_set hza]; have := h.2; omega⟩
  have := (stOk_bd h hzb).1
  rcases List.mem_or_eq_of_mem_set hz with hz | rfl
  · rcases List.mem_or_eq_of_mem_set hz with hz | rfl
    · exact h.1 z hz
    · omega
  · omega
theorem send1_at {zs : List Int} {i j : Nat} {c za zb : Int} (hza : zs[i]? = some za) (hzb : zs[j]? = some zb) :
    send1 zs ⟨i, j, c⟩ = if za < c then none else some ((zs.set i (za - c)).set j (zb + c)) := by
  simp only [send1, Int.toNat_natCast, hza, hzb]
/-- A move's stations are places of the stock. -/
theorem move_at {zs : List Int} {m : T3} (h : okMove zs.length m = true) : ∃ (i j : Nat) (za zb : Int), m = ⟨i, j, m.c⟩ ∧ zs[i]? = some za ∧ zs[j]? = some zb ∧ i ≠ j ∧ 1 ≤ m.c ∧ m.c ≤ 200 := by
  obtain ⟨a, b, c⟩ := m
  rw [okMove_iff] at h
  obtain ⟨⟨h1, h2⟩, ⟨h3, h4⟩, h5, h6, h7⟩ := h
  dsimp only at *
  obtain ⟨i, rfl⟩ := Int.eq_ofNat_of_zero_le h1
  obtain ⟨j, rfl⟩ := Int.eq_ofNat_of_zero_le h3
  have hi : i < zs.length := by omega
  have hj : j < zs.length := by omega
  exact ⟨i, j, zs[i], zs[j], rfl, List.getElem?_eq_getElem hi, List.getElem?_eq_getElem hj, fun e => h5 (by rw [e]), h6, h7⟩
theorem O_int_of {w : World} {lo : Nat} {v : Value} {n : Nat} {zs : List Int} (h : w.ownsRow lo 2 1 v n (zs.map (Value.int .i64))) (hn : n ≤ 1048576) : O_Int64S w lo w.heap.size v zs := by
  have hl := h.1
  simp only [List.length_map, Nat.mul_one] at hl
  subst hl
  exact OwnV.of_row h hn
theorem own_len {w : World} {lo : Nat} {e : TypeId} {v : Value} {n m : Nat} {xs : List Value} (h : w.ownsRow lo e 1 v n xs) (hn : n = m) : w.ownsRow lo e 1 v m xs := by subst hn; exact h

end Go.Proofs.Ytlkccijlbeibjaa
namespace Go.Proofs.Ytlkccijlbeibjaa
open Go.RowKit

def codeWa (st wa : List Int) : Int := if vStock st = true then (if wa.length = st.length ∧ wa.all (inB 0 200) = true then 0 else 2) else 1
theorem codeWa_ok {st wa : List Int} (h : codeWa st wa = 0) : vStock st = true ∧ wa.length = st.length ∧ ∀ z ∈ wa, 0 ≤ z ∧ z ≤ 200 := by
  unfold codeWa at h
  split at h
  · rename_i hv
    split at h
    · rename_i hw
      exact ⟨hv, hw.1, fun z hz => inB_iff.1 (List.all_eq_true.1 hw.2 z hz)⟩
    · cases h
  · cases h
theorem codeWa_cases (st wa : List Int) : codeWa st wa = 0 ∨ codeWa st wa = 1 ∨ codeWa st wa = 2 := by unfold codeWa; split <;> (try split) <;> simp
def shGo : List Int → List Int → List Int
  | s :: st, w :: wa => max 0 (w - s) :: shGo st wa
  | _, _ => []
def moGo : List Int → List Int → List Int
  | s :: st, w :: wa => max 0 (s - w) :: moGo st wa
  | _, _ => []
theorem shGo_len : ∀ {st wa : List Int}, wa.length = st.length → (shGo st wa).length = st.length := by
  intro st
  induction st with
  | nil => intro wa _; cases wa <;> rfl
  | cons s st ih => intro wa h; cases wa with
    | nil => simp at h
    | cons w wa => simp only [shGo, List.length_cons]; rw [ih (by simpa using h)]
theorem moGo_len : ∀ {st wa : List Int}, wa.length = st.length → (moGo st wa).length = st.length := by
  intro st
  induction st with
  | nil => intro wa _; cases wa <;> rfl
  | cons s st ih => intro wa h; cases wa with
    | nil => simp at h
    | cons w wa => simp only [moGo, List.length_cons]; rw [ih (by simpa using h)]
theorem shGo_get : ∀ {st wa : List Int} {i : Nat} {s w : Int}, st[i]? = some s → wa[i]? = some w → (shGo st wa)[i]? = some (max 0 (w - s)) := by
  intro st
  induction st with
  | nil => intro wa i s w h; simp at h
  | cons a st ih =>
    intro wa i s w h1 h2
    cases wa with
    | nil => simp at h2
    | cons b wa =>
      cases i with
      | zero => simp at h1 h2; subst h1 h2; rfl
      | succ i => simp only [shGo, List.getElem?_cons_succ] at *; exact ih h1 h2
theorem moGo_get : ∀ {st wa : List Int} {i : Nat} {s w : Int}, st[i]? = some s → wa[i]? = some w → (moGo st wa)[i]? = some (max 0 (s - w)) := by
  intro st
  induction st with
  | nil => intro wa i s w h; simp at h
  | cons a st ih =>
    intro wa i s w h1 h2
    cases wa with
    | nil => simp at h2
    | cons b wa =>
      cases i with
      | zero => simp at h1 h2; subst h1 h2; rfl
      | succ i => simp only [moGo, List.getElem?_cons_succ] at *; exact ih h1 h2
def shortStations (st wa : List Int) : List Int × Int := if codeWa st wa = 0 then (shGo st wa, 0) else ([], codeWa st wa)
theorem take_snocG {α : Type} {xs : List α} {k : Nat} {x : α} (h : xs[k]? = some x) : xs.take (k + 1) = xs.take k ++ [x] := by
  obtain ⟨hl, he⟩ := List.getElem?_eq_some_iff.1 h
  rw [List.take_succ_eq_append_getElem hl, he]
theorem stock_bd {st : List Int} (h : vStock st = true) : ∀ z ∈ st, 0 ≤ z ∧ z ≤ 200 := fun z hz => by
  obtain ⟨i, hi⟩ := List.getElem?_of_mem hz
  exact stOk_bd (stOk_of h).1 hi
end Go.Proofs.Ytlkccijlbeibjaa
namespace Go.Proofs.Ytlkccijlbeibjaa
open Go.RowKit

section
variable {P : Program}
theorem op_app' {o : Oper} {a : Act} {K : Act → World → Prop} {Q : Exit → Act → World → Prop} (w : World) (s x : Operand) (t : TypeId)
    (ho : o.op = .call { callee := .builtin .append, args := #[s, x], argTypes := #[t, t] })
    (base : Nat) (e : TypeId) (i : TypeInfo) (z : Value) (size bytes : Nat) (ht : P.underlying t = some (.slice e)) (hi : P.info? e = some i) (hz : i.zero = some z)
    (hsize : i.size = size) (hby : i.bytes = bytes) (hzs : z.cells.size = size) (hsz : 0 < size)
    (v : Value) (n : Nat) (xs : List Value) (hs : a.eval s = v) (hown : w.ownsRow base e size v n xs)
    (B : Nat) (A : Option Addr) (m c : Nat) (news : List Value) (hx : a.eval x = .slice A m c) (hl : news.length = m * size) (hr : Rd w B A news) (h1 : ∀ u ∈ news, u.oneCell' = true)
    (hn : n + m ≤ 1099511627776) (hb : bytes ≤ 64) (hbase : base ≤ w.heap.size)
    (h : ∀ v' w', w'.ownsRow base e size v' (n + m) (xs ++ news) → w.grownBy w' v.ownBlock → (v'.ownBlock = v.ownBlock ∨ v'.ownBlock = some w.heap.size) → K (a.put o.dst v') w') :
    o.wp P a w K Q := by
  obtain ⟨v', w', hrun, h2, h3, h4⟩ := run_app (P := P) w base t o.type e i z size bytes ht hi hz hsize hby hzs hsz v n xs hown B A m c news hl hr h1 (by unfold maxLen; omega)
    (Nat.le_trans (Nat.mul_le_mul hn hb) (by omega)) hbase
  unfold Oper.wp execOp
  simp only [ho, resolve, invoke, builtin, Sem.run_bind, Sem.run_pure, Result.andThen_ok, List.map_toArray, List.map_cons, List.map_nil, hs, hx, hrun]
  exact h v' w' h2 h3 h4
end
theorem rd_one {w : World} {b : Nat} {u : Value} (h : w.cell? ⟨b, 0, none⟩ = some u) : Rd w (b + 1) (some ⟨b, 0, none⟩) [u] := fun _ =>
  ⟨b, 0, rfl, Nat.lt_succ_self b, fun j x hj => by
    cases j with
    | zero => simp at hj; subst hj; exact h
    | succ j => simp at hj⟩
/-- Two slices' blocks are not one. -/
def Apart (u v : Value) : Prop := u.ownBlock = none ∨ u.ownBlock ≠ v.ownBlock
theorem Apart.symm {u v : Value} (h : Apart u v) : Apart v u := by
  cases hv : v.ownBlock with
  | none => exact .inl hv
  | some b =>
    right
    rcases h with h | h
    · rw [hv, h]; simp
    · rw [hv] at h ⊢; exact fun e => h e.symm
/-- An append onto the one leaves the other as it is, and apart. -/
theorem apart_app {w w' : World} {base : Nat} {e : TypeId} {s n : Nat} {u v v' : Value} {xs : List Value} (h : Apart u v) (hu : w.ownsRow base e s u n xs) (hg : w.grownBy w' v.ownBlock) (hat : v'.ownBlock = v.ownBlock ∨ v'.ownBlock = some w.heap.size) :
    w'.ownsRow base e s u n xs ∧ Apart u v' := by
  refine ⟨hu.kept hg h, ?_⟩
  rcases hat with hat | hat
  · unfold Apart; rw [hat]; exact h
  · cases hb : u.ownBlock with
    | none => exact .inl hb
    | some b =>
      right
      rw [hb, hat]
      intro e
      injection e with e
      have := (hu.lt b hb).2
      omega
theorem app_cell {w w' : World} {row : Option Nat} {b o : Nat} {u : Value} (h : w.cell? ⟨b, o, none⟩ = some u) (hg : w.grownBy w' row) (hb : b < w.heap.size) (hr : ∀ g, row = some g → b ≠ g) : w'.cell? ⟨b, o, none⟩ = some u := by
  rw [World.cell?_of_block (a := ⟨b, o, none⟩) (hg.block b hb (fun e => hr b e.symm rfl))]; exact h
theorem take_next' {α : Type} {xs : List α} {k : Nat} {x : α} (h : xs[k]? = some x) : xs.take (k + 1) = xs.take k ++ [x] := take_snocG h
end Go.Proofs.Ytlkccijlbeibjaa
