/-
  Settings and walks are drawn.
  Walks are drawn: simple ways.
-/
import Derived.Test.YtlkccijlbeibjaaQTurns9
import Derived.Test.YtlkccijlbeibjaaQTurns10
import Derived.Test.YtlkccijlbeibjaaQTurns6
import Derived.Test.YtlkccijlbeibjaaQTurns13
namespace Go.Proofs.Ytlkccijlbeibjaa
open Go.RowKit
theorem fromB {w : World} (bs : List Int) (A : Option Addr) (c : Nat) (hl : bs.length ≤ 4096) (h1 : RdB w w.heap.size A bs) (W : World) (hW : Below w.heap.size w W) : Calls Try.prog 81 #[.slice A bs.length c] W fun e w' => e = .returned (.pointer (some ⟨W.heap.size, 0, none⟩)) ∧ SrcAt W.heap.size bs 0 w' ∧ w'.heap.size = W.heap.size + 1 ∧ Below W.heap.size W w' := l00From_any bs A c W hl ((h1.below hW).more hW.size)
/-- A station's choices. -/
def Ch (tb : List T3) (k : Nat) (z : Int) : Prop := z = -1 ∨ (0 ≤ z ∧ ∃ t, tb[z.toNat]? = some t ∧ t.a = (k : Int))
set_option maxRecDepth 100000 in
set_option maxHeartbeats 4000000 in
theorem a2Setting_any (n : Nat) (tb : List T3) (bs : List Int) (A : Option Addr) (c : Nat) (Ab : Option Addr) (cb : Nat) (w : World) (h : OkNet n tb) (hr : Rd3 w w.heap.size A tb) (hbs : BsOk bs) (hrb : RdB w w.heap.size Ab bs) :
    Calls Try.prog 17 #[.slice Ab bs.length cb, .agg #[.int .i64 n, .slice A tb.length c]] w fun e w' => ∃ (A' : Option Addr) (c' : Nat) (st : List Int), e = .returned (.slice A' st.length c') ∧ RdI w' w'.heap.size A' st ∧ OkSet n tb st ∧ Below w.heap.size w w' := by
  obtain ⟨i0, hi0, hz0, hs0, hb0⟩ := info_parts int64_info
  have hn2 := h.1.1
  have hn10 := h.1.2
  have hl24 := h.2.1
  have b0 : Below w.heap.size w (w.alloc (.cells #[.int .i64 n, .slice A tb.length c] 44)) := (by repeat (first | exact Below.refl _ _ | assumption | (refine Below.alloc ?_ (by simp <;> omega) _) | refine Below.drew ?_ | refine bdn ?_ _))
  have X0 := hide (BoxN.new w #[.int .i64 n, .slice A tb.length c] 44)
  have z0 : w.heap.size < (w.alloc (.cells #[.int .i64 n, .slice A tb.length c] 44)).heap.size := by simp
  have HN := hide fun W (hW : Below w.heap.size w W) => ((hr.below hW).more hW.size)
  have HF := hide (fromB bs Ab cb hbs.1 hrb (w.alloc (.cells #[.int .i64 n, .slice A tb.length c] 44)) b0)
  clear h hr hrb
  go_enter Try.func17, Try.ntmps17
  go_upto_region 1 with fail
  generalize (w.alloc (.cells #[.int .i64 n, .slice A tb.length c] 44)) = w0 at *
  have HAM := hide fun M g o c xs W (hM : M ≤ 1099511000000) (hW : SrcAt w0.heap.size bs M W) => among_any w0.heap.size bs M g o c xs W hbs hM hW
  go_upto_region 2 with (go_at_call 81; (with_reducible refine (HF.out).mono ?_); rintro e w1 ⟨rfl, hs1, hz1, hb1⟩)
  have hz1a := Nat.le_of_eq hz1.symm
  have hz1b := Nat.le_of_eq hz1
  have X1 := hide ((X0.out.only (lo := w0.heap.size) (hi := w0.heap.size) (only_of_below hb1) (.inl z0)).alloc (.cells #[] 2))
  have S1 := hide (hs1.alloc (.cells #[] 2))
  have HB1 := hide (b0.trans (hb1.mono b0.size))
  have hwl1 : w.heap.size ≤ w1.heap.size := HB1.out.size
  have ho1 := own_new0 w1 (w0.heap.size + 1) 2 1 hz1a
  have O1 := hide (only_alloc (only_of_below (Below.refl w1.heap.size w1) (lo := w0.heap.size) (hi := w0.heap.size + 1)) (.cells #[] 2))
  clear hs1 hb1 HF X0 hz1 b0
  go_upto_region 3 with fail
  generalize hwz : w1.alloc (.cells #[] 2) = wz at *
  clear hwz
  generalize hg1 : w1.heap.size = g1 at ho1 ⊢
  go_wp2_with fail
  go_loopg [6, 7] n (fun g s i wr => ∃ (k : Nat) (A' : Option Addr) (c' : Nat) (L : List Int), k ≤ n ∧ Hid (g = n - k) ∧ s = .slice A' k c' ∧ i = .int .i64 k ∧ Hid (L.length = k) ∧ Hid (∀ (i : Nat) z, L[i]? = some z → Ch tb i z) ∧ Hid (wr.ownsRow (w0.heap.size + 1) 2 1 (.slice A' k c') k (L.map (Value.int .i64))) ∧ Hid (BoxN wr w.heap.size #[.int .i64 n, .slice A tb.length c] 44) ∧ Hid (SrcAt w0.heap.size bs (2 * (k : Int)) wr) ∧ Hid (Only w0.heap.size (w0.heap.size + 1) w1 wr))
  case atStart => exact ⟨0, some ⟨g1, 0, none⟩, 0, [], by omega, by simp [Hid], rfl, rfl, rfl, fun i z hz => by simp at hz, ho1, X1, S1, O1⟩
  case round =>
    obtain ⟨k, A', c', L, hk, hg, rfl, rfl, HLL, HCH, HOW, HX, HS, HO⟩ := hrel
    clear ho1 X1 S1 O1
    have x0 := HX.out.cell 0
    have x1 := HX.out.cell 1
    have hzw := HO.out.size
    by_cases hkn : k < n
    · obtain ⟨wU, hwU⟩ : ∃ q, q = wr := ⟨wr, rfl⟩
      subst hwU
      have hXU := hide (HX.out.alloc (.cells #[.int .i64 (-1)] 2))
      have hSU := hide (HS.out.alloc (.cells #[.int .i64 (-1)] 2))
      have hRU : (wU.alloc (.cells #[.int .i64 (-1)] 2)).ownsRow wU.heap.size 2 1 (.slice (some ⟨wU.heap.size, 0, none⟩) 1 1) 1 (([-1] : List Int).map (Value.int .i64)) := by
        have h := World.ownsRow_lit (base := wU.heap.size) (e := 2) (size := 1) wU #[.int .i64 (-1)] 1 (Nat.le_refl _) (by unfold maxLen; omega) (by simp)
        exact h
      have hOU := only_alloc (only_of_below (Below.refl wU.heap.size wU) (lo := w0.heap.size) (hi := w0.heap.size + 1)) (.cells #[.int .i64 (-1)] 2)
      have hUz : w0.heap.size + 1 ≤ wU.heap.size := by omega
      have hUw : w.heap.size < wU.heap.size := by omega
      go_upto_region 7 with fail
      go_wp2_with fail
      go_loopg [8, 9] tb.length (fun g s i wr => ∃ (m : Nat) (acc : List Int) (A8 : Option Addr) (c8 : Nat), m ≤ tb.length ∧ Hid (g = tb.length - m) ∧ s = .slice A8 acc.length c8 ∧ i = .int .i64 m ∧ 1 ≤ acc.length ∧ acc.length ≤ 1 + 2 * m ∧ Hid (∀ z ∈ acc, Ch tb k z) ∧ Hid (wr.ownsRow wU.heap.size 2 1 (.slice A8 acc.length c8) acc.length (acc.map (Value.int .i64))) ∧ Hid (BoxN wr w.heap.size #[.int .i64 n, .slice A tb.length c] 44) ∧ Hid (SrcAt w0.heap.size bs (2 * (k : Int)) wr) ∧ Hid (Only w0.heap.size (w0.heap.size + 1) wU wr))
      case atStart => exact ⟨0, [-1], some ⟨wU.heap.size, 0, none⟩, 1, by omega, by simp [Hid], rfl, rfl, by simp, by simp, hide fun z hz => by simp at hz; subst hz; exact .inl rfl, hRU, hXU, hSU, hOU⟩
      case round =>
        obtain ⟨m, acc, A8, c8, hm, hgm, rfl, rfl, hal1, hal2, HAC, HOWi, HXi, HSi, HOi⟩ := hrel
        clear hXU hSU hRU hOU x0 x1
        have y0 := HXi.out.cell 0
        have y1 := HXi.out.cell 1
        have hzi := HOi.out.size
        have hbw : Below w.heap.size w wr := HB1.out.trans ((HO.out.below (B := w.heap.size) (by omega) hwl1).trans (HOi.out.below (B := w.heap.size) (by omega) (by omega)))
        by_cases hmt : m < tb.length
        · obtain ⟨b4, o4, t, hA4, _, ht, c0, c1, c2⟩ := (HN.out wr hbw).at_ hmt
          subst hA4
          have hmi : (m : Int) < (tb.length : Int) := by omega
          by_cases hta : t.a = (k : Int)
          · have hbe : (t.a == (k : Int)) = true := by simp [hta]
            have HTA := hide hta
            have HT := hide ht
            have hown5 := HOWi.out
            have hz5 : wU.heap.size ≤ wr.heap.size := hzi
            clear hta ht c1 c2 hbw
            go_wp2_with (at_builtin; go_must (refine wp_app _ rfl _ _ 22 rfl (wU.heap.size) 2 i0 (.int .i64 0) 1 8 Try.underlying22 hi0 hz0 hs0 hb0 rfl (by decide) _ _ _ rfl (hown5.alloc _) _ _ 2 2 [.int .i64 (m : Int), .int .i64 (m : Int)] rfl rfl (rd_new _ _ _ _ (by first | rfl | simp)) (by intro q hq; simp at hq; subst hq; rfl) (by omega) (by decide) (by first | omega | (simp <;> omega) | (simp; omega)) ?_); intro v4 w4 hown4 hgrow4 hat4)
            have oA := hown5.alloc (.cells #[.int .i64 (m : Int), .int .i64 (m : Int)] 2)
            have O4 := only_app (only_alloc HOi.out (.cells #[.int .i64 (m : Int), .int .i64 (m : Int)] 2)) oA hgrow4 (Nat.le_refl _)
            have S4 := (HSi.out.alloc (.cells #[.int .i64 (m : Int), .int .i64 (m : Int)] 2)).grown hgrow4 (fun g e => by have := (oA.lt g e).1; omega)
            have hx4 : BoxN w4 w.heap.size #[.int .i64 n, .slice (some ⟨b4, o4, none⟩) tb.length c] 44 := by
              have h := HXi.out.alloc (.cells #[.int .i64 (m : Int), .int .i64 (m : Int)] 2)
              exact (hgrow4.block _ h.lt (fun e => by have := (oA.lt _ e.symm).1; omega)).trans h
            obtain ⟨A9, c9, rfl, _⟩ := own_shape hown4
            go_roundg (tb.length - (m + 1))
            case measure => have := hgm.out; omega
            case rel =>
              refine ⟨m + 1, acc ++ [(m : Int), (m : Int)], A9, c9, by omega, rfl, by simp, by go_num, by simp, by simp; omega, hide fun z hz => ?_, by simpa [Hid] using hown4, hx4, S4, O4⟩
              rcases List.mem_append.1 hz with hz | hz
              · exact HAC.out z hz
              · have hzm : z = (m : Int) := by simpa using hz
                subst hzm
                exact .inr ⟨by omega, t, by rw [Int.toNat_natCast]; exact HT.out, HTA.out⟩
          · have hbe : (t.a == (k : Int)) = false := by simp [hta]
            have HTA := hide hta
            clear hta ht c1 c2 hbw
            go_wp2_with fail
            go_roundg (tb.length - (m + 1))
            case measure => have := hgm.out; omega
            case rel => exact ⟨m + 1, acc, A8, c8, by omega, rfl, rfl, by go_num, hal1, by omega, HAC, HOWi, HXi, HSi, HOi⟩
        · obtain ⟨g8, rfl, hg81, hg82⟩ := own_posN' HOWi.out (by omega)
          have HC := hide (HAM.out (2 * (k : Int)) g8 0 c8 acc wr (by omega) HSi.out (by omega) hg82 hal1 (by omega) (fun j z hj => by
            have h := own_int_at HOWi.out hj
            rw [Nat.zero_add]; exact h))
          have hrowO := hide (row_only HOW.out HOi.out (Nat.le_refl _))
          have hOO := hide (only_trans HO.out HOi.out)
          clear hbw
          go_wp2_with (first | (go_at_call 82; (with_reducible refine (HC.out).mono ?_); rintro e w2 ⟨z, rfl, hz, hs2, ho2⟩; have hr2 := row_only hrowO.out ho2 (Nat.le_refl _); have oo2 := only_trans hOO.out ho2; have hz2 := ho2.size; have hx2 := HXi.out.only ho2 (.inl (by omega)); have hz2b : w0.heap.size + 1 ≤ w2.heap.size := (by omega)) | (at_builtin; go_must (refine wp_app _ rfl _ _ 22 rfl (w0.heap.size + 1) 2 i0 (.int .i64 0) 1 8 Try.underlying22 hi0 hz0 hs0 hb0 rfl (by decide) _ _ _ rfl (hr2.alloc _) _ _ 1 1 [.int .i64 z] rfl rfl (rd_new _ _ _ _ (by first | rfl | simp)) (int_one _) (by omega) (by decide) (by first | omega | (simp <;> omega) | (simp; omega)) ?_); intro v4 w4 hown4 hgrow4 hat4))
          have oA := hr2.alloc (.cells #[.int .i64 z] 2)
          have O4 := only_app (only_alloc oo2 (.cells #[.int .i64 z] 2)) oA hgrow4 (by omega)
          have S4 := (hs2.alloc (.cells #[.int .i64 z] 2)).grown hgrow4 (fun g e => by have := (oA.lt g e).1; omega)
          have hx4 : BoxN w4 w.heap.size #[.int .i64 n, .slice A tb.length c] 44 := by
            have h := hx2.alloc (.cells #[.int .i64 z] 2)
            exact (hgrow4.block _ h.lt (fun e => by have := (oA.lt _ e.symm).1; omega)).trans h
          obtain ⟨A9, c9, rfl, _⟩ := own_shape hown4
          go_roundg (n - (k + 1))
          case measure => have := hg.out; omega
          case rel =>
            refine ⟨k + 1, A9, c9, L ++ [z], by omega, rfl, rfl, by go_num, by have := HLL.out; unfold Hid; rw [List.length_append, this]; rfl, hide fun i y hy => ?_, by rw [List.map_append]; exact hown4, hx4, S4.more (by omega), O4⟩
            have hl := HLL.out
            by_cases hik : i < L.length
            · rw [List.getElem?_append_left hik] at hy; exact HCH.out i y hy
            · rw [List.getElem?_append_right (by omega)] at hy
              have hik2 : i = k := by
                have := lt_of_get hy
                simp at this; omega
              subst hik2
              rw [show i - L.length = 0 by omega] at hy
              have hyz : z = y := by simpa using hy
              subst hyz
              exact HAC.out z hz
    · obtain rfl : k = n := by omega
      go_wp2_with fail
      go_ret
      exact ⟨A', c', L, by rw [HLL.out]; rfl, Rd.of_own HOW.out, ⟨HLL.out, HCH.out⟩, HB1.out.trans (HO.out.below (B := w.heap.size) (by omega) hwl1)⟩
end Go.Proofs.Ytlkccijlbeibjaa
namespace Go.Proofs.Ytlkccijlbeibjaa
open Go.RowKit
theorem ap_or {b6 b8 : Option Nat} (ap : ∀ g, b6 = some g → b8 ≠ some g) : (b8 = none ∨ b8 ≠ b6) ∧ (b6 = none ∨ b6 ≠ b8) := by
  constructor
  · cases b8 with
    | none => exact .inl rfl
    | some g => exact .inr fun e => ap g e.symm rfl
  · cases b6 with
    | none => exact .inl rfl
    | some g => exact .inr fun e => ap g rfl e.symm
theorem ap_new {b6 b8 b6' b8' : Option Nat} {m6 m8 : Nat} (ap : ∀ g, b6 = some g → b8 ≠ some g) (h6 : b6' = b6 ∨ b6' = some m6) (l8 : ∀ g, b8 = some g → g < m6) (h8 : b8' = b8 ∨ b8' = some m8) (l6 : ∀ g, b6' = some g → g < m8) : ∀ g, b6' = some g → b8' ≠ some g := fun g e e2 => by
  rcases h8 with h8 | h8
  · rw [h8] at e2
    rcases h6 with h6 | h6
    · rw [h6] at e; exact ap g e e2
    · rw [h6] at e; have := l8 g e2; have := Option.some.inj e; omega
  · rw [h8] at e2; have := l6 g e; have := Option.some.inj e2; omega
theorem ap_keep {b6 b8 b6' : Option Nat} {m6 : Nat} (ap : ∀ g, b6 = some g → b8 ≠ some g) (h6 : b6' = b6 ∨ b6' = some m6) (l8 : ∀ g, b8 = some g → g < m6) : ∀ g, b6' = some g → b8 ≠ some g := fun g e e2 => by
  rcases h6 with h6 | h6
  · rw [h6] at e; exact ap g e e2
  · rw [h6] at e; have := l8 g e2; have := Option.some.inj e; omega
/-- A walk's state: the tubes, where it is, what has been seen. -/
def WSt (tb : List T3) (P : List Int) (x : Nat) (S : List Int) : Prop := ∃ v, wk tb (-1) P v (x : Int) ∧ S = begins tb P ++ [(x : Int)] ∧ S.Nodup
def WCh (tb : List T3) (x : Nat) (S : List Int) (z : Int) : Prop := 0 ≤ z ∧ ∃ t, tb[z.toNat]? = some t ∧ t.a = (x : Int) ∧ t.b ∉ S
theorem WSt.step {tb : List T3} {P S : List Int} {x : Nat} (h : WSt tb P x S) {z : Int} {t : T3} {y : Nat} (hz : 0 ≤ z) (ht : tb[z.toNat]? = some t) (ha : t.a = (x : Int)) (hb : t.b = (y : Int)) (hn : t.b ∉ S) : WSt tb (P ++ [z]) y (S ++ [t.b]) := by
  obtain ⟨v, h1, h2, h3⟩ := h
  refine ⟨v, wk_append.2 ⟨(x : Int), h1, hz, by omega, t, ht, ha, hb⟩, ?_, ?_⟩
  · rw [h2, begins, begins, List.map_append, List.map_cons, List.map_nil, tubeAt_get ht, ha, hb]
  · rw [List.nodup_append]
    refine ⟨h3, by simp, fun a ha b hb2 e => ?_⟩
    rw [List.mem_singleton] at hb2
    subst hb2; subst e; exact hn ha
set_option maxRecDepth 100000 in
set_option maxHeartbeats 8000000 in
theorem a2Walk_any (n : Nat) (tb : List T3) (bs : List Int) (A : Option Addr) (c : Nat) (Ab : Option Addr) (cb : Nat) (w : World) (h : OkNet n tb) (hr : Rd3 w w.heap.size A tb) (hbs : BsOk bs) (hrb : RdB w w.heap.size Ab bs) :
    Calls Try.prog 23 #[.slice Ab bs.length cb, .agg #[.int .i64 n, .slice A tb.length c]] w fun e w' => ∃ (A' : Option Addr) (c' : Nat) (p : List Int), e = .returned (.slice A' p.length c') ∧ RdI w' w'.heap.size A' p ∧ p.length ≤ 4 ∧ (∃ x : Nat, x < n ∧ ∃ S : List Int, WSt tb p x S) ∧ Below w.heap.size w w' := by
  obtain ⟨i0, hi0, hz0, hs0, hb0⟩ := info_parts int64_info
  have hn2 := h.1.1
  have hn10 := h.1.2
  have hl24 := h.2.1
  have HOK := hide (okTubes_of h)
  have b0 : Below w.heap.size w (w.alloc (.cells #[.int .i64 n, .slice A tb.length c] 44)) := (by repeat (first | exact Below.refl _ _ | assumption | (refine Below.alloc ?_ (by simp <;> omega) _) | refine Below.drew ?_ | refine bdn ?_ _))
  have X0 := hide (BoxN.new w #[.int .i64 n, .slice A tb.length c] 44)
  have z0 : w.heap.size < (w.alloc (.cells #[.int .i64 n, .slice A tb.length c] 44)).heap.size := by simp
  have HN := hide fun W (hW : Below w.heap.size w W) => ((hr.below hW).more hW.size)
  have HF := hide (fromB bs Ab cb hbs.1 hrb (w.alloc (.cells #[.int .i64 n, .slice A tb.length c] 44)) b0)
  have HTB := hide hr
  clear h hr hrb
  go_enter Try.func23, Try.ntmps23
  go_upto_region 1 with fail
  generalize (w.alloc (.cells #[.int .i64 n, .slice A tb.length c] 44)) = w0 at *
  have HAM := hide fun M g o c xs W (hM : M ≤ 1099511000000) (hW : SrcAt w0.heap.size bs M W) => among_any w0.heap.size bs M g o c xs W hbs hM hW
  have HP := hide fun M n W (hM : M ≤ 1099511000000) (hW : SrcAt w0.heap.size bs M W) => pick_any w0.heap.size bs M n W hbs hM hW
  go_upto_region 2 with (go_at_call 81; (with_reducible refine (HF.out).mono ?_); rintro e w1 ⟨rfl, hs1, hz1, hb1⟩)
  have hz1a := Nat.le_of_eq hz1.symm
  have hz1b := Nat.le_of_eq hz1
  have X1 := hide ((X0.out.only (lo := w0.heap.size) (hi := w0.heap.size) (only_of_below hb1) (.inl z0)).alloc (.cells #[] 2))
  have S1 := hide (hs1.alloc (.cells #[] 2))
  have HB1 := hide (b0.trans (hb1.mono b0.size))
  have hwl1 : w.heap.size ≤ w1.heap.size := HB1.out.size
  have R1 := hide (own_new0 w1 (w0.heap.size + 1) 2 1 hz1a)
  have O1 := hide (only_alloc (only_of_below (Below.refl w1.heap.size w1) (lo := w0.heap.size) (hi := w0.heap.size + 1)) (.cells #[] 2))
  have hsz1 : (w1.alloc (.cells #[] 2)).heap.size = w1.heap.size + 1 := by simp
  clear hs1 hb1 HF X0 hz1 b0
  go_upto_region 3 with fail
  generalize w1.alloc (.cells #[] 2) = wz at *
  have hszA := Nat.le_of_eq hsz1
  have hszB := Nat.le_of_eq hsz1.symm
  clear hsz1
  have x0 := X1.out.cell 0
  have HC := hide (HP.out 0 (n : Int) wz (by omega) S1.out)
  go_upto_region 4 with (go_at_call 94; (with_reducible refine (HC.out).mono ?_); rintro e w2 ⟨y, rfl, ⟨hy0, hy1', _⟩, hs2, ho2⟩)
  have hy1 := hy1' (by omega)
  obtain ⟨y0, rfl⟩ := Int.eq_ofNat_of_zero_le hy0
  have hz2 := ho2.size
  have X2 := hide ((X1.out.only ho2 (.inl (by omega))).alloc (.cells #[.int .i64 (y0 : Int)] 2))
  have S2 := hide (hs2.alloc (.cells #[.int .i64 (y0 : Int)] 2))
  have R2 := hide ((row_only R1.out ho2 (Nat.le_refl _)).alloc (.cells #[.int .i64 (y0 : Int)] 2))
  have Q2 : Hid ((w2.alloc (.cells #[.int .i64 (y0 : Int)] 2)).ownsRow (w0.heap.size + 1) 2 1 (.slice (some ⟨w2.heap.size, 0, none⟩) 1 1) 1 (([(y0 : Int)] : List Int).map (Value.int .i64))) := World.ownsRow_lit (base := w0.heap.size + 1) (e := 2) (size := 1) w2 #[.int .i64 (y0 : Int)] 1 (by omega) (by unfold maxLen; omega) (by simp)
  have O2 := hide (only_alloc (only_trans O1.out ho2) (.cells #[.int .i64 (y0 : Int)] 2))
  have hap2 : w1.heap.size ≠ w2.heap.size := by omega
  clear hs2 ho2 hy1' X1 S1 R1 O1 HC x0
  go_upto_region 5 with fail
  generalize w2.alloc (.cells #[.int .i64 (y0 : Int)] 2) = wy at *
  have HC := hide (HP.out (0 + 2) 5 wy (by omega) S2.out)
  go_upto_region 6 with (go_at_call 94; (with_reducible refine (HC.out).mono ?_); rintro e w3 ⟨k0', rfl, ⟨hk0, hk1', _⟩, hs3, ho3⟩)
  have hk1 := hk1' (by omega)
  obtain ⟨k0, rfl⟩ := Int.eq_ofNat_of_zero_le hk0
  have X3 := hide (X2.out.only ho3 (.inl (by omega)))
  have R3 := hide (row_only R2.out ho3 (Nat.le_refl _))
  have Q3 := hide (row_only Q2.out ho3 (Nat.le_refl _))
  have O3 := hide (only_trans O2.out ho3)
  have S3 := hide hs3
  clear hs3 ho3 hk1' X2 S2 R2 Q2 O2 HC
  generalize w1.heap.size = g1 at R3 hap2 ⊢
  generalize w2.heap.size = g2 at Q3 hap2 ⊢
  go_loopg [6, 7, 8, 9] k0 (fun g o at_ s i wr => ∃ (k x : Nat) (A6 : Option Addr) (c6 : Nat) (A8 : Option Addr) (c8 : Nat) (P S : List Int), k + P.length ≤ 4 ∧ Hid (g = k) ∧ o = .slice A6 P.length c6 ∧ at_ = .int .i64 x ∧ s = .slice A8 S.length c8 ∧ i = .int .i64 k ∧ x < n ∧ S.length ≤ 1 + P.length ∧ Hid (WSt tb P x S) ∧ Hid (wr.ownsRow (w0.heap.size + 1) 2 1 (.slice A6 P.length c6) P.length (P.map (Value.int .i64))) ∧ Hid (wr.ownsRow (w0.heap.size + 1) 2 1 (.slice A8 S.length c8) S.length (S.map (Value.int .i64))) ∧ Hid (∀ g, (Value.slice A6 P.length c6).ownBlock = some g → (Value.slice A8 S.length c8).ownBlock ≠ some g) ∧ Hid (BoxN wr w.heap.size #[.int .i64 n, .slice A tb.length c] 44) ∧ Hid (SrcAt w0.heap.size bs (4 + 2 * (P.length : Int)) wr) ∧ Hid (Only w0.heap.size (w0.heap.size + 1) w1 wr))
  case atStart => exact ⟨k0, y0, some ⟨g1, 0, none⟩, 0, some ⟨g2, 0, none⟩, 1, [], [(y0 : Int)], by simp; omega, rfl, rfl, rfl, rfl, rfl, by omega, by simp, ⟨(y0 : Int), rfl, rfl, by simp⟩, R3.out, Q3.out, hide fun g e e2 => by have h1 : some g1 = some g := e; have h2 : some g2 = some g := e2; exact hap2 (by have := Option.some.inj h1; have := Option.some.inj h2; omega), X3, S3.out.more (by simp), O3⟩
  case round =>
    obtain ⟨k, x, A6, c6, A8, c8, P, S, hkP, hg, rfl, rfl, rfl, rfl, hx, hSl, HW, HO6, HO8, HAP, HX, HS, HO⟩ := hrel
    clear R3 Q3 X3 S3 O3 hap2
    have x0 := HX.out.cell 0
    have x1 := HX.out.cell 1
    have hzw := HO.out.size
    by_cases hkn : 0 < k
    · obtain ⟨wU, hwU⟩ : ∃ q, q = wr := ⟨wr, rfl⟩
      subst hwU
      have hkn' : (0 : Int) < (k : Int) := by omega
      have hXU := hide (HX.out.alloc (.cells #[] 2))
      have hSU := hide (HS.out.alloc (.cells #[] 2))
      have hRU := own_new0 wU wU.heap.size 2 1 (Nat.le_refl _)
      have hOU := only_alloc (only_of_below (Below.refl wU.heap.size wU) (lo := w0.heap.size) (hi := w0.heap.size + 1)) (.cells #[] 2)
      have hUz : w0.heap.size + 1 ≤ wU.heap.size := by omega
      have hUw : w.heap.size < wU.heap.size := by omega
      go_upto_region 9 with fail
      go_wp2_with fail
      go_loopg [10, 11] tb.length (fun g s i wr => ∃ (m : Nat) (acc : List Int) (A5 : Option Addr) (c5 : Nat), m ≤ tb.length ∧ Hid (g = tb.length - m) ∧ s = .slice A5 acc.length c5 ∧ i = .int .i64 m ∧ acc.length ≤ m ∧ Hid (∀ z ∈ acc, WCh tb x S z) ∧ Hid (wr.ownsRow wU.heap.size 2 1 (.slice A5 acc.length c5) acc.length (acc.map (Value.int .i64))) ∧ Hid (BoxN wr w.heap.size #[.int .i64 n, .slice A tb.length c] 44) ∧ Hid (SrcAt w0.heap.size bs (4 + 2 * (P.length : Int)) wr) ∧ Hid (Only w0.heap.size (w0.heap.size + 1) wU wr))
      case atStart => exact ⟨0, [], some ⟨wU.heap.size, 0, none⟩, 0, by omega, by simp [Hid], rfl, rfl, by simp, hide fun z hz => (by cases hz), hRU, hXU, hSU, hOU⟩
      case round =>
        obtain ⟨m, acc, A5, c5, hm, hgm, rfl, rfl, hal, HAC, HOWi, HXi, HSi, HOi⟩ := hrel
        clear hXU hSU hRU hOU x0 x1
        have y0 := HXi.out.cell 0
        have y1 := HXi.out.cell 1
        have hzi := HOi.out.size
        have hbw : Below w.heap.size w wr := HB1.out.trans ((HO.out.below (B := w.heap.size) (by omega) hwl1).trans (HOi.out.below (B := w.heap.size) (by omega) (by omega)))
        by_cases hmt : m < tb.length
        · obtain ⟨b4, o4, t, hA4, _, ht, c0, c1, c2⟩ := (HN.out wr hbw).at_ hmt
          subst hA4
          have hmi : (m : Int) < (tb.length : Int) := by omega
          have HH := hide (l00Has_any S t.b A8 c8 wr (by omega) (Rd.of_own (row_only HO8.out HOi.out (Nat.le_refl _))))
          by_cases hta : t.a = (x : Int)
          · have hbe : (t.a == (x : Int)) = true := by simp [hta]
            cases hhs : hasI S t.b
            · rw [hhs] at HH
              have HTA := hide hta
              have HT := hide ht
              have HHS := hide hhs
              have hown5 := HOWi.out
              have hz5 : wU.heap.size ≤ wr.heap.size := hzi
              clear hta ht c2 hbw hhs
              go_wp2_with (first | (go_at_call 95; (with_reducible refine (HH.out).mono ?_); rintro e w' ⟨rfl, rfl⟩) | (at_builtin; go_must (refine wp_app _ rfl _ _ 22 rfl (wU.heap.size) 2 i0 (.int .i64 0) 1 8 Try.underlying22 hi0 hz0 hs0 hb0 rfl (by decide) _ _ _ rfl (hown5.alloc _) _ _ 1 1 [.int .i64 (m : Int)] rfl rfl (rd_new _ _ _ _ (by first | rfl | simp)) (int_one _) (by omega) (by decide) (by first | omega | (simp <;> omega) | (simp; omega)) ?_); intro v4 w4 hown4 hgrow4 hat4))
              have oA := hown5.alloc (.cells #[.int .i64 (m : Int)] 2)
              have O4 := only_app (only_alloc HOi.out (.cells #[.int .i64 (m : Int)] 2)) oA hgrow4 (Nat.le_refl _)
              have S4 := (HSi.out.alloc (.cells #[.int .i64 (m : Int)] 2)).grown hgrow4 (fun g e => by have := (oA.lt g e).1; omega)
              have hx4 : BoxN w4 w.heap.size #[.int .i64 n, .slice (some ⟨b4, o4, none⟩) tb.length c] 44 := by
                have h := HXi.out.alloc (.cells #[.int .i64 (m : Int)] 2)
                exact (hgrow4.block _ h.lt (fun e => by have := (oA.lt _ e.symm).1; omega)).trans h
              obtain ⟨A9, c9, rfl, _⟩ := own_shape hown4
              go_roundg (tb.length - (m + 1))
              case measure => have := hgm.out; omega
              case rel =>
                refine ⟨m + 1, acc ++ [(m : Int)], A9, c9, by omega, rfl, by simp, by go_num, by simp; omega, hide fun z hz => ?_, by simpa [Hid] using hown4, hx4, S4, O4⟩
                rcases List.mem_append.1 hz with hz | hz
                · exact HAC.out z hz
                · have hzm : z = (m : Int) := by simpa using hz
                  subst hzm
                  exact ⟨by omega, t, by rw [Int.toNat_natCast]; exact HT.out, HTA.out, fun hm => by have h := hasI_mem.2 hm; rw [HHS.out] at h; cases h⟩
            · rw [hhs] at HH
              have HTA := hide hta
              clear hta ht c2 hbw hhs
              go_wp2_with (go_at_call 95; (with_reducible refine (HH.out).mono ?_); rintro e w' ⟨rfl, rfl⟩)
              go_roundg (tb.length - (m + 1))
              case measure => have := hgm.out; omega
              case rel => exact ⟨m + 1, acc, A5, c5, by omega, rfl, rfl, by go_num, by omega, HAC, HOWi, HXi, HSi, HOi⟩
          · have hbe : (t.a == (x : Int)) = false := by simp [hta]
            have HTA := hide hta
            clear hta ht c1 c2 hbw HH
            go_wp2_with fail
            go_roundg (tb.length - (m + 1))
            case measure => have := hgm.out; omega
            case rel => exact ⟨m + 1, acc, A5, c5, by omega, rfl, rfl, by go_num, by omega, HAC, HOWi, HXi, HSi, HOi⟩
        · have hrow6 := hide (row_only HO6.out HOi.out (Nat.le_refl _))
          have hrow8 := hide (row_only HO8.out HOi.out (Nat.le_refl _))
          have hOO := hide (only_trans HO.out HOi.out)
          by_cases hac : acc.length = 0
          · have hbz : ((acc.length : Int) == 0) = true := by simp [hac]
            have HAC0 := hide hac
            clear hac
            go_wp2_with fail
            go_ret
            exact ⟨A6, c6, P, rfl, Rd.of_own hrow6.out, by omega, ⟨x, hx, S, HW.out⟩, hbw⟩
          · have hbz : ((acc.length : Int) == 0) = false := by rw [beq_eq_false_iff_ne]; omega
            have hac1 : 1 ≤ acc.length := by omega
            obtain ⟨g8, rfl, hg81, hg82⟩ := own_posN' HOWi.out (by omega)
            have HC := hide (HAM.out (4 + 2 * (P.length : Int)) g8 0 c5 acc wr (by omega) HSi.out (by omega) hg82 hac1 (by omega) (fun j z hj => by
              have h := own_int_at HOWi.out hj
              rw [Nat.zero_add]; exact h))
            have HBW := hide hbw
            clear hbw hac
            go_upto_region 16 with (go_at_call 82; (with_reducible refine (HC.out).mono ?_); rintro e w5 ⟨z, rfl, hz, hs5, ho5⟩)
            have hr6 := row_only hrow6.out ho5 (Nat.le_refl _)
            have hr8 := hide (row_only hrow8.out ho5 (Nat.le_refl _))
            have oo5 := hide (only_trans hOO.out ho5)
            have hz5 := ho5.size
            have hx5 := hide (HXi.out.only ho5 (.inl (by omega)))
            have S5 := hide hs5
            have hz5b : w0.heap.size + 1 ≤ w5.heap.size := by omega
            obtain ⟨hzz, t, ht, hta, htn⟩ := HAC.out z hz
            obtain ⟨zn, rfl⟩ := Int.eq_ofNat_of_zero_le hzz
            have HW9 := HW.out
            have hzt : zn < tb.length := by have := lt_of_get ht; rw [Int.toNat_natCast] at this; exact this
            have hbt := HOK.out t (List.mem_of_getElem? ht)
            obtain ⟨tn, htb⟩ : ∃ tn : Nat, t.b = (tn : Int) := ⟨t.b.toNat, by omega⟩
            have htl : tn < n := by omega
            have HW2 := hide (HW9.step hzz ht hta htb htn)
            rw [Int.toNat_natCast] at ht
            obtain ⟨b4, o4, t', hA4, hb4, ht', c0, c1, c2⟩ := HTB.out.at_ hzt
            obtain rfl := Option.some.inj (ht.symm.trans ht')
            subst hA4
            have hzi9 : (zn : Int) < (tb.length : Int) := by omega
            rw [htb] at c1 HW2
            clear hs5 ho5 hz ht ht' hta htn hbt HW9 y0 y1 hrow6 hrow8 hOO HXi HSi HOi HC HAC HOWi c0 c2
            go_upto_region 17 with (at_builtin; go_must (refine wp_app _ rfl _ _ 22 rfl (w0.heap.size + 1) 2 i0 (.int .i64 0) 1 8 Try.underlying22 hi0 hz0 hs0 hb0 rfl (by decide) _ _ _ rfl (hr6.alloc _) _ _ 1 1 [.int .i64 (zn : Int)] rfl rfl (rd_new _ _ _ _ (by first | rfl | simp)) (int_one _) (by omega) (by decide) (by first | omega | (simp <;> omega) | (simp; omega)) ?_); intro v6 w6 hown6 hgrow6 hat6)
            have oA := hr6.alloc (.cells #[.int .i64 (zn : Int)] 2)
            have oB := hr8.out.alloc (.cells #[.int .i64 (zn : Int)] 2)
            have hne8 := (ap_or HAP.out).1
            have O6 := hide (only_app (only_alloc oo5.out (.cells #[.int .i64 (zn : Int)] 2)) oA hgrow6 (by omega))
            have S6 := hide ((S5.out.alloc (.cells #[.int .i64 (zn : Int)] 2)).grown hgrow6 (fun g e => by have := (oA.lt g e).1; omega))
            have hr86 := hide (oB.kept hgrow6 hne8)
            have hl8 := hide fun g h => (oB.lt g h).2
            have hx6 : BoxN w6 w.heap.size #[.int .i64 n, .slice (some ⟨b4, o4, none⟩) tb.length c] 44 := by
              have h := hx5.out.alloc (.cells #[.int .i64 (zn : Int)] 2)
              exact (hgrow6.block _ h.lt (fun e => by have := (oA.lt _ e.symm).1; omega)).trans h
            obtain ⟨A7, c7, rfl, _⟩ := own_shape hown6
            have HX6 := hide hx6
            have HO66 := hide hown6
            have hl6 := hide fun g h => (hown6.lt g h).2
            have HAT6 := hide hat6
            have e0 := hx6.cell 0
            have e1 := hx6.cell 1
            have hbw6 : Below w.heap.size w w6 := HB1.out.trans (O6.out.below (B := w.heap.size) (by omega) hwl1)
            have c16 := (hbw6.cell (p := ⟨b4, o4 + zn * 3 + 1, none⟩) hb4).trans c1
            have hz6 := O6.out.size
            have hz6b : w0.heap.size + 1 ≤ w6.heap.size := by omega
            have hr8x := hr86.out
            clear oA oB hne8 hr6 hr8 oo5 hx5 S5 hown6 hgrow6 hat6 hx6 hbw6 HBW c1
            go_wp2_with (at_builtin; go_must (refine wp_app _ rfl _ _ 22 rfl (w0.heap.size + 1) 2 i0 (.int .i64 0) 1 8 Try.underlying22 hi0 hz0 hs0 hb0 rfl (by decide) _ _ _ rfl (hr8x.alloc _) _ _ 1 1 [.int .i64 (tn : Int)] rfl rfl (rd_new _ _ _ _ (by first | rfl | simp)) (int_one _) (by omega) (by decide) (by first | omega | (simp <;> omega) | (simp; omega)) ?_); intro v8 w8 hown8 hgrow8 hat8)
            have oC := hr8x.alloc (.cells #[.int .i64 (tn : Int)] 2)
            have oD := HO66.out.alloc (.cells #[.int .i64 (tn : Int)] 2)
            have ap6 : ∀ g, (Value.slice A7 (P.length + 1) c7).ownBlock = some g → (Value.slice A8 S.length c8).ownBlock ≠ some g := ap_keep HAP.out HAT6.out hl8.out
            have hne6 := (ap_or ap6).2
            have ap8 := ap_new HAP.out HAT6.out hl8.out hat8 (fun g e => by have := hl6.out g e; simp; omega)
            have O8 := only_app (only_alloc O6.out (.cells #[.int .i64 (tn : Int)] 2)) oC hgrow8 (by omega)
            have S8 := (S6.out.alloc (.cells #[.int .i64 (tn : Int)] 2)).grown hgrow8 (fun g e => by have := (oC.lt g e).1; omega)
            have hr68 := oD.kept hgrow8 hne6
            have hx8 : BoxN w8 w.heap.size #[.int .i64 n, .slice (some ⟨b4, o4, none⟩) tb.length c] 44 := by
              have h := HX6.out.alloc (.cells #[.int .i64 (tn : Int)] 2)
              exact (hgrow8.block _ h.lt (fun e => by have := (oC.lt _ e.symm).1; omega)).trans h
            obtain ⟨A9, c9, rfl, _⟩ := own_shape hown8
            have hlP : (P ++ [(zn : Int)]).length = P.length + 1 := by simp
            have hlS : (S ++ [(tn : Int)]).length = S.length + 1 := by simp
            go_roundg (k - 1)
            case measure => have := hg.out; omega
            case rel => exact ⟨k - 1, tn, A7, c7, A9, c9, P ++ [(zn : Int)], S ++ [(tn : Int)], by omega, rfl, by rw [hlP], rfl, by rw [hlS], by congr 1; omega, htl, by omega, HW2, by rw [hlP, List.map_append]; exact hr68, by rw [hlS, List.map_append]; exact hown8, by rw [hlP, hlS]; exact ap8, hx8, S8.more (by omega), O8⟩
    · obtain rfl : k = 0 := by omega
      go_wp2_with fail
      go_ret
      exact ⟨A6, c6, P, rfl, Rd.of_own HO6.out, by omega, ⟨x, hx, S, HW.out⟩, HB1.out.trans (HO.out.below (B := w.heap.size) (by omega) hwl1)⟩
end Go.Proofs.Ytlkccijlbeibjaa
