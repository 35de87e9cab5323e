/-
  Drawing: one of some numbers, and yes once in so many times.
  Drawn seals.
  Drawn words.
  Drawn signs and addresses.
  The parts of a text, in the reference.
-/
import Derived.Test.YtaajkmjilcamgaaGreatDoorQRides9
import Derived.Test.YtaajkmjilcamgaaGreatDoorQRides1
import Derived.Test.YtaajkmjilcamgaaGreatDoorQRides4
import Derived.Deep.DeepCutAuto
import Derived.Test.YtaajkmjilcamgaaGreatDoorQRides7
import Derived.Deep.RegionHeld3
namespace Go.Proofs.YtaajkmjilcamgaaGreatDoor
open Go.RowKit

theorem Only.cell' {lo hi : Nat} {w w' : World} (h : Only lo hi w w') {p : Addr} (h1 : p.block < w.heap.size) (h2 : p.block < lo ∨ hi ≤ p.block) : w'.cell? p = w.cell? p :=
  World.cell?_of_block (h.2.2.2.2 p.block h1 h2)
set_option maxRecDepth 100000 in
set_option maxHeartbeats 1000000 in
theorem one_any (b : Nat) (bs : List Int) (N n : Int) (w : World) (hbs : BsOk bs) (hN : N ≤ 1099511000000) (h : SrcAt b bs N w) :
    Calls Tryz.prog 63 #[.pointer (some ⟨b, 0, none⟩), .int .i64 n] w fun e w' => ∃ v, e = .returned (.bool v) ∧ SrcAt b bs (N + 2) w' ∧ Only b (b + 1) w w' := by
  have HC := hide (pick_any b bs N n w hbs hN h)
  clear h
  go_enter Tryz.func63, Tryz.ntmps63
  go_wp2_with (go_at_call 68; refine (HC.out).mono ?_; rintro e w1 ⟨z, rfl, _, hs1, ho1⟩)
  go_ret
  exact ⟨_, rfl, hs1, ho1⟩
set_option maxRecDepth 100000 in
set_option maxHeartbeats 1000000 in
theorem among_any (b : Nat) (bs : List Int) (N : Int) (g o c : Nat) (xs : List Int) (w : World) (hbs : BsOk bs) (hN : N ≤ 1099511000000) (h : SrcAt b bs N w) (hg : g ≠ b) (hgl : g < w.heap.size) (hx0 : 1 ≤ xs.length) (hx1 : xs.length ≤ 1000) (hr : ∀ j z, xs[j]? = some z → w.cell? ⟨g, o + j, none⟩ = some (.int .i64 z)) :
    Calls Tryz.prog 111 #[.pointer (some ⟨b, 0, none⟩), .slice (some ⟨g, o, none⟩) xs.length c] w fun e w' => ∃ z, e = .returned (.int .i64 z) ∧ z ∈ xs ∧ SrcAt b bs (N + 2) w' ∧ Only b (b + 1) w w' := by
  have HC := hide (pick_any b bs N (xs.length : Int) w hbs hN h)
  have HR := hide hr
  clear h hr
  go_enter Tryz.func111, Tryz.ntmps111
  go_wp2_with (go_at_call 68; refine (HC.out).mono ?_; rintro e w1 ⟨z, rfl, ⟨hz0, hz1, _⟩, hs1, ho1⟩; have hz9 := hz1 (by omega); obtain ⟨j, rfl⟩ := Int.eq_ofNat_of_zero_le hz0; have hj : j < xs.length := (by omega); have hej := List.getElem?_eq_getElem hj; have hcj := (ho1.cell' (p := ⟨g, o + j, none⟩) hgl (by dsimp only; omega)).trans (HR.out j _ hej); have HEJ := hide hej; clear hej)
  go_ret
  exact ⟨_, rfl, List.mem_of_getElem? HEJ.out, hs1, ho1⟩
end Go.Proofs.YtaajkmjilcamgaaGreatDoor
namespace Go.Proofs.YtaajkmjilcamgaaGreatDoor
open Go.RowKit

theorem grown_setC (w : World) (b j : Nat) (v : Value) : w.grownBy (w.setCell ⟨b, j, none⟩ v) (some b) :=
  ⟨rfl, rfl, rfl, by simp, fun k _ ho => heap_setCell_other w ⟨b, j, none⟩ _ v (fun e => ho (by rw [e]))⟩
theorem only_grown {lo hi : Nat} {w0 w w' : World} {row : Option Nat} (h : Only lo hi w0 w) (hg : w.grownBy w' row) (hr : ∀ g, row = some g → w0.heap.size ≤ g) : Only lo hi w0 w' :=
  ⟨hg.os.trans h.1, hg.tape.trans h.2.1, hg.output.trans h.2.2.1, Nat.le_trans h.size hg.size, fun i hi' ho' => (hg.block i (Nat.lt_of_lt_of_le hi' h.size) (fun e => by have := hr i e.symm; omega)).trans (h.2.2.2.2 i hi' ho')⟩
end Go.Proofs.YtaajkmjilcamgaaGreatDoor
namespace Go.Proofs.YtaajkmjilcamgaaGreatDoor
open Go.RowKit
set_option maxRecDepth 100000 in
set_option maxHeartbeats 1000000 in
theorem textS_any (b : Nat) (bs : List Int) (N : Int) (g o c : Nat) (xs : List ByteArray) (w : World) (hbs : BsOk bs) (hN : N ≤ 1099511000000) (h : SrcAt b bs N w) (hg : g ≠ b) (hgl : g < w.heap.size) (hx0 : 1 ≤ xs.length) (hx1 : xs.length ≤ 1000) (hr : ∀ j z, xs[j]? = some z → w.cell? ⟨g, o + j, none⟩ = some (.string z)) :
    Calls Tryz.prog 92 #[.pointer (some ⟨b, 0, none⟩), .slice (some ⟨g, o, none⟩) xs.length c] w fun e w' => ∃ z, e = .returned (.string z) ∧ z ∈ xs ∧ SrcAt b bs (N + 2) w' ∧ Only b (b + 1) w w' := by
  have HC := hide (pick_any b bs N (xs.length : Int) w hbs hN h)
  have HR := hide hr
  clear h hr
  go_enter Tryz.func92, Tryz.ntmps92
  go_wp2_with (go_at_call 68; refine (HC.out).mono ?_; rintro e w1 ⟨z, rfl, ⟨hz0, hz1, _⟩, hs1, ho1⟩; have hz9 := hz1 (by omega); obtain ⟨j, rfl⟩ := Int.eq_ofNat_of_zero_le hz0; have hj : j < xs.length := (by omega); have hej := List.getElem?_eq_getElem hj; have hcj := (ho1.cell' (p := ⟨g, o + j, none⟩) hgl (by dsimp only; omega)).trans (HR.out j _ hej); have HEJ := hide hej; clear hej)
  go_ret
  exact ⟨_, rfl, List.mem_of_getElem? HEJ.out, hs1, ho1⟩
end Go.Proofs.YtaajkmjilcamgaaGreatDoor
namespace Go.Proofs.YtaajkmjilcamgaaGreatDoor
open Go.RowKit
theorem row_belowS {w w' : World} {base : Nat} {e : TypeId} {s n : Nat} {v : Value} {xs : List Value} (h : w.ownsRow base e s v n xs) (k : Below w.heap.size w w') : w'.ownsRow base e s v n xs := by
  refine ⟨h.1, ?_⟩
  rcases h.2 with h0 | ⟨g, cap, cur, he, hb, hg, rest⟩
  · exact .inl h0
  · exact .inr ⟨g, cap, cur, he, hb, (k.block g (lt_of_block hg)).trans hg, rest⟩
theorem strs_one (xs : List ByteArray) : ∀ u ∈ xs.map Value.string, u.oneCell' = true := by
  intro u hu
  obtain ⟨s, _, rfl⟩ := List.mem_map.1 hu
  rfl
/-- The words that are drawn so far. -/
structure WdSt (b : Nat) (bs : List Int) (N : Int) (w wr : World) (gb cb : Nat) (ws : List ByteArray) : Prop where
  row : wr.ownsRow w.heap.size 9 1 (.slice (some ⟨gb, 0, none⟩) ws.length cb) ws.length (ws.map Value.string)
  src : SrcAt b bs N wr
  only : Only b (b + 1) w wr
  small : ∀ s ∈ ws, s.size ≤ 9
theorem WdSt.far {b : Nat} {bs : List Int} {N : Int} {w wr w' : World} {gb cb : Nat} {ws : List ByteArray} (h : WdSt b bs N w wr gb cb ws) (hbl : b < w.heap.size) (k : Below wr.heap.size wr w') : WdSt b bs N w w' gb cb ws :=
  ⟨row_belowS h.row k, h.src.below k h.src.lt, only_trans h.only (only_of_below k), h.small⟩
theorem WdSt.src2 {b : Nat} {bs : List Int} {N N' : Int} {w wr w' : World} {gb cb : Nat} {ws : List ByteArray} (h : WdSt b bs N w wr gb cb ws) (hbl : b < w.heap.size) (hs : SrcAt b bs N' w') (k : Only b (b + 1) wr w') : WdSt b bs N' w w' gb cb ws :=
  ⟨row_only h.row k (by omega), hs, only_trans h.only k, h.small⟩
theorem WdSt.more {b : Nat} {bs : List Int} {N N' : Int} {w wr : World} {gb cb : Nat} {ws : List ByteArray} (h : WdSt b bs N w wr gb cb ws) (hN : N ≤ N') : WdSt b bs N' w wr gb cb ws := ⟨h.row, h.src.more hN, h.only, h.small⟩
theorem WdSt.push {b : Nat} {bs : List Int} {N : Int} {w wr w' : World} {gb cb : Nat} {ws : List ByteArray} {s : ByteArray} {v : Value} (h : WdSt b bs N w wr gb cb ws) (hbl : b < w.heap.size) (hs : s.size ≤ 9)
    (ho : w'.ownsRow w.heap.size 9 1 v (ws.length + 1) (ws.map Value.string ++ [.string s])) (hg : wr.grownBy w' (Value.slice (some ⟨gb, 0, none⟩) ws.length cb).ownBlock) :
    ∃ g c, v = .slice (some ⟨g, 0, none⟩) (ws ++ [s]).length c ∧ WdSt b bs N w w' g c (ws ++ [s]) := by
  obtain ⟨A9, c9, rfl, _⟩ := own_shape ho
  obtain ⟨g9, rfl, _, _⟩ : ∃ g, A9 = some ⟨g, 0, none⟩ ∧ w.heap.size ≤ g ∧ g < w'.heap.size := by
    rcases own_block ho with ⟨_, h0, _⟩ | h0
    · omega
    · exact h0
  refine ⟨g9, c9, by rw [List.length_append]; rfl, ?_, h.src.grown hg (fun g e => by have := (h.row.lt g e).1; omega), only_app h.only h.row hg (Nat.le_refl _), ?_⟩
  · rw [List.length_append, List.map_append]; exact ho
  · intro t ht
    rcases List.mem_append.1 ht with ht | ht
    · exact h.small t ht
    · rw [List.mem_singleton] at ht; rw [ht]; exact hs
theorem amongLit_any (b : Nat) (bs : List Int) (N : Int) (xs : List Int) (w : World) (hbs : BsOk bs) (hN : N ≤ 1099511000000) (h : SrcAt b bs N w) (hx0 : 1 ≤ xs.length) (hx1 : xs.length ≤ 1000) :
    Calls Tryz.prog 111 #[.pointer (some ⟨b, 0, none⟩), .slice (some ⟨w.heap.size, 0, none⟩) xs.length xs.length] (w.alloc (.cells (xs.map (Value.int .i64)).toArray 2)) fun e w' => ∃ z, e = .returned (.int .i64 z) ∧ z ∈ xs ∧ SrcAt b bs (N + 2) w' ∧ Only b (b + 1) w w' := by
  have hbl := h.lt
  refine (among_any b bs N w.heap.size 0 xs.length xs _ hbs hN (h.alloc _) (by omega) (by simp) hx0 hx1 (fun j z hj => ?_)).mono ?_
  · rw [cell_of_row _ w.heap.size (0 + j) _ _ _ (heap_alloc_new w (.cells (xs.map (Value.int .i64)).toArray 2))]
    simp [hj]
  · rintro e w' ⟨z, he, hz, hs, ho⟩
    exact ⟨z, he, hz, hs, only_trans (only_of_below ((Below.refl _ _).alloc (Nat.le_refl _) _)) ho⟩
theorem textLit_any (b : Nat) (bs : List Int) (N : Int) (xs : List ByteArray) (w : World) (hbs : BsOk bs) (hN : N ≤ 1099511000000) (h : SrcAt b bs N w) (hx0 : 1 ≤ xs.length) (hx1 : xs.length ≤ 1000) :
    Calls Tryz.prog 92 #[.pointer (some ⟨b, 0, none⟩), .slice (some ⟨w.heap.size, 0, none⟩) xs.length xs.length] (w.alloc (.cells (xs.map Value.string).toArray 9)) fun e w' => ∃ z, e = .returned (.string z) ∧ z ∈ xs ∧ SrcAt b bs (N + 2) w' ∧ Only b (b + 1) w w' := by
  have hbl := h.lt
  refine (textS_any b bs N w.heap.size 0 xs.length xs _ hbs hN (h.alloc _) (by omega) (by simp) hx0 hx1 (fun j z hj => ?_)).mono ?_
  · rw [cell_of_row _ w.heap.size (0 + j) _ _ _ (heap_alloc_new w (.cells (xs.map Value.string).toArray 9))]
    simp [hj]
  · rintro e w' ⟨z, he, hz, hs, ho⟩
    exact ⟨z, he, hz, hs, only_trans (only_of_below ((Below.refl _ _).alloc (Nat.le_refl _) _)) ho⟩
end Go.Proofs.YtaajkmjilcamgaaGreatDoor
namespace Go.Proofs.YtaajkmjilcamgaaGreatDoor
open Go.RowKit
/-- Parts that are done, and the rest from f on, of which the bytes ahead of i hold no mark. -/
structure SplAt (c : UInt8) (l : List UInt8) (i f : Nat) (out : List (List UInt8)) : Prop where
  le : f ≤ i
  len : out.length ≤ i
  all : splitL c l = out ++ splitL c (l.drop f)
  no : c ∉ (l.drop f).take (i - f)
theorem SplAt.start (c : UInt8) (l : List UInt8) : SplAt c l 0 0 [] := ⟨Nat.le_refl _, Nat.le_refl _, by simp, by simp⟩
theorem SplAt.skip {c : UInt8} {l : List UInt8} {i f : Nat} {out : List (List UInt8)} (h : SplAt c l i f out) {b : UInt8} (hb : l[i]? = some b) (hne : b ≠ c) : SplAt c l (i + 1) f out := by
  refine ⟨Nat.le_succ_of_le h.le, Nat.le_succ_of_le h.len, h.all, ?_⟩
  have e : i + 1 - f = (i - f) + 1 := by have := h.le; omega
  have hg : (l.drop f)[i - f]? = some b := by rw [List.getElem?_drop, show f + (i - f) = i by have := h.le; omega, hb]
  rw [e, List.take_add_one, hg]
  intro hm
  rcases List.mem_append.1 hm with hm | hm
  · exact h.no hm
  · simp at hm; exact hne hm.symm
theorem SplAt.hit {c : UInt8} {l : List UInt8} {i f : Nat} {out : List (List UInt8)} (h : SplAt c l i f out) (hb : l[i]? = some c) : SplAt c l (i + 1) (i + 1) (out ++ [(l.drop f).take (i - f)]) := by
  have hil : i < l.length := by
    rcases Nat.lt_or_ge i l.length with h1 | h1
    · exact h1
    · rw [List.getElem?_eq_none h1] at hb; cases hb
  have e : l.drop f = (l.drop f).take (i - f) ++ c :: l.drop (i + 1) := by
    have h1 : (l.drop f).drop (i - f) = c :: l.drop (i + 1) := by
      rw [List.drop_drop, show f + (i - f) = i by have := h.le; omega, List.drop_eq_getElem_cons hil]
      rw [List.getElem?_eq_getElem hil] at hb
      rw [Option.some.inj hb]
    conv => lhs; rw [← List.take_append_drop (i - f) (l.drop f), h1]
  refine ⟨Nat.le_refl _, by rw [List.length_append]; have := h.len; simp; omega, ?_, by simp⟩
  rw [h.all, e, splitL_app _ h.no]
  conv => rhs; rw [← e]
  simp
theorem SplAt.last {c : UInt8} {l : List UInt8} {i f : Nat} {out : List (List UInt8)} (h : SplAt c l i f out) (hi : l.length ≤ i) : splitL c l = out ++ [l.drop f] := by
  have hn : c ∉ l.drop f := by
    have := h.no
    rwa [List.take_of_length_le (by rw [List.length_drop]; omega)] at this
  rw [h.all, splitL_none hn]
def mkB (l : List UInt8) : ByteArray := ⟨l.toArray⟩
theorem cut_mk (s : ByteArray) (f i : Nat) : s.extract f i = mkB ((s.data.toList.drop f).take (i - f)) := Lib.extract_eq s f i
theorem cut_end (s : ByteArray) (f : Nat) : s.extract f s.size = mkB (s.data.toList.drop f) := by
  rw [cut_mk, List.take_of_length_le]
  rw [List.length_drop, ← Lib.size_eq]
  exact Nat.le_refl _
theorem chr_get {s : ByteArray} {i : Nat} (h : i < s.size) : ∃ b : UInt8, s.data.toList[i]? = some b ∧ chr s i = ((b.toNat : Nat) : Int) := by
  refine ⟨s[i]'h, ?_, chr_at h⟩
  have hl : i < s.data.toList.length := by rw [← Lib.size_eq]; exact h
  rw [List.getElem?_eq_getElem hl]
  rfl
set_option maxRecDepth 100000 in
set_option maxHeartbeats 4000000 in
theorem l01Split_any (s : ByteArray) (c : UInt8) (w : World) (hs : s.size ≤ 100000) :
    Calls Tryz.prog 65 #[.string s, .int .u8 ((c.toNat : Nat) : Int)] w fun e w' => ∃ (A : Option Addr) (k : Nat), e = .returned (.slice A (splitW c s).length k) ∧ RdS w' w'.heap.size A (splitW c s) ∧ Below w.heap.size w w' := by
  obtain ⟨i0, hi0, hz0, hs0, hb0⟩ := info_parts string_inf
  have ho1 := own_new0 w w.heap.size 9 1 (Nat.le_refl _)
  have hB1 : Below w.heap.size w (w.alloc (.cells #[] 9)) := (Below.refl _ _).alloc (Nat.le_refl _) _
  have ka : ∀ (i : Nat) (h : i < s.size), (((s[i]'h).toNat : Nat) : Int) = chr s i := fun i h => chr_of h
  have hsl : s.data.toList.length = s.size := (Lib.size_eq s).symm
  have HSL := hide hsl
  have HCG := hide fun (i : Nat) (h : i < s.size) => chr_get h
  have HC := hide c.toNat_lt
  obtain ⟨cn, hcn⟩ : ∃ cn, cn = c.toNat := ⟨_, rfl⟩
  rw [← hcn] at HC ⊢
  have HCN := hide hcn
  clear hsl hcn
  go_enter Tryz.func65, Tryz.ntmps65
  go_wp2_with fail
  go_loopg [5, 6, 7] s.size (fun g sv fv iv wr => ∃ (i f n : Nat) (out : List (List UInt8)), i ≤ s.size ∧ f ≤ i ∧ Hid (g = s.size - i) ∧ fv = .int .i64 f ∧ iv = .int .i64 i ∧ n ≤ i ∧ Hid (n = out.length) ∧ Hid (SplAt c s.data.toList i f out) ∧ Hid (wr.ownsRow w.heap.size 9 1 sv n ((out.map mkB).map Value.string)) ∧ Hid (Below w.heap.size w wr))
  case atStart => exact ⟨0, 0, 0, [], by omega, by omega, by simp [Hid], rfl, rfl, by omega, rfl, SplAt.start _ _, hide (by simpa using ho1), hide hB1⟩
  case round =>
    obtain ⟨i, f, n, out, hi, hf, hg, rfl, rfl, hn, HN, HS, HO, HB⟩ := hrel
    clear ho1 hB1
    have zr := HB.out.size
    have hf0 : (0 : Int) ≤ (f : Int) := by omega
    have hfi : (f : Int) ≤ (i : Int) := by omega
    by_cases hit : i < s.size
    case neg =>
      obtain rfl : i = s.size := by omega
      have HX := hide (cut_end s f)
      have HL := hide (HS.out.last (Nat.le_of_eq HSL.out))
      go_wp2_with (at_builtin; refine Hid.out ?_)
      refine hide ?_
      generalize s.extract f s.size = sx at *
      have hoF := HO.out.alloc (.cells #[.string sx] 9)
      refine wp_app _ rfl _ _ 65 rfl w.heap.size 9 i0 (.string ByteArray.empty) 1 16 Tryz.underlying65 hi0 hz0 hs0 hb0 rfl (by decide) u5 n ((out.map mkB).map Value.string) rfl hoF _ _ 1 1 [.string sx] rfl rfl (rd_new _ _ _ _ ?c1) (str_one _) ?c2 (by decide) ?c3 ?_
      case c1 => simp
      case c2 => omega
      case c3 => simp; omega
      intro v9 w9 hown9 hgrow9 hat9
      have HB9 := hide (app_below (HB.out.alloc zr _) hoF hgrow9 (Nat.le_refl _) (by simp; omega))
      have ho9 : w9.ownsRow w.heap.size 9 1 v9 (splitW c s).length ((splitW c s).map Value.string) := by
        have e : splitW c s = out.map mkB ++ [sx] := by
          show (splitL c s.data.toList).map mkB = _
          rw [HL.out, HX.out, List.map_append]; rfl
        rw [e, List.length_append, List.length_map, ← HN.out, List.map_append]
        exact hown9
      obtain ⟨A9, c9, rfl, _⟩ := own_shape ho9
      have HO9 := hide ho9
      clear hown9 hgrow9 hat9 hoF HO HB ho9
      go_wp2_with fail
      go_ret
      exact ⟨A9, c9, rfl, RdS.of_own HO9.out, HB9.out⟩
    obtain ⟨b, hb, hcb⟩ := HCG.out i hit
    have hii : (i : Int) < (s.size : Int) := by omega
    have hi0' : (0 : Int) ≤ (i : Int) := by omega
    by_cases hbc : b = c
    case neg =>
      have HS2 := hide (HS.out.skip hb hbc)
      have hB : (chr s i == (cn : Int)) = false := by
        rw [beq_eq_false_iff_ne, hcb, HCN.out]
        intro e
        exact hbc (UInt8.toNat_inj.1 (by omega))
      have HBC := hide hbc
      clear hb hcb hbc
      go_wp2_with fail
      go_roundg (s.size - (i + 1))
      case measure => have := hg.out; omega
      case rel => exact ⟨i + 1, f, n, out, by omega, by omega, rfl, rfl, by go_num, by omega, HN, HS2, HO, HB⟩
    · subst hbc
      have HS2 := hide (HS.out.hit hb)
      have hB : (chr s i == (cn : Int)) = true := by rw [beq_iff_eq, hcb, HCN.out]
      have HX := hide (cut_mk s f i)
      have hfs : (i : Int) ≤ (s.size : Int) := by omega
      clear hb hcb
      go_wp2_with (at_builtin; refine Hid.out ?_)
      refine hide ?_
      generalize s.extract f i = sx at *
      have hoF := HO.out.alloc (.cells #[.string sx] 9)
      refine wp_app _ rfl _ _ 65 rfl w.heap.size 9 i0 (.string ByteArray.empty) 1 16 Tryz.underlying65 hi0 hz0 hs0 hb0 rfl (by decide) u5 n ((out.map mkB).map Value.string) rfl hoF _ _ 1 1 [.string sx] rfl rfl (rd_new _ _ _ _ ?c1) (str_one _) ?c2 (by decide) ?c3 ?_
      case c1 => simp
      case c2 => omega
      case c3 => simp; omega
      intro v9 w9 hown9 hgrow9 hat9
      have HB9 := hide (app_below (HB.out.alloc zr _) hoF hgrow9 (Nat.le_refl _) (by simp; omega))
      have HO9 := hide (show w9.ownsRow w.heap.size 9 1 v9 (n + 1) (((out ++ [(s.data.toList.drop f).take (i - f)]).map mkB).map Value.string) by
        rw [List.map_append, List.map_append]
        rw [HX.out] at hown9
        exact hown9)
      have HN9 := hide (show n + 1 = (out ++ [(s.data.toList.drop f).take (i - f)]).length by rw [List.length_append, ← HN.out]; rfl)
      clear hown9 hgrow9 hat9 hoF HO HB
      go_wp2_with fail
      go_roundg (s.size - (i + 1))
      case measure => have := hg.out; omega
      case rel => exact ⟨i + 1, i + 1, n + 1, _, by omega, by omega, rfl, by go_num, by go_num, by omega, HN9, HS2, HO9, HB9⟩
end Go.Proofs.YtaajkmjilcamgaaGreatDoor
