/-
  Drawing: one of some numbers, and yes once in so many times.
  Drawn seals.
  Rows of bytes. Plain lemmas.
  Drawn words.
  Drawn signs and addresses.
-/
import Derived.Test.YtaajkmjilcamgaaDoorQCodes55
import Derived.Test.YtaajkmjilcamgaaDoorQCodes50
import Derived.Test.YtaajkmjilcamgaaDoorQCodes53
import Derived.Deep.DeepCutAuto
import Derived.Laws.IdiomStrings
namespace Go.Proofs.YtaajkmjilcamgaaDoor
open Go.RowKit

theorem Only.cell' {lo hi : Nat} {w w' : World} (h : Only lo hi w w') {p : Addr} (h1 : p.block < w.heap.size) (h2 : p.block < lo ∨ hi ≤ p.block) : w'.cell? p = w.cell? p :=
  World.cell?_of_block (h.2.2.2.2 p.block h1 h2)
set_option maxRecDepth 100000 in
set_option maxHeartbeats 1000000 in
theorem one_any (b : Nat) (bs : List Int) (N n : Int) (w : World) (hbs : BsOk bs) (hN : N ≤ 1099511000000) (h : SrcAt b bs N w) :
    Calls Tryd.prog 33 #[.pointer (some ⟨b, 0, none⟩), .int .i64 n] w fun e w' => ∃ v, e = .returned (.bool v) ∧ SrcAt b bs (N + 2) w' ∧ Only b (b + 1) w w' := by
  have HC := hide (pick_any b bs N n w hbs hN h)
  clear h
  go_enter Tryd.func33, Tryd.ntmps33
  go_wp2_with (go_at_call 35; refine (HC.out).mono ?_; rintro e w1 ⟨z, rfl, _, hs1, ho1⟩)
  go_ret
  exact ⟨_, rfl, hs1, ho1⟩
set_option maxRecDepth 100000 in
set_option maxHeartbeats 1000000 in
theorem among_any (b : Nat) (bs : List Int) (N : Int) (g o c : Nat) (xs : List Int) (w : World) (hbs : BsOk bs) (hN : N ≤ 1099511000000) (h : SrcAt b bs N w) (hg : g ≠ b) (hgl : g < w.heap.size) (hx0 : 1 ≤ xs.length) (hx1 : xs.length ≤ 1000) (hr : ∀ j z, xs[j]? = some z → w.cell? ⟨g, o + j, none⟩ = some (.int .i64 z)) :
    Calls Tryd.prog 34 #[.pointer (some ⟨b, 0, none⟩), .slice (some ⟨g, o, none⟩) xs.length c] w fun e w' => ∃ z, e = .returned (.int .i64 z) ∧ z ∈ xs ∧ SrcAt b bs (N + 2) w' ∧ Only b (b + 1) w w' := by
  have HC := hide (pick_any b bs N (xs.length : Int) w hbs hN h)
  have HR := hide hr
  clear h hr
  go_enter Tryd.func34, Tryd.ntmps34
  go_wp2_with (go_at_call 35; refine (HC.out).mono ?_; rintro e w1 ⟨z, rfl, ⟨hz0, hz1, _⟩, hs1, ho1⟩; have hz9 := hz1 (by omega); obtain ⟨j, rfl⟩ := Int.eq_ofNat_of_zero_le hz0; have hj : j < xs.length := (by omega); have hej := List.getElem?_eq_getElem hj; have hcj := (ho1.cell' (p := ⟨g, o + j, none⟩) hgl (by dsimp only; omega)).trans (HR.out j _ hej); have HEJ := hide hej; clear hej)
  go_ret
  exact ⟨_, rfl, List.mem_of_getElem? HEJ.out, hs1, ho1⟩
end Go.Proofs.YtaajkmjilcamgaaDoor
namespace Go.Proofs.YtaajkmjilcamgaaDoor
open Go.RowKit

theorem grown_setC (w : World) (b j : Nat) (v : Value) : w.grownBy (w.setCell ⟨b, j, none⟩ v) (some b) :=
  ⟨rfl, rfl, rfl, by simp, fun k _ ho => heap_setCell_other w ⟨b, j, none⟩ _ v (fun e => ho (by rw [e]))⟩
theorem only_grown {lo hi : Nat} {w0 w w' : World} {row : Option Nat} (h : Only lo hi w0 w) (hg : w.grownBy w' row) (hr : ∀ g, row = some g → w0.heap.size ≤ g) : Only lo hi w0 w' :=
  ⟨hg.os.trans h.1, hg.tape.trans h.2.1, hg.output.trans h.2.2.1, Nat.le_trans h.size hg.size, fun i hi' ho' => (hg.block i (Nat.lt_of_lt_of_le hi' h.size) (fun e => by have := hr i e.symm; omega)).trans (h.2.2.2.2 i hi' ho')⟩
end Go.Proofs.YtaajkmjilcamgaaDoor
namespace Go.Proofs.YtaajkmjilcamgaaDoor
open Go.RowKit
/-- Bytes as cells. -/
def bcs (l : List UInt8) : List Value := l.map fun x => Value.int .u8 (x.toNat : Int)
theorem bcs_snoc (l : List UInt8) {x : Nat} (h : x ≤ 255) : bcs l ++ [.int .u8 (x : Int)] = bcs (l ++ [UInt8.ofNat x]) := by
  unfold bcs
  rw [List.map_append, List.map_cons, List.map_nil, UInt8.toNat_ofNat', Nat.mod_eq_of_lt (by omega)]
theorem byte_one (z : Int) : ∀ u ∈ [Value.int .u8 z], u.oneCell' = true := by intro u hu; simp at hu; subst hu; rfl
theorem uint8_info : (Tryd.prog.info? 5).map (fun i => (i.zero, i.size, i.bytes)) = some (some (.int .u8 0), 1, 1) := by kernel_rfl
theorem bcs_cons (l : List UInt8) {x : Nat} (h : x ≤ 255) : .int .u8 (x : Int) :: bcs l = bcs (UInt8.ofNat x :: l) := by
  unfold bcs
  rw [List.map_cons, UInt8.toNat_ofNat', Nat.mod_eq_of_lt (by omega)]
theorem bcs_one (l : List UInt8) : ∀ u ∈ bcs l, u.oneCell' = true := by
  intro u hu
  obtain ⟨x, _, rfl⟩ := List.mem_map.1 hu
  rfl
theorem bcs_len (l : List UInt8) : (bcs l).length = l.length := by simp [bcs]
end Go.Proofs.YtaajkmjilcamgaaDoor
namespace Go.Proofs.YtaajkmjilcamgaaDoor
open Go.RowKit
set_option maxRecDepth 100000 in
set_option maxHeartbeats 1000000 in
theorem textS_any (b : Nat) (bs : List Int) (N : Int) (g o c : Nat) (xs : List ByteArray) (w : World) (hbs : BsOk bs) (hN : N ≤ 1099511000000) (h : SrcAt b bs N w) (hg : g ≠ b) (hgl : g < w.heap.size) (hx0 : 1 ≤ xs.length) (hx1 : xs.length ≤ 1000) (hr : ∀ j z, xs[j]? = some z → w.cell? ⟨g, o + j, none⟩ = some (.string z)) :
    Calls Tryd.prog 51 #[.pointer (some ⟨b, 0, none⟩), .slice (some ⟨g, o, none⟩) xs.length c] w fun e w' => ∃ z, e = .returned (.string z) ∧ z ∈ xs ∧ SrcAt b bs (N + 2) w' ∧ Only b (b + 1) w w' := by
  have HC := hide (pick_any b bs N (xs.length : Int) w hbs hN h)
  have HR := hide hr
  clear h hr
  go_enter Tryd.func51, Tryd.ntmps51
  go_wp2_with (go_at_call 35; refine (HC.out).mono ?_; rintro e w1 ⟨z, rfl, ⟨hz0, hz1, _⟩, hs1, ho1⟩; have hz9 := hz1 (by omega); obtain ⟨j, rfl⟩ := Int.eq_ofNat_of_zero_le hz0; have hj : j < xs.length := (by omega); have hej := List.getElem?_eq_getElem hj; have hcj := (ho1.cell' (p := ⟨g, o + j, none⟩) hgl (by dsimp only; omega)).trans (HR.out j _ hej); have HEJ := hide hej; clear hej)
  go_ret
  exact ⟨_, rfl, List.mem_of_getElem? HEJ.out, hs1, ho1⟩
set_option maxRecDepth 100000 in
set_option maxHeartbeats 4000000 in
theorem drawWord_any (b : Nat) (bs : List Int) (N signs : Int) (rn : Nat) (w : World) (hbs : BsOk bs) (hN : N ≤ 1099510000000) (hsg : 1 ≤ signs ∧ signs ≤ 100) (hrn : rn ≤ 10) (h : SrcAt b bs N w) :
    Calls Tryd.prog 50 #[.pointer (some ⟨b, 0, none⟩), .int .i64 signs, .int .i64 (rn : Int)] w fun e w' => ∃ s, e = .returned (.string s) ∧ s.size = rn ∧ SrcAt b bs (N + 20) w' ∧ Only b (b + 1) w w' := by
  obtain ⟨i0, hi0, hz0, hs0, hb0⟩ := info_parts uint8_info
  have hbl := h.lt
  have HP := hide fun M n W (hM : M ≤ 1099511000000) (hW : SrcAt b bs M W) => pick_any b bs M n W hbs hM hW
  have h1 := hide (h.alloc (.cells #[] 5))
  have ho1 := hide (own_new0 w w.heap.size 5 1 (Nat.le_refl _))
  have hB1 : Hid (Only b (b + 1) w (w.alloc (.cells #[] 5))) := hide (only_of_below ((Below.refl _ _).alloc (Nat.le_refl _) _))
  obtain ⟨hsg1, hsg2⟩ := hsg
  clear h
  go_enter Tryd.func50, Tryd.ntmps50
  go_wp2_with fail
  go_loopg [7, 8] rn (fun g s i wr => ∃ (k : Nat) (l : List UInt8) (gb cb : Nat), g = rn - k ∧ k ≤ rn ∧ i = .int .i64 k ∧ Hid (l.length = k) ∧ s = .slice (some ⟨gb, 0, none⟩) k cb ∧ Hid (wr.ownsRow w.heap.size 5 1 (.slice (some ⟨gb, 0, none⟩) k cb) k (bcs l)) ∧ Hid (SrcAt b bs (N + 2 * (k : Int)) wr) ∧ Hid (Only b (b + 1) w wr))
  case atStart => exact ⟨0, [], w.heap.size, 0, by omega, by omega, rfl, hide rfl, rfl, hide (by simpa [bcs] using ho1.out), hide (h1.out.more (by omega)), hB1⟩
  case round =>
    obtain ⟨k, l, gb, cb, hg, hk, rfl, HL, rfl, HO, HS, HW⟩ := hrel
    have HG := hide hg
    clear h1 ho1 hB1 hg
    by_cases hlt : k < rn
    · have hkn : (k : Int) < (rn : Int) := by omega
      have hzw := HW.out.size
      have HC := hide (HP.out (N + 2 * (k : Int)) signs wr (by omega) HS.out)
      go_wp2_with (first | (go_at_call 35; (with_reducible refine (HC.out).mono ?_); rintro e w2 ⟨y, rfl, ⟨hy0, hy1', _⟩, hs2, ho2⟩; have hy1 := hy1' (by omega); have hw8 : IntKind.u8.wrap (97 + y) = 97 + y := (by simp [IntKind.wrap, IntKind.bits, IntKind.signed]; omega); have HS2 := hide hs2; have HO2 := hide ho2; clear hs2 ho2 hy1') | (at_builtin; refine Hid.out ?_))
      refine hide ?_
      obtain ⟨yn, rfl⟩ := Int.eq_ofNat_of_zero_le hy0
      have hr2 := row_only HO.out HO2.out (by omega)
      have hz2 := HO2.out.size
      refine wp_app _ rfl _ _ 22 rfl w.heap.size 5 i0 (.int .u8 0) 1 1 Tryd.underlying22 hi0 hz0 hs0 hb0 rfl (by decide) (.slice (some ⟨gb, 0, none⟩) k cb) k _ rfl (hr2.alloc _) _ _ 1 1 [.int .u8 (97 + (yn : Int))] rfl rfl (rd_new _ _ _ _ ?c1) (byte_one _) ?c2 (by decide) ?c3 ?_
      case c1 => simp
      case c2 => omega
      case c3 => simp; omega
      intro v4 w4 hown4 hgrow4 hat4
      have oA := hr2.alloc (.cells #[.int .u8 (97 + (yn : Int))] 5)
      have o4 := hide (only_app (only_alloc (only_trans HW.out HO2.out) (.cells #[.int .u8 (97 + (yn : Int))] 5)) oA hgrow4 (Nat.le_refl _))
      have s4 := hide ((HS2.out.alloc (.cells #[.int .u8 (97 + (yn : Int))] 5)).grown hgrow4 (fun g e => by have := (oA.lt g e).1; omega))
      have h4 : w4.ownsRow w.heap.size 5 1 v4 (k + 1) (bcs (l ++ [UInt8.ofNat (97 + yn)])) := by
        rw [← bcs_snoc l (show 97 + yn ≤ 255 by omega)]
        exact hown4
      obtain ⟨A9, c9, rfl, _⟩ := own_shape h4
      obtain ⟨g9, rfl, _, _⟩ : ∃ g, A9 = some ⟨g, 0, none⟩ ∧ w.heap.size ≤ g ∧ g < w4.heap.size := by
        rcases own_block h4 with ⟨_, h0, _⟩ | h0
        · omega
        · exact h0
      have HO4 := hide h4
      clear hown4 hgrow4 hat4 h4 oA hr2 hw8
      go_wp2_with fail
      go_roundg (rn - (k + 1))
      case measure => have := HG.out; omega
      case rel => exact ⟨k + 1, l ++ [UInt8.ofNat (97 + yn)], g9, c9, rfl, by omega, by go_num, hide (by rw [List.length_append, HL.out]; rfl), rfl, HO4, hide (s4.out.more (by omega)), o4⟩
    · obtain rfl : k = rn := by omega
      have hcv := run_convert_bytes_back (P := Tryd.prog) wr 22 9 5 ⟨gb, 0, none⟩ cb l Tryd.underlying22 Tryd.underlying5 Tryd.underlying9 (fun j hj => HO.out.cells (g := gb) rfl j _ (by unfold bcs; rw [List.getElem?_map, List.getElem?_eq_getElem hj]; rfl))
      rw [HL.out] at hcv
      go_wp2_with fail
      go_ret
      exact ⟨_, rfl, HL.out, HS.out.more (by omega), HW.out⟩
end Go.Proofs.YtaajkmjilcamgaaDoor
namespace Go.Proofs.YtaajkmjilcamgaaDoor
open Go.RowKit
theorem row_belowS {w w' : World} {base : Nat} {e : TypeId} {s n : Nat} {v : Value} {xs : List Value} (h : w.ownsRow base e s v n xs) (k : Below w.heap.size w w') : w'.ownsRow base e s v n xs := by
  refine ⟨h.1, ?_⟩
  rcases h.2 with h0 | ⟨g, cap, cur, he, hb, hg, rest⟩
  · exact .inl h0
  · exact .inr ⟨g, cap, cur, he, hb, (k.block g (lt_of_block hg)).trans hg, rest⟩
theorem strs_one (xs : List ByteArray) : ∀ u ∈ xs.map Value.string, u.oneCell' = true := by
  intro u hu
  obtain ⟨s, _, rfl⟩ := List.mem_map.1 hu
  rfl
/-- The words that are drawn so far. -/
structure WdSt (b : Nat) (bs : List Int) (N : Int) (w wr : World) (gb cb : Nat) (ws : List ByteArray) : Prop where
  row : wr.ownsRow w.heap.size 9 1 (.slice (some ⟨gb, 0, none⟩) ws.length cb) ws.length (ws.map Value.string)
  src : SrcAt b bs N wr
  only : Only b (b + 1) w wr
  small : ∀ s ∈ ws, s.size ≤ 9
theorem WdSt.far {b : Nat} {bs : List Int} {N : Int} {w wr w' : World} {gb cb : Nat} {ws : List ByteArray} (h : WdSt b bs N w wr gb cb ws) (hbl : b < w.heap.size) (k : Below wr.heap.size wr w') : WdSt b bs N w w' gb cb ws :=
  ⟨row_belowS h.row k, h.src.below k h.src.lt, only_trans h.only (only_of_below k), h.small⟩
theorem WdSt.src2 {b : Nat} {bs : List Int} {N N' : Int} {w wr w' : World} {gb cb : Nat} {ws : List ByteArray} (h : WdSt b bs N w wr gb cb ws) (hbl : b < w.heap.size) (hs : SrcAt b bs N' w') (k : Only b (b + 1) wr w') : WdSt b bs N' w w' gb cb ws :=
  ⟨row_only h.row k (by omega), hs, only_trans h.only k, h.small⟩
theorem WdSt.more {b : Nat} {bs : List Int} {N N' : Int} {w wr : World} {gb cb : Nat} {ws : List ByteArray} (h : WdSt b bs N w wr gb cb ws) (hN : N ≤ N') : WdSt b bs N' w wr gb cb ws := ⟨h.row, h.src.more hN, h.only, h.small⟩
theorem WdSt.push {b : Nat} {bs : List Int} {N : Int} {w wr w' : World} {gb cb : Nat} {ws : List ByteArray} {s : ByteArray} {v : Value} (h : WdSt b bs N w wr gb cb ws) (hbl : b < w.heap.size) (hs : s.size ≤ 9)
    (ho : w'.ownsRow w.heap.size 9 1 v (ws.length + 1) (ws.map Value.string ++ [.string s])) (hg : wr.grownBy w' (Value.slice (some ⟨gb, 0, none⟩) ws.length cb).ownBlock) :
    ∃ g c, v = .slice (some ⟨g, 0, none⟩) (ws ++ [s]).length c ∧ WdSt b bs N w w' g c (ws ++ [s]) := by
  obtain ⟨A9, c9, rfl, _⟩ := own_shape ho
  obtain ⟨g9, rfl, _, _⟩ : ∃ g, A9 = some ⟨g, 0, none⟩ ∧ w.heap.size ≤ g ∧ g < w'.heap.size := by
    rcases own_block ho with ⟨_, h0, _⟩ | h0
    · omega
    · exact h0
  refine ⟨g9, c9, by rw [List.length_append]; rfl, ?_, h.src.grown hg (fun g e => by have := (h.row.lt g e).1; omega), only_app h.only h.row hg (Nat.le_refl _), ?_⟩
  · rw [List.length_append, List.map_append]; exact ho
  · intro t ht
    rcases List.mem_append.1 ht with ht | ht
    · exact h.small t ht
    · rw [List.mem_singleton] at ht; rw [ht]; exact hs
theorem amongLit_any (b : Nat) (bs : List Int) (N : Int) (xs : List Int) (w : World) (hbs : BsOk bs) (hN : N ≤ 1099511000000) (h : SrcAt b bs N w) (hx0 : 1 ≤ xs.length) (hx1 : xs.length ≤ 1000) :
    Calls Tryd.prog 34 #[.pointer (some ⟨b, 0, none⟩), .slice (some ⟨w.heap.size, 0, none⟩) xs.length xs.length] (w.alloc (.cells (xs.map (Value.int .i64)).toArray 2)) fun e w' => ∃ z, e = .returned (.int .i64 z) ∧ z ∈ xs ∧ SrcAt b bs (N + 2) w' ∧ Only b (b + 1) w w' := by
  have hbl := h.lt
  refine (among_any b bs N w.heap.size 0 xs.length xs _ hbs hN (h.alloc _) (by omega) (by simp) hx0 hx1 (fun j z hj => ?_)).mono ?_
  · rw [cell_of_row _ w.heap.size (0 + j) _ _ _ (heap_alloc_new w (.cells (xs.map (Value.int .i64)).toArray 2))]
    simp [hj]
  · rintro e w' ⟨z, he, hz, hs, ho⟩
    exact ⟨z, he, hz, hs, only_trans (only_of_below ((Below.refl _ _).alloc (Nat.le_refl _) _)) ho⟩
theorem textLit_any (b : Nat) (bs : List Int) (N : Int) (xs : List ByteArray) (w : World) (hbs : BsOk bs) (hN : N ≤ 1099511000000) (h : SrcAt b bs N w) (hx0 : 1 ≤ xs.length) (hx1 : xs.length ≤ 1000) :
    Calls Tryd.prog 51 #[.pointer (some ⟨b, 0, none⟩), .slice (some ⟨w.heap.size, 0, none⟩) xs.length xs.length] (w.alloc (.cells (xs.map Value.string).toArray 9)) fun e w' => ∃ z, e = .returned (.string z) ∧ z ∈ xs ∧ SrcAt b bs (N + 2) w' ∧ Only b (b + 1) w w' := by
  have hbl := h.lt
  refine (textS_any b bs N w.heap.size 0 xs.length xs _ hbs hN (h.alloc _) (by omega) (by simp) hx0 hx1 (fun j z hj => ?_)).mono ?_
  · rw [cell_of_row _ w.heap.size (0 + j) _ _ _ (heap_alloc_new w (.cells (xs.map Value.string).toArray 9))]
    simp [hj]
  · rintro e w' ⟨z, he, hz, hs, ho⟩
    exact ⟨z, he, hz, hs, only_trans (only_of_below ((Below.refl _ _).alloc (Nat.le_refl _) _)) ho⟩
set_option maxRecDepth 100000 in
set_option maxHeartbeats 8000000 in
theorem draw05_any (b : Nat) (bs : List Int) (N : Int) (w : World) (hbs : BsOk bs) (hN : N ≤ 1099509000000) (h : SrcAt b bs N w) :
    Calls Tryd.prog 32 #[.pointer (some ⟨b, 0, none⟩)] w fun e w' => ∃ (sg : Int) (gb cb : Nat) (ws : List ByteArray), e = .returned (.tuple #[.int .i64 sg, .slice (some ⟨gb, 0, none⟩) ws.length cb]) ∧ (-9223372036854775808 ≤ sg ∧ sg ≤ 9223372036854775807) ∧ ws.length ≤ 50 ∧ WdSt b bs (N + 1000) w w' gb cb ws := by
  obtain ⟨i0, hi0, hz0, hs0, hb0⟩ := info_parts string_inf
  have hbl := h.lt
  have HP := hide fun M n W (hM : M ≤ 1099511000000) (hW : SrcAt b bs M W) => pick_any b bs M n W hbs hM hW
  have HO1 := hide fun M n W (hM : M ≤ 1099511000000) (hW : SrcAt b bs M W) => one_any b bs M n W hbs hM hW
  have HAM := hide fun M g o c xs W (hM : M ≤ 1099511000000) (hW : SrcAt b bs M W) => among_any b bs M g o c xs W hbs hM hW
  have HTX := hide fun M g o c xs W (hM : M ≤ 1099511000000) (hW : SrcAt b bs M W) => textS_any b bs M g o c xs W hbs hM hW
  have HDW := hide fun M sg rn W (hM : M ≤ 1099510000000) hsg hrn (hW : SrcAt b bs M W) => drawWord_any b bs M sg rn W hbs hM hsg hrn hW
  have h1 := hide h
  clear h
  go_enter Tryd.func32, Tryd.ntmps32
  go_upto_region 2 with (go_at_call 35; (with_reducible refine (HP.out N 3 _ (by omega) h1.out).mono ?_); rintro e w1 ⟨z1, rfl, ⟨hz1, hz1', _⟩, hs1, ho1⟩)
  have hz1' := hz1' (by omega)
  have HS1 := hide hs1
  have HQ1 := hide ho1
  clear hs1 ho1
  go_upto_region 3 with (go_at_call 35; (with_reducible refine (HP.out (N + 2) 6 _ (by omega) HS1.out).mono ?_); rintro e w2 ⟨z2, rfl, ⟨hz2, hz2', _⟩, hs2, ho2⟩)
  have hz2' := hz2' (by omega)
  have HQ2 := hide (only_trans HQ1.out ho2)
  have hw2 := HQ2.out.size
  have HW2 := hide (show WdSt b bs (N + 2 + 2) w (w2.alloc (.cells #[] 9)) w2.heap.size 0 [] from
    ⟨own_new0 w2 w.heap.size 9 1 hw2, hs2.alloc _, only_alloc HQ2.out _, fun s hs => by cases hs⟩)
  clear hs2 ho2 HS1 HQ1
  go_upto_region 4 with fail
  generalize hgw : w2.alloc (.cells #[] 9) = w3 at *
  have hgb : w2.heap.size < w3.heap.size := by rw [← hgw]; simp
  clear hgw
  generalize w2.heap.size = gb at *
  go_upto_region 5 with (go_at_call 35; (with_reducible refine (HP.out (N + 2 + 2) 9 _ (by omega) HW2.out.src).mono ?_); rintro e w4 ⟨z4, rfl, ⟨hz4, hz4', _⟩, hs4, ho4⟩)
  have hz4' := hz4' (by omega)
  have HW4 := hide (HW2.out.src2 hbl hs4 ho4)
  clear hs4 ho4 HW2
  go_upto_if 20 with (go_at_call 33; (with_reducible refine (HO1.out (N + 2 + 2 + 2) 20 _ (by omega) HW4.out.src).mono ?_); rintro e w5 ⟨v5, rfl, hs5, ho5⟩)
  have HW5 := hide (HW4.out.src2 hbl hs5 ho5)
  clear hs5 ho5 HW4
  go_cut [5, 7] (fun c5 c7 wx => ∃ rn n : Nat, c5 = .int .i64 (rn : Int) ∧ c7 = .int .i64 (n : Int) ∧ rn ≤ 8 ∧ n ≤ 43 ∧ Hid (WdSt b bs (N + 10) w wx gb 0 []))
  case first =>
    cases v5
    · go_wp2_with fail
      go_meet
      obtain ⟨r2, rfl⟩ := Int.eq_ofNat_of_zero_le hz2
      obtain ⟨r4, rfl⟩ := Int.eq_ofNat_of_zero_le hz4
      exact ⟨1 + r2, r4, by go_num, rfl, by omega, by omega, hide (HW5.out.more (by omega))⟩
    · go_wp2_with (go_at_call 35; (with_reducible refine (HP.out (N + 2 + 2 + 2 + 2) 3 _ (by omega) HW5.out.src).mono ?_); rintro e w6 ⟨z6, rfl, ⟨hz6, hz6', _⟩, hs6, ho6⟩; have hz6' := hz6' (by omega); have HW6 := hide (HW5.out.src2 hbl hs6 ho6); clear hs6 ho6)
      go_meet
      obtain ⟨r6, rfl⟩ := Int.eq_ofNat_of_zero_le hz6
      exact ⟨8, 40 + r6, rfl, by go_num, by omega, by omega, hide (HW6.out.more (by omega))⟩
  case rest =>
    obtain ⟨rn, n, rfl, rfl, hrn, hn, HW⟩ := hcut
    clear HW5 hgb
    go_wp2_with fail
    go_loopg [8, 6] n (fun g i ov wr => ∃ (k : Nat) (ws : List ByteArray) (g6 c6 : Nat), g = k ∧ i = .int .i64 k ∧ k ≤ n ∧ ws.length + k ≤ n ∧ ov = .slice (some ⟨g6, 0, none⟩) ws.length c6 ∧ Hid (WdSt b bs (N + 10 + 20 * ((n : Int) - (k : Int))) w wr g6 c6 ws))
    case atStart => exact ⟨n, [], gb, 0, rfl, rfl, Nat.le_refl _, by simp, rfl, hide (HW.out.more (by omega))⟩
    case round =>
      obtain ⟨k, ws, g6, c6, hg, rfl, hkn, hwk, rfl, HW6⟩ := hrel
      have HG := hide hg
      clear HW hg
      by_cases hlt : 0 < k
      · have hk0 : (0 : Int) < (k : Int) := by omega
        go_upto_region 12 with (go_at_call 50; (with_reducible refine (HDW.out (N + 10 + 20 * ((n : Int) - (k : Int))) (2 + z1) rn _ (by omega) ⟨by omega, by omega⟩ (by omega) HW6.out.src).mono ?_); rintro e w7 ⟨s, rfl, hss, hs7, ho7⟩)
        have HW7 := hide (HW6.out.src2 hbl hs7 ho7)
        have HSS := hide hss
        clear hs7 ho7 HW6 hss
        go_cut [45] (fun c wx => ∃ v : Bool, c = .bool v ∧ Hid (WdSt b bs (N + 10 + 20 * ((n : Int) - (k : Int)) + 20) w wx g6 c6 ws))
        case first =>
          have hz7 := Nat.le_refl w7.heap.size
          have hoE := own_new0 w7 w7.heap.size 9 1 (Nat.le_refl _)
          have hbE : Below w7.heap.size w7 (w7.alloc (.cells #[] 9)) := (Below.refl _ _).alloc (Nat.le_refl _) _
          have hrE : Rd (w7.alloc (.cells #[] 9)) (w7.heap.size + 1) (some ⟨g6, 0, none⟩) (ws.map Value.string) := ((Rd.of_own HW7.out.row).below hbE).more (by omega)
          have HL := hide fun (W : World) (A : Option Addr) (c : Nat) (hR : RdS W W.heap.size A (ws ++ [s])) => (show Calls Tryd.prog 40 #[.int .i64 (2 + z1), .slice A (ws.length + 1) c] W fun e w' => e = .returned (.bool (addrs (2 + z1) (ws ++ [s]))) ∧ ∃ m, w' = W.drewN m from by
            have hx := l05Ok_any (2 + z1) (ws ++ [s]) A c W (by rw [List.length_append, List.length_singleton]; omega) (fun t ht => by
              rcases List.mem_append.1 ht with ht | ht
              · have := HW7.out.small t ht; omega
              · rw [List.mem_singleton] at ht; rw [ht, HSS.out]; omega) hR
            rw [List.length_append] at hx
            exact hx)
          go_wp2_with (at_builtin; refine Hid.out ?_)
          refine hide ?_
          refine wp_app _ rfl _ _ 26 rfl w7.heap.size 9 i0 (.string ByteArray.empty) 1 16 Tryd.underlying26 hi0 hz0 hs0 hb0 rfl (by decide) (.slice (some ⟨w7.heap.size, 0, none⟩) 0 0) 0 [] rfl hoE _ _ ws.length c6 (ws.map Value.string) rfl (by simp) hrE (strs_one ws) ?c2 (by decide) ?c3 ?_
          case c2 => omega
          case c3 => simp
          intro v8 w8 hown8 hgrow8 hat8
          have hb8 := app_below hbE hoE hgrow8 (Nat.le_refl _) hbE.size
          rw [Nat.zero_add, List.nil_append] at hown8
          have HO8 := hide hown8
          have HB8 := hide hb8
          have hz8 := hb8.size
          clear hown8 hgrow8 hat8 hb8 hoE hbE hrE
          go_wp2_with (at_builtin; refine Hid.out ?_)
          refine hide ?_
          have hoF := HO8.out.alloc (.cells #[.string s] 9)
          refine wp_app _ rfl _ _ 26 rfl w7.heap.size 9 i0 (.string ByteArray.empty) 1 16 Tryd.underlying26 hi0 hz0 hs0 hb0 rfl (by decide) v8 ws.length (ws.map Value.string) rfl hoF _ _ 1 1 [.string s] rfl rfl (rd_new _ _ _ _ ?c1) (str_one _) ?c2 (by decide) ?c3 ?_
          case c1 => simp
          case c2 => omega
          case c3 => simp; omega
          intro v9 w9 hown9 hgrow9 hat9
          have HB9 := hide (app_below (HB8.out.alloc hz8 _) hoF hgrow9 (Nat.le_refl _) (by simp; omega))
          obtain ⟨A9, c9, rfl, _⟩ := own_shape hown9
          have HR9 := hide (show RdS w9 w9.heap.size A9 (ws ++ [s]) from RdS.of_own (xs := ws ++ [s]) (by rw [List.map_append]; exact hown9))
          clear hown9 hgrow9 hat9 hoF
          have HC := hide (HL.out w9 A9 c9 HR9.out)
          cases ha : addrs (2 + z1) (ws ++ [s])
          · rw [ha] at HC
            clear ha
            by_cases h40 : 40 ≤ ws.length
            · have hB : decide (40 ≤ (ws.length : Int)) = true := decide_eq_true (by omega)
              go_wp2_with (go_at_call 40; (with_reducible refine (HC.out).mono ?_); rintro e w10 ⟨rfl, m0, rfl⟩)
              go_meet
              exact ⟨_, rfl, hide (HW7.out.far hbl (bdn HB9.out _))⟩
            · have hB : decide (40 ≤ (ws.length : Int)) = false := decide_eq_false (by omega)
              go_wp2_with (go_at_call 40; (with_reducible refine (HC.out).mono ?_); rintro e w10 ⟨rfl, m0, rfl⟩)
              go_meet
              exact ⟨_, rfl, hide (HW7.out.far hbl (bdn HB9.out _))⟩
          · rw [ha] at HC
            clear ha
            go_wp2_with (go_at_call 40; (with_reducible refine (HC.out).mono ?_); rintro e w10 ⟨rfl, m0, rfl⟩)
            go_meet
            exact ⟨_, rfl, hide (HW7.out.far hbl (bdn HB9.out _))⟩
        case rest =>
          obtain ⟨v, rfl, HWx⟩ := hcut
          clear HW7
          cases v
          · go_wp2_with fail
            go_roundg (k - 1)
            case measure => have := HG.out; omega
            case rel => exact ⟨k - 1, ws, g6, c6, rfl, by congr 1; omega, by omega, by omega, rfl, hide (HWx.out.more (by omega))⟩
          · have hsx := HWx.out.only.size
            have hrowx := HWx.out.row.alloc (.cells #[.string s] 9)
            go_wp2_with (at_builtin; refine Hid.out ?_)
            refine hide ?_
            refine wp_app _ rfl _ _ 26 rfl w.heap.size 9 i0 (.string ByteArray.empty) 1 16 Tryd.underlying26 hi0 hz0 hs0 hb0 rfl (by decide) (.slice (some ⟨g6, 0, none⟩) ws.length c6) ws.length (ws.map Value.string) rfl hrowx _ _ 1 1 [.string s] rfl rfl (rd_new _ _ _ _ ?c1) (str_one _) ?c2 (by decide) ?c3 ?_
            case c1 => simp
            case c2 => omega
            case c3 => simp; omega
            intro v9 w9 hown9 hgrow9 hat9
            obtain ⟨g9, c9, rfl, hw9⟩ := (HWx.out.far hbl ((Below.refl _ _).alloc (Nat.le_refl _) (.cells #[.string s] 9))).push hbl (by rw [HSS.out]; omega) hown9 hgrow9
            have HW9 := hide hw9
            have HLN := hide (show (ws ++ [s]).length = ws.length + 1 by simp)
            clear hown9 hgrow9 hat9 hrowx hw9
            go_wp2_with fail
            go_roundg (k - 1)
            case measure => have := HG.out; omega
            case rel => exact ⟨k - 1, ws ++ [s], g9, c9, rfl, by congr 1; omega, by omega, by rw [HLN.out]; omega, by rw [HLN.out], hide (HW9.out.more (by omega))⟩
      · obtain rfl : k = 0 := by omega
        have HWe := hide (HW6.out.more (show N + 10 + 20 * ((n : Int) - ((0 : Nat) : Int)) ≤ N + 880 by omega))
        clear HW6 HG
        go_upto_region 15 with (go_at_call 35; (with_reducible refine (HP.out (N + 880) 20 _ (by omega) HWe.out.src).mono ?_); rintro e w7 ⟨z, rfl, ⟨hz7, _, _⟩, hs7, ho7⟩)
        have HW7 := hide (HWe.out.src2 hbl hs7 ho7)
        clear hs7 ho7 HWe
        by_cases he0 : z = 0
        · have hB0 : ((z : Int) == 0) = true := by simp [he0]
          have HE0 := hide he0
          have H2 := amongLit_any b bs (N + 880 + 2) [-1, 1, 2, 4, 5, 9223372036854775807] w7 hbs (by omega) HW7.out.src (by simp) (by simp)
          simp only [List.map_cons, List.map_nil, List.length_cons, List.length_nil, Nat.zero_add, Nat.reduceAdd] at H2
          have HAM2 := hide H2
          clear H2 he0
          go_wp2_with (go_at_call 34; (with_reducible refine (HAM2.out).mono ?_); rintro e w8 ⟨y, rfl, hy, hs8, ho8⟩; have HW8 := hide (HW7.out.src2 hbl hs8 ho8); have HY := hide hy; clear hs8 ho8 hy)
          refine bodyPost_ret (v := .tuple #[.int .i64 y, .slice (some ⟨g6, 0, none⟩) ws.length c6]) (by simp [results, Tryd.results32, go_sem]) rfl ?_
          exact ⟨y, g6, c6, ws, rfl, (by have := HY.out; simp at this; rcases this with rfl | rfl | rfl | rfl | rfl | rfl <;> decide), by omega, HW8.out.more (by omega)⟩
        have hB0 : ((z : Int) == 0) = false := by simp [he0]
        have HE0 := hide he0
        clear he0
        by_cases he1 : z = 1
        · have hB1 : ((z : Int) == 1) = true := by simp [he1]
          have HE1 := hide he1
          have H2 := textLit_any b bs (N + 880 + 2) [⟨#[]⟩, ⟨#[97]⟩, ⟨#[97, 98, 99, 100, 97, 98, 99, 100, 97]⟩, ⟨#[101]⟩, ⟨#[65]⟩] w7 hbs (by omega) HW7.out.src (by simp) (by simp)
          simp only [List.map_cons, List.map_nil, List.length_cons, List.length_nil, Nat.zero_add, Nat.reduceAdd] at H2
          have HTX2 := hide H2
          clear H2 he1
          go_wp2_with (first | (go_at_call 51; (with_reducible refine (HTX2.out).mono ?_); rintro e w8 ⟨y, rfl, hy, hs8, ho8⟩; have HW8 := hide (HW7.out.src2 hbl hs8 ho8); have HY := hide hy; clear hs8 ho8 hy) | (at_builtin; refine Hid.out ?_))
          refine hide ?_
          have hsx := HW8.out.only.size
          have hrowx := HW8.out.row.alloc (.cells #[.string y] 9)
          have hy9 : y.size ≤ 9 := by have := HY.out; simp at this; rcases this with rfl | rfl | rfl | rfl | rfl <;> decide
          refine wp_app _ rfl _ _ 26 rfl w.heap.size 9 i0 (.string ByteArray.empty) 1 16 Tryd.underlying26 hi0 hz0 hs0 hb0 rfl (by decide) (.slice (some ⟨g6, 0, none⟩) ws.length c6) ws.length (ws.map Value.string) rfl hrowx _ _ 1 1 [.string y] rfl rfl (rd_new _ _ _ _ ?c1) (str_one _) ?c2 (by decide) ?c3 ?_
          case c1 => simp
          case c2 => omega
          case c3 => simp; omega
          intro v9 w9 hown9 hgrow9 hat9
          obtain ⟨g9, c9, rfl, hw9⟩ := (HW8.out.far hbl ((Below.refl _ _).alloc (Nat.le_refl _) (.cells #[.string y] 9))).push hbl hy9 hown9 hgrow9
          have HW9 := hide hw9
          clear hown9 hgrow9 hat9 hrowx hw9 hy9
          go_wp2_with fail
          refine bodyPost_ret (v := .tuple #[.int .i64 (2 + z1), .slice (some ⟨g9, 0, none⟩) (ws ++ [y]).length c9]) (by simp [results, Tryd.results32, go_sem]) rfl ?_
          exact ⟨2 + z1, g9, c9, ws ++ [y], rfl, ⟨by omega, by omega⟩, by simp; omega, HW9.out.more (by omega)⟩
        · have hB1 : ((z : Int) == 1) = false := by simp [he1]
          have HE1 := hide he1
          clear he1
          go_wp2_with fail
          refine bodyPost_ret (v := .tuple #[.int .i64 (2 + z1), .slice (some ⟨g6, 0, none⟩) ws.length c6]) (by simp [results, Tryd.results32, go_sem]) rfl ?_
          exact ⟨2 + z1, g6, c6, ws, rfl, ⟨by omega, by omega⟩, by omega, HW7.out.more (by omega)⟩
end Go.Proofs.YtaajkmjilcamgaaDoor
