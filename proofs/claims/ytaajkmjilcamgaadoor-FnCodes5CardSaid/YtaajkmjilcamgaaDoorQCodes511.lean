/-
  Bits of 32-bit numbers: the lowest one, by the program's own text of the library.
  Masks: at most one bit is set; the words whose bits are set. Plain lemmas.
  The program's greatest set, over masks.
-/
import Derived.Test.YtaajkmjilcamgaaDoorQCodes510
import Derived.Shelf.Spec.TrailingZeros
import Derived.Lib.BitFns
import Derived.Deep.RegionHeld3
namespace Go.Proofs.YtaajkmjilcamgaaDoor
open Go.RowKit
/-- The table of the lowest bits lies as its initialiser lays it. -/
def TabB (w : World) : Prop := TabAt 0 Lib.deBruijn32tab w
set_option maxHeartbeats 1000000 in
theorem tz32_core (x k idx : Nat) (w : World) (hx0 : ((x : Int) == 0) = false)
    (key : bits BinOp.and IntKind.u32 (x : Int) (-(x : Int) % 4294967296) * 125613361 % 4294967296 / 134217728 = (idx : Int))
    (hi : idx < 32) (hk : k < 32) (hcell : w.cell? ⟨0, idx, none⟩ = some (.int .u8 k)) :
    Calls Tryd.prog 48 #[.int .u32 x] w fun e w' => e = .returned (.int .i64 k) ∧ w = w' := by
  go_enter Tryd.func48, Tryd.ntmps48
  go_wp2_with (simp only [key])
  go_ret
  exact ⟨rfl, rfl⟩
theorem tz32_any (x : Nat) (w : World) (h0 : x ≠ 0) (hx : x < 4294967296) (hT : TabB w) :
    Calls Tryd.prog 48 #[.int .u32 x] w fun e w' => e = .returned (.int .i64 (Lib.ctz 32 x)) ∧ w = w' := by
  obtain ⟨hlow, hk⟩ := Lib.lowest_bit 32 x h0 hx
  obtain ⟨hi, htab⟩ := Lib.deBruijn32_at _ hk
  have hcell := hT _ hi
  rw [htab] at hcell
  exact tz32_core x _ _ w (by simp; omega) (tz32_key x _ hx h0 hlow) hi hk hcell
/-- How many bits of a 32-bit number are set: byte by byte. -/
def ones32 (x : Nat) : Nat := Go.Lib.onesCount (x / 16777216) + Go.Lib.onesCount (x / 65536 % 256) + Go.Lib.onesCount (x / 256 % 256) + Go.Lib.onesCount (x % 256)
theorem pop8_nat {n : Nat} (h : n < 256) : Go.Lib.pop8 (n : Int) = (Go.Lib.onesCount n : Int) ∧ Go.Lib.onesCount n ≤ 8 := ⟨Go.Lib.pop8_eq ⟨n, h⟩, Go.Lib.onesCount_le8 ⟨n, h⟩⟩
set_option maxRecDepth 100000 in
set_option maxHeartbeats 2000000 in
theorem ones32_any (x : Nat) (w : World) (hx : x < 4294967296) :
    Calls Tryd.prog 49 #[.int .u32 x] w fun e w' => e = .returned (.int .i64 (ones32 x)) ∧ ∃ m, w' = w.drewN m := by
  have g3 : (x : Int) / 16777216 = ((x / 16777216 : Nat) : Int) := by omega
  have g2 : bits BinOp.and IntKind.u32 ((x : Int) / 65536) 255 = ((x / 65536 % 256 : Nat) : Int) := by
    have h := bits_and_u32_nat (x / 65536) 255 (by omega) (by decide)
    rw [show (255 : Nat) = 2 ^ 8 - 1 from rfl, Nat.and_two_pow_sub_one_eq_mod] at h
    rw [show (x : Int) / 65536 = ((x / 65536 : Nat) : Int) by omega]
    exact h
  have g1 : bits BinOp.and IntKind.u32 ((x : Int) / 256) 255 = ((x / 256 % 256 : Nat) : Int) := by
    have h := bits_and_u32_nat (x / 256) 255 (by omega) (by decide)
    rw [show (255 : Nat) = 2 ^ 8 - 1 from rfl, Nat.and_two_pow_sub_one_eq_mod] at h
    rw [show (x : Int) / 256 = ((x / 256 : Nat) : Int) by omega]
    exact h
  have g0 : bits BinOp.and IntKind.u32 (x : Int) 255 = ((x % 256 : Nat) : Int) := by
    have h := bits_and_u32_nat x 255 (by omega) (by decide)
    rw [show (255 : Nat) = 2 ^ 8 - 1 from rfl, Nat.and_two_pow_sub_one_eq_mod] at h
    exact h
  have l3 : (x : Int) / 16777216 ≤ 255 := by omega
  have n3 : (0 : Int) ≤ (x : Int) / 16777216 := by omega
  have l2 : bits BinOp.and IntKind.u32 ((x : Int) / 65536) 255 ≤ 255 := by omega
  have n2 : 0 ≤ bits BinOp.and IntKind.u32 ((x : Int) / 65536) 255 := by omega
  have l1 : bits BinOp.and IntKind.u32 ((x : Int) / 256) 255 ≤ 255 := by omega
  have n1 : 0 ≤ bits BinOp.and IntKind.u32 ((x : Int) / 256) 255 := by omega
  have l0 : bits BinOp.and IntKind.u32 (x : Int) 255 ≤ 255 := by omega
  have n0 : 0 ≤ bits BinOp.and IntKind.u32 (x : Int) 255 := by omega
  have HS := hide (show (Go.Lib.pop8 ((x : Int) / 16777216) + Go.Lib.pop8 (bits BinOp.and IntKind.u32 ((x : Int) / 65536) 255) + Go.Lib.pop8 (bits BinOp.and IntKind.u32 ((x : Int) / 256) 255) + Go.Lib.pop8 (bits BinOp.and IntKind.u32 (x : Int) 255)) % 256 = (ones32 x : Int) by
    rw [g3, g2, g1, g0]
    obtain ⟨p3, q3⟩ := pop8_nat (n := x / 16777216) (by omega)
    obtain ⟨p2, q2⟩ := pop8_nat (n := x / 65536 % 256) (by omega)
    obtain ⟨p1, q1⟩ := pop8_nat (n := x / 256 % 256) (by omega)
    obtain ⟨p0, q0⟩ := pop8_nat (n := x % 256) (by omega)
    rw [p3, p2, p1, p0]
    unfold ones32
    omega)
  clear g3 g2 g1 g0
  go_enter Tryd.func49, Tryd.ntmps49
  go_wp2_with fail
  go_quiet (fail)
  go_wp2_with fail
  go_ret
  exact ⟨ret_i HS.out, nq, rfl⟩
end Go.Proofs.YtaajkmjilcamgaaDoor
namespace Go.Proofs.YtaajkmjilcamgaaDoor
open Go.RowKit
theorem ones_byte : ∀ n : Fin 256, Go.Lib.onesCount n.val ≤ 1 → ∀ i j : Fin 8, n.val.testBit i.val = true → n.val.testBit j.val = true → i = j := by decide +kernel
theorem ones_some : ∀ n : Fin 256, ∀ i : Fin 8, n.val.testBit i.val = true → 1 ≤ Go.Lib.onesCount n.val := by decide +kernel
def byteN (x b : Nat) : Nat := x / 2 ^ (8 * b) % 256
theorem byteN_lt (x b : Nat) : byteN x b < 256 := Nat.mod_lt _ (by decide)
theorem byteN_bit {x i : Nat} (h : x.testBit i = true) : (byteN x (i / 8)).testBit (i % 8) = true := by
  unfold byteN
  rw [show (256 : Nat) = 2 ^ 8 from rfl, Nat.testBit_mod_two_pow, Nat.testBit_div_two_pow]
  rw [show i % 8 + 8 * (i / 8) = i by omega, h, decide_eq_true (show i % 8 < 8 by omega)]
  rfl
theorem ones32_eq {x : Nat} (hx : x < 4294967296) : ones32 x = Go.Lib.onesCount (byteN x 3) + Go.Lib.onesCount (byteN x 2) + Go.Lib.onesCount (byteN x 1) + Go.Lib.onesCount (byteN x 0) := by
  unfold ones32 byteN
  have e : x / 2 ^ (8 * 3) % 256 = x / 16777216 := by
    show x / 16777216 % 256 = _
    exact Nat.mod_eq_of_lt (by omega)
  rw [e]
  show _ = _ + Go.Lib.onesCount (x / 65536 % 256) + Go.Lib.onesCount (x / 256 % 256) + Go.Lib.onesCount (x / 1 % 256)
  rw [Nat.div_one]
theorem bit_lt {x i : Nat} (hx : x < 4294967296) (h : x.testBit i = true) : i < 32 := by
  rcases Nat.lt_or_ge i 32 with h1 | h1
  · exact h1
  · rw [Nat.testBit_lt_two_pow (Nat.lt_of_lt_of_le hx (Nat.pow_le_pow_right (by decide) h1 : 2 ^ 32 ≤ 2 ^ i))] at h
    cases h
theorem ones32_one {x i j : Nat} (hx : x < 4294967296) (h : ones32 x ≤ 1) (hi : x.testBit i = true) (hj : x.testBit j = true) : i = j := by
  have i32 := bit_lt hx hi
  have j32 := bit_lt hx hj
  have bi := byteN_bit hi
  have bj := byteN_bit hj
  rw [ones32_eq hx] at h
  by_cases hb : i / 8 = j / 8
  · rw [← hb] at bj
    have h1 : Go.Lib.onesCount (byteN x (i / 8)) ≤ 1 := by
      have : i / 8 = 0 ∨ i / 8 = 1 ∨ i / 8 = 2 ∨ i / 8 = 3 := by omega
      rcases this with e | e | e | e <;> rw [e] <;> omega
    have := ones_byte ⟨byteN x (i / 8), byteN_lt _ _⟩ h1 ⟨i % 8, by omega⟩ ⟨j % 8, by omega⟩ bi bj
    have := Fin.mk.inj this
    omega
  · have h1 := ones_some ⟨byteN x (i / 8), byteN_lt _ _⟩ ⟨i % 8, by omega⟩ bi
    have h2 := ones_some ⟨byteN x (j / 8), byteN_lt _ _⟩ ⟨j % 8, by omega⟩ bj
    dsimp only at h1 h2
    have ei : i / 8 = 0 ∨ i / 8 = 1 ∨ i / 8 = 2 ∨ i / 8 = 3 := by omega
    have ej : j / 8 = 0 ∨ j / 8 = 1 ∨ j / 8 = 2 ∨ j / 8 = 3 := by omega
    rcases ei with e | e | e | e <;> rcases ej with f | f | f | f <;> rw [e] at h1 <;> rw [f] at h2 <;> omega
/-- The words whose bits are set. -/
def bitS (ws : List ByteArray) (m : Nat) (w : ByteArray) : Prop := ∃ i, m.testBit i = true ∧ ws[i]? = some w
/-- The bits of a but those of b. -/
def clr (a b : Nat) : Nat := (BitVec.ofNat 32 a &&& ~~~BitVec.ofNat 32 b).toNat
theorem clr_lt (a b : Nat) : clr a b < 4294967296 := (BitVec.ofNat 32 a &&& ~~~BitVec.ofNat 32 b).isLt
theorem clr_bit {a : Nat} (ha : a < 4294967296) (b i : Nat) : (clr a b).testBit i = (a.testBit i && !b.testBit i) := by
  unfold clr
  rw [BitVec.testBit_toNat, BitVec.getLsbD_and, BitVec.getLsbD_not, BitVec.getLsbD_ofNat, BitVec.getLsbD_ofNat]
  by_cases h : i < 32
  · simp [h]
  · have : a.testBit i = false := Nat.testBit_lt_two_pow (Nat.lt_of_lt_of_le ha (Nat.pow_le_pow_right (by decide) (by omega) : 2 ^ 32 ≤ 2 ^ i))
    simp [h, this]
theorem clr_le {a : Nat} (ha : a < 4294967296) (b : Nat) : clr a b ≤ a := by
  refine Nat.le_of_testBit fun i h => ?_
  rw [clr_bit ha, Bool.and_eq_true] at h
  exact h.1
theorem bits_andNot_u32 (a b : Nat) : bits .andNot .u32 (a : Int) (b : Int) = (clr a b : Int) := by
  have h1 : BitVec.ofInt 32 (a : Int) = BitVec.ofNat 32 a := by rw [BitVec.ofInt_natCast]
  have h2 : BitVec.ofInt 32 (b : Int) = BitVec.ofNat 32 b := by rw [BitVec.ofInt_natCast]
  show IntKind.u32.wrap ((BitVec.ofInt 32 (a : Int) &&& ~~~BitVec.ofInt 32 (b : Int)).toNat : Int) = _
  rw [h1, h2, wrap_u32']
  have := clr_lt a b
  unfold clr at this ⊢
  omega
/-- One bit less: the number is less. -/
theorem clr_bit_lt {a k : Nat} (ha : a < 4294967296) {b : Nat} (hb : b.testBit k = true) (hk : a.testBit k = true) : clr a b < a := by
  rcases Nat.lt_or_ge (clr a b) a with h | h
  · exact h
  · have e : clr a b = a := Nat.le_antisymm (clr_le ha b) h
    have := clr_bit ha b k
    rw [e, hk, hb] at this
    cases this
end Go.Proofs.YtaajkmjilcamgaaDoor
namespace Go.Proofs.YtaajkmjilcamgaaDoor
open Go.RowKit
theorem TabB.below {w w' : World} (h : TabB w) (k : Below w.heap.size w w') (hb : 0 < w.heap.size) : TabB w' := fun j hj => (k.cell (p := ⟨0, j, none⟩) hb).trans (h j hj)
theorem ctz_bit {l : Nat} (h0 : l ≠ 0) (hl : l < 4294967296) : l.testBit (Go.Lib.ctz 32 l) = true ∧ Go.Lib.ctz 32 l < 32 := by
  obtain ⟨h1, h2⟩ := Go.Lib.lowest_bit 32 l h0 hl
  refine ⟨?_, h2⟩
  have h3 : (l &&& (2 ^ 32 - l)).testBit (Go.Lib.ctz 32 l) = true := by rw [h1, Nat.testBit_two_pow]; simp
  rw [Nat.testBit_and, Bool.and_eq_true] at h3
  exact h3.1
/-- What the program's table of near words says. -/
structure NrOk (ws : List ByteArray) (d : Int) (R : Nat) (nr : List Nat) : Prop where
  len : nr.length = ws.length
  l32 : ws.length ≤ 32
  lt : ∀ m ∈ nr, m < 4294967296
  bit : ∀ (k j : Nat) (m : Nat) (x y : ByteArray), nr[k]? = some m → ws[k]? = some x → ws[j]? = some y → (m.testBit j = true ↔ (j ≠ k ∧ farB x y < d))
def u32s (nr : List Nat) : List Value := nr.map fun (m : Nat) => Value.int .u32 (m : Int)
theorem ones32_le (x : Nat) (hx : x < 4294967296) : ones32 x ≤ 32 := by
  unfold ones32
  have h3 := (pop8_nat (n := x / 16777216) (by omega)).2
  have h2 := (pop8_nat (n := x / 65536 % 256) (by omega)).2
  have h1 := (pop8_nat (n := x / 256 % 256) (by omega)).2
  have h0 := (pop8_nat (n := x % 256) (by omega)).2
  omega
theorem pow_bit {k j : Nat} : (2 ^ k).testBit j = true ↔ j = k := by
  rw [Nat.testBit_two_pow, decide_eq_true_eq]
  exact eq_comm
/-- A word and those near it are struck. -/
theorem clr_near {ws : List ByteArray} {d : Int} {R : Nat} {nr : List Nat} (hN : NrOk ws d R nr) (hws : ∀ s ∈ ws, s.size = R) (hd : 1 ≤ d) {set k m : Nat} {x : ByteArray} (hs : set < 4294967296) (hx : ws[k]? = some x) (hm : nr[k]? = some m) (y : ByteArray) :
    bitS ws (clr (clr set m) (2 ^ k)) y ↔ bitS ws set y ∧ ¬ nearZ d R x y := by
  have hxz := hws x (List.mem_of_getElem? hx)
  constructor
  · rintro ⟨j, hj, hy⟩
    rw [clr_bit (clr_lt _ _), clr_bit hs, Bool.and_eq_true, Bool.and_eq_true, Bool.not_eq_true', Bool.not_eq_true'] at hj
    obtain ⟨⟨h1, h2⟩, h3⟩ := hj
    refine ⟨⟨j, h1, hy⟩, fun h => ?_⟩
    have h4 := h ⟨hxz, hws y (List.mem_of_getElem? hy)⟩
    unfold nearD at h4
    have hjk : j ≠ k := fun e => by rw [pow_bit.2 e] at h3; cases h3
    rw [(hN.bit k j m x y hm hx hy).2 ⟨hjk, h4⟩] at h2
    cases h2
  · rintro ⟨⟨j, h1, hy⟩, hn⟩
    have hyz := hws y (List.mem_of_getElem? hy)
    have hfar : ¬ farB x y < d := fun e => hn fun _ => e
    refine ⟨j, ?_, hy⟩
    rw [clr_bit (clr_lt _ _), clr_bit hs, Bool.and_eq_true, Bool.and_eq_true, Bool.not_eq_true', Bool.not_eq_true']
    refine ⟨⟨h1, ?_⟩, ?_⟩
    · cases hb : m.testBit j
      · rfl
      · exact (hfar ((hN.bit k j m x y hm hx hy).1 hb).2).elim
    · cases hb : (2 ^ k).testBit j
      · rfl
      · have e := pow_bit.1 hb
        subst e
        rw [hx] at hy
        cases hy
        exact (hfar (by rw [farB_self]; omega)).elim
theorem nodup_idx {ws : List ByteArray} (h : ws.Nodup) {i j : Nat} {x : ByteArray} (hi : ws[i]? = some x) (hj : ws[j]? = some x) : i = j := by
  obtain ⟨a1, b1⟩ := List.getElem?_eq_some_iff.1 hi
  obtain ⟨a2, b2⟩ := List.getElem?_eq_some_iff.1 hj
  have hp := List.pairwise_iff_getElem.1 h
  rcases Nat.lt_trichotomy i j with q | q | q
  · exact (hp i j a1 a2 q (b1.trans b2.symm)).elim
  · exact q
  · exact (hp j i a2 a1 q (b2.trans b1.symm)).elim
/-- One word is struck. -/
theorem clr_one {ws : List ByteArray} (hnd : ws.Nodup) {set k : Nat} {x : ByteArray} (hs : set < 4294967296) (hx : ws[k]? = some x) (y : ByteArray) :
    bitS ws (clr set (2 ^ k)) y ↔ bitS ws set y ∧ y ≠ x := by
  constructor
  · rintro ⟨j, hj, hy⟩
    rw [clr_bit hs, Bool.and_eq_true, Bool.not_eq_true'] at hj
    refine ⟨⟨j, hj.1, hy⟩, fun e => ?_⟩
    subst e
    have hjk : j = k := nodup_idx hnd hy hx
    rw [pow_bit.2 hjk] at hj
    cases hj.2
  · rintro ⟨⟨j, h1, hy⟩, hne⟩
    refine ⟨j, ?_, hy⟩
    rw [clr_bit hs, Bool.and_eq_true, Bool.not_eq_true']
    refine ⟨h1, ?_⟩
    cases hb : (2 ^ k).testBit j
    · rfl
    · have e := pow_bit.1 hb
      subst e
      rw [hx] at hy
      cases hy
      exact (hne rfl).elim
theorem nearZ_sym {d : Int} {R : Nat} (a b : ByteArray) (h : nearZ d R a b) : nearZ d R b a := fun k => by
  have := h k.symm
  unfold nearD at *
  rw [farB_sym (by rw [k.1, k.2])]
  exact this
theorem nearZ_self {d : Int} {R : Nat} (hd : 1 ≤ d) (a : ByteArray) : nearZ d R a a := fun _ => by unfold nearD; rw [farB_self]; omega
/-- One with at most one near it can always be taken. -/
theorem apart_take {ws : List ByteArray} {d : Int} {R : Nat} {nr : List Nat} (hN : NrOk ws d R nr) (hws : ∀ s ∈ ws, s.size = R) (hd : 1 ≤ d) {set k m b : Nat} {x : ByteArray} (hs : set < 4294967296) (hx : ws[k]? = some x) (hm : nr[k]? = some m) (hk : set.testBit k = true) (h1 : ones32 (m &&& set) ≤ 1)
    (h : Alpha (nearZ d R) (bitS ws (clr (clr set m) (2 ^ k))) b) : Alpha (nearZ d R) (bitS ws set) (b + 1) := by
  have hms : m &&& set < 4294967296 := Nat.lt_of_le_of_lt Nat.and_le_right hs
  have hxz := hws x (List.mem_of_getElem? hx)
  refine Alpha.take nearZ_sym (nearZ_self hd) (x := x) ⟨k, hk, hx⟩ ?_ (h.congr fun y => (clr_near hN hws hd hs hx hm y).symm)
  rintro y z ⟨j, hj, hy⟩ ⟨i, hi, hz⟩ hyx hzx ny nz
  have by1 := ny ⟨hxz, hws y (List.mem_of_getElem? hy)⟩
  have bz1 := nz ⟨hxz, hws z (List.mem_of_getElem? hz)⟩
  unfold nearD at by1 bz1
  have hjk : j ≠ k := fun e => by subst e; rw [hx] at hy; cases hy; exact hyx rfl
  have hik : i ≠ k := fun e => by subst e; rw [hx] at hz; cases hz; exact hzx rfl
  have e := ones32_one hms h1 (i := j) (j := i) (by rw [Nat.testBit_and, (hN.bit k j m x y hm hx hy).2 ⟨hjk, by1⟩, hj]; rfl) (by rw [Nat.testBit_and, (hN.bit k i m x z hm hx hz).2 ⟨hik, bz1⟩, hi]; rfl)
  subst e
  rw [hy] at hz
  exact Option.some.inj hz
theorem apart_branch {ws : List ByteArray} {d : Int} {R : Nat} {nr : List Nat} (hN : NrOk ws d R nr) (hws : ∀ s ∈ ws, s.size = R) (hnd : ws.Nodup) (hd : 1 ≤ d) {set k m a b : Nat} {x : ByteArray} (hs : set < 4294967296) (hx : ws[k]? = some x) (hm : nr[k]? = some m) (hk : set.testBit k = true)
    (h1 : Alpha (nearZ d R) (bitS ws (clr set (2 ^ k))) a) (h2 : Alpha (nearZ d R) (bitS ws (clr (clr set (2 ^ k)) m)) b) : Alpha (nearZ d R) (bitS ws set) (max a (b + 1)) := by
  refine Alpha.branch nearZ_sym (x := x) ⟨k, hk, hx⟩ (h1.congr fun y => (clr_one hnd hs hx y).symm) (h2.congr fun y => ?_)
  rw [← clr_near hN hws hd hs hx hm y]
  have e : ∀ j, (clr (clr set (2 ^ k)) m).testBit j = (clr (clr set m) (2 ^ k)).testBit j := fun j => by
    rw [clr_bit (clr_lt _ _), clr_bit hs, clr_bit (clr_lt _ _), clr_bit hs]
    cases set.testBit j <;> cases (2 ^ k).testBit j <;> cases m.testBit j <;> rfl
  constructor
  · rintro ⟨j, hj, hy⟩; exact ⟨j, by rw [e]; exact hj, hy⟩
  · rintro ⟨j, hj, hy⟩; exact ⟨j, by rw [← e]; exact hj, hy⟩
set_option maxRecDepth 100000 in
set_option maxHeartbeats 8000000 in
theorem apart_any (ws : List ByteArray) (d : Int) (R : Nat) (nr : List Nat) (hN : NrOk ws d R nr) (hws : ∀ s ∈ ws, s.size = R) (hnd : ws.Nodup) (hd : 1 ≤ d) : ∀ (n set : Nat) (A : Option Addr) (c : Nat) (w : World), set < n → set < 4294967296 → (∀ i, set.testBit i = true → i < ws.length) →
    0 < w.heap.size → TabB w → Rd w w.heap.size A (u32s nr) →
    Calls Tryd.prog 27 #[.slice A nr.length c, .int .u32 set] w fun e w' => ∃ m : Nat, e = .returned (.int .i64 m) ∧ Alpha (nearZ d R) (bitS ws set) m ∧ m ≤ set ∧ Below w.heap.size w w' := by
  intro n
  induction n with
  | zero => intro set A c w hn; omega
  | succ n ih =>
    intro set A c w hn hs32 hsl hgb hT hr
    have HSL := hide hsl
    have HT := hide fun W (hW : Below w.heap.size w W) => hT.below hW hgb
    have HR := hide fun W (hW : Below w.heap.size w W) => (Rd.below hr hW).more hW.size
    clear hsl hT hr
    go_enter Tryd.func27, Tryd.ntmps27
    go_wp2_with fail
    go_loopg [7, 5, 6] set (fun g lf mo ma wr => ∃ (l : Nat) (mi na : Int), Hid (g = l) ∧ lf = .int .u32 (l : Int) ∧ mo = .int .i64 mi ∧ ma = .int .i64 na ∧ l ≤ set ∧ Hid (∀ i, l.testBit i = true → set.testBit i = true) ∧ Hid ((mi = -1 ∧ na = -1 ∧ l = set) ∨ (∃ k : Nat, mi = (k : Int) ∧ set.testBit k = true)) ∧ (-1 ≤ na ∧ na ≤ 32) ∧ Hid (Below w.heap.size w wr))
    case atStart => exact ⟨set, -1, -1, hide rfl, rfl, rfl, rfl, Nat.le_refl _, hide (fun i h => h), hide (.inl ⟨rfl, rfl, rfl⟩), by omega, hide (Below.refl _ _)⟩
    case round =>
      obtain ⟨l, mi, na, hg, rfl, rfl, rfl, hls, HLB, HM, hna, HB⟩ := hrel
      obtain ⟨hna1, hna2⟩ := hna
      by_cases hl0 : l = 0
      · subst hl0
        rcases HM.out with ⟨q1, q2, q3⟩ | ⟨k, q1, q2⟩
        · subst q1
          subst q3
          go_wp2_with fail
          go_ret
          exact ⟨0, rfl, Alpha.empty (fun x hx => by obtain ⟨i, hi, _⟩ := hx; rw [Nat.zero_testBit] at hi; cases hi), (by simp), HB.out⟩
        · subst q1
          have HKS := hide q2
          have hkl := HSL.out _ q2
          have hk32 : k < 32 := Nat.lt_of_lt_of_le hkl hN.l32
          obtain ⟨b, o, u, rfl, hbw, hu, hcu⟩ := (HR.out wr HB.out).at_ (j := k) (by unfold u32s; rw [List.length_map, hN.len]; exact hkl)
          unfold u32s at hu
          rw [List.getElem?_map] at hu
          obtain ⟨m, hm, rfl⟩ : ∃ m, nr[k]? = some m ∧ u = .int .u32 (m : Int) := by
            cases hx : nr[k]? with
            | none => rw [hx] at hu; cases hu
            | some m => rw [hx] at hu; exact ⟨m, rfl, (Option.some.inj hu).symm⟩
          have hkn : k < nr.length := lt_of_get hm
          have hkni : (k : Int) < (nr.length : Int) := by omega
          have hk0 : (0 : Int) ≤ (k : Int) := by omega
          obtain ⟨P, hP⟩ : ∃ P, P = 2 ^ k := ⟨_, rfl⟩
          have hA1 := bits_andNot_u32 set P
          have hA2 := bits_andNot_u32 (clr set P) m
          have hPl : P < 4294967296 := by rw [hP]; exact Nat.pow_lt_pow_right (by decide) hk32
          have hsh : (2 : Int) ^ k % 4294967296 = (P : Int) := by
            have : (2 : Int) ^ k = (P : Int) := by rw [hP]; push_cast; rfl
            rw [this]; omega
          have hlt1 : clr set P < set := clr_bit_lt hs32 (b := P) (k := k) (by rw [hP]; exact pow_bit.2 rfl) HKS.out
          have hlt2 : clr (clr set P) m ≤ clr set P := clr_le (clr_lt _ _) _
          obtain ⟨x, hx⟩ : ∃ x, ws[k]? = some x := ⟨_, List.getElem?_eq_getElem hkl⟩
          have HAB := hide fun q q' (h1 : Alpha (nearZ d R) (bitS ws (clr set P)) q) (h2 : Alpha (nearZ d R) (bitS ws (clr (clr set P) m)) q') => apart_branch hN hws hnd hd hs32 hx hm HKS.out (by rw [hP] at h1; exact h1) (by rw [hP] at h2; exact h2)
          have HS1 := hide (show ∀ i, (clr set P).testBit i = true → i < ws.length from fun i hi => HSL.out i (by rw [clr_bit hs32, Bool.and_eq_true] at hi; exact hi.1))
          have HS2 := hide (show ∀ i, (clr (clr set P) m).testBit i = true → i < ws.length from fun i hi => HS1.out i (by rw [clr_bit (clr_lt _ _), Bool.and_eq_true] at hi; exact hi.1))
          have HI1 := hide fun W (hW : Below w.heap.size w W) => ih (clr set P) (some ⟨b, o, none⟩) c W (by omega) (clr_lt _ _) HS1.out (Nat.lt_of_lt_of_le hgb hW.size) (HT.out _ hW) (HR.out _ hW)
          have HI2 := hide fun W (hW : Below w.heap.size w W) => ih (clr (clr set P) m) (some ⟨b, o, none⟩) c W (by omega) (clr_lt _ _) HS2.out (Nat.lt_of_lt_of_le hgb hW.size) (HT.out _ hW) (HR.out _ hW)
          have hc1 := clr_lt set P
          have hc2 := clr_lt (clr set P) m
          have HKC := hide fun W (hW : Below wr.heap.size wr W) => (hW.cell (p := ⟨b, o + k, none⟩) hbw).trans hcu
          clear hP hx hm hu hcu q2 HM HLB
          generalize clr (clr set P) m = s2 at *
          generalize clr set P = s1 at *
          go_upto_region 14 with fail
          have hbd : Below wr.heap.size wr wr.drew := (Below.refl _ _).drew
          have e0 := HKC.out _ hbd
          refine wp_region_held_drew (S := fun W => W.cell? ⟨b, o + k, none⟩ = some (.int .u32 (m : Int))) (by kernel_rfl) (e0) (fun hHeld => ?_)
          generalize wr.drew = wd at *
          have zb := HB.out.size
          refine wpAnyH_take (i := 0) (v := ?_) rfl (by kernel_rfl) (by kernel_rfl) (by kernel_rfl) (fun _ _ _ h => h) (Or.inl ⟨by rfl, ?_⟩) (by assumption) ?_
          rotate_left 1
          · (intro w hSw; (try dsimp only at hSw); go_simp; try with_reducible rfl)
          try simp only [Act.put, List.getElem_toArray, List.getElem_cons_succ, List.getElem_cons_zero, List.setIfInBounds_toArray, List.set_cons_zero, List.set_cons_succ]
          refine wpAnyH_take (i := 1) (v := ?_) rfl (by kernel_rfl) (by kernel_rfl) (by kernel_rfl) (fun _ _ _ h => h) (Or.inl ⟨by rfl, ?_⟩) (by assumption) ?_
          rotate_left 1
          · (intro w hSw; (try dsimp only at hSw); go_simp; try with_reducible rfl)
          try simp only [Act.put, List.getElem_toArray, List.getElem_cons_succ, List.getElem_cons_zero, List.setIfInBounds_toArray, List.set_cons_zero, List.set_cons_succ]
          refine wpAnyH_take (i := 3) (v := ?_) rfl (by kernel_rfl) (by kernel_rfl) (by kernel_rfl) (fun _ _ _ h => h) (Or.inl ⟨by rfl, ?_⟩) (by assumption) ?_
          rotate_left 1
          · (intro w hSw; (try dsimp only at hSw); go_simp; try with_reducible rfl)
          try simp only [Act.put, List.getElem_toArray, List.getElem_cons_succ, List.getElem_cons_zero, List.setIfInBounds_toArray, List.set_cons_zero, List.set_cons_succ]
          refine wpAnyH_take (i := 4) (v := ?_) rfl (by kernel_rfl) (by kernel_rfl) (by kernel_rfl) (fun _ _ _ h => h) (Or.inl ⟨by rfl, ?_⟩) (by assumption) ?_
          rotate_left 1
          · (intro w hSw; (try dsimp only at hSw); go_simp; try with_reducible rfl)
          try simp only [Act.put, List.getElem_toArray, List.getElem_cons_succ, List.getElem_cons_zero, List.setIfInBounds_toArray, List.set_cons_zero, List.set_cons_succ]
          refine wpAnyH_take (i := 5) (v := ?_) rfl (by kernel_rfl) (by kernel_rfl) (by kernel_rfl) (fun _ _ _ h => h) (Or.inl ⟨by rfl, ?_⟩) (by assumption) ?_
          rotate_left 1
          · (intro w hSw; (try dsimp only at hSw); go_simp; try with_reducible rfl)
          try simp only [Act.put, List.getElem_toArray, List.getElem_cons_succ, List.getElem_cons_zero, List.setIfInBounds_toArray, List.set_cons_zero, List.set_cons_succ]
          refine wpAnyH_take (i := 6) (v := ?_) rfl (by kernel_rfl) (by kernel_rfl) (by kernel_rfl) (fun _ _ _ h => h) (Or.inl ⟨by rfl, ?_⟩) (by assumption) ?_
          rotate_left 1
          · (intro w hSw; (try dsimp only at hSw); go_simp; try with_reducible rfl)
          try simp only [Act.put, List.getElem_toArray, List.getElem_cons_succ, List.getElem_cons_zero, List.setIfInBounds_toArray, List.set_cons_zero, List.set_cons_succ]
          refine wpAnyH_take (i := 7) (v := ?_) rfl (by kernel_rfl) (by kernel_rfl) (by kernel_rfl) (fun _ _ _ h => h) (Or.inl ⟨by rfl, ?_⟩) (by assumption) ?_
          rotate_left 1
          · (intro w hSw; (try dsimp only at hSw); go_simp; try with_reducible rfl)
          try simp only [Act.put, List.getElem_toArray, List.getElem_cons_succ, List.getElem_cons_zero, List.setIfInBounds_toArray, List.set_cons_zero, List.set_cons_succ]
          refine wpAnyH_take (i := 8) (v := ?_) rfl (by kernel_rfl) (by kernel_rfl) (by kernel_rfl) (fun _ _ _ h => h) (Or.inl ⟨by rfl, ?_⟩) (by assumption) ?_
          rotate_left 1
          · (intro w hSw; (try dsimp only at hSw); go_simp; try with_reducible rfl)
          try simp only [Act.put, List.getElem_toArray, List.getElem_cons_succ, List.getElem_cons_zero, List.setIfInBounds_toArray, List.set_cons_zero, List.set_cons_succ]
          refine wpAnyH_take (i := 9) (v := ?_) rfl (by kernel_rfl) (by kernel_rfl) (by kernel_rfl) (fun _ _ _ h => h) (Or.inl ⟨by rfl, ?_⟩) (by assumption) ?_
          rotate_left 1
          · (intro w hSw; (try dsimp only at hSw); go_simp; try with_reducible rfl)
          try simp only [Act.put, List.getElem_toArray, List.getElem_cons_succ, List.getElem_cons_zero, List.setIfInBounds_toArray, List.set_cons_zero, List.set_cons_succ]
          refine wpAnyH_ready (rs := [2]) (by kernel_rfl) (by simp) ?_
          refine AllReadyH.cons rfl (fun K hK => ?_) AllReadyH.nil
          try simp only [Act.put, List.getElem_toArray, List.getElem_cons_succ, List.getElem_cons_zero, List.setIfInBounds_toArray, List.set_cons_zero, List.set_cons_succ]
          go_simp
          go_at_call 27
          with_reducible refine (HI1.out _ (HB.out.trans (hbd.mono zb))).mono ?_
          rintro e w3 ⟨q3, rfl, hq3, hql3, b3⟩
          have hb3 := hbd.trans (b3.mono hbd.size)
          have e3 := HKC.out _ hb3
          dsimp only
          refine hK.out _ _ (e3) (fun hHeld => ?_)
          clear hK K
          try simp only [Act.put, List.getElem_toArray, List.getElem_cons_succ, List.getElem_cons_zero, List.setIfInBounds_toArray, List.set_cons_zero, List.set_cons_succ]
          refine wpAnyH_ready (rs := [10]) (by kernel_rfl) (by simp) ?_
          refine AllReadyH.cons rfl (fun K hK => ?_) AllReadyH.nil
          try simp only [Act.put, List.getElem_toArray, List.getElem_cons_succ, List.getElem_cons_zero, List.setIfInBounds_toArray, List.set_cons_zero, List.set_cons_succ]
          go_simp
          go_at_call 27
          with_reducible refine (HI2.out _ (HB.out.trans (hb3.mono zb))).mono ?_
          rintro e w4 ⟨q4, rfl, hq4, hql4, b4⟩
          have hb4 := hb3.trans (b4.mono hb3.size)
          have e4 := HKC.out _ hb4
          have hw9 : IntKind.i64.wrap (1 + (q4 : Int)) = 1 + (q4 : Int) := by rw [IntKind.wrap_i64] <;> omega
          dsimp only
          refine hK.out _ _ (e4) (fun hHeld => ?_)
          clear hK K
          try simp only [Act.put, List.getElem_toArray, List.getElem_cons_succ, List.getElem_cons_zero, List.setIfInBounds_toArray, List.set_cons_zero, List.set_cons_succ]
          refine wpAnyH_take (i := 11) (v := ?_) rfl (by kernel_rfl) (by kernel_rfl) (by kernel_rfl) (fun _ _ _ h => h) (Or.inl ⟨by rfl, ?_⟩) (by assumption) ?_
          rotate_left 1
          · (intro w hSw; (try dsimp only at hSw); go_simp; try with_reducible rfl)
          try simp only [Act.put, List.getElem_toArray, List.getElem_cons_succ, List.getElem_cons_zero, List.setIfInBounds_toArray, List.set_cons_zero, List.set_cons_succ]
          refine wpAnyH_take (i := 12) (v := ?_) rfl (by kernel_rfl) (by kernel_rfl) (by kernel_rfl) (fun _ _ _ h => h) (Or.inl ⟨by rfl, ?_⟩) (by assumption) ?_
          rotate_left 1
          · (intro w hSw; (try dsimp only at hSw); go_simp; try with_reducible rfl)
          try simp only [Act.put, List.getElem_toArray, List.getElem_cons_succ, List.getElem_cons_zero, List.setIfInBounds_toArray, List.set_cons_zero, List.set_cons_succ]
          refine wpAnyH_take (i := 13) (v := ?_) rfl (by kernel_rfl) (by kernel_rfl) (by kernel_rfl) (fun _ _ _ h => h) (Or.inl ⟨by rfl, ?_⟩) (by assumption) ?_
          rotate_left 1
          · (intro w hSw; (try dsimp only at hSw); go_simp; try with_reducible rfl)
          try simp only [Act.put, List.getElem_toArray, List.getElem_cons_succ, List.getElem_cons_zero, List.setIfInBounds_toArray, List.set_cons_zero, List.set_cons_succ]
          refine wpAnyH_done (by kernel_rfl) ?_ _
          go_wp2_with fail
          all_goals (
            go_ret
            exact ⟨max q3 (q4 + 1), ret_i (by omega), HAB.out _ _ hq3 hq4, by omega, HB.out.trans (hb4.mono zb)⟩)
      have hl32 : l < 4294967296 := by omega
      obtain ⟨hkb, hk32⟩ := ctz_bit hl0 hl32
      have hkset := HLB.out _ hkb
      have hkl := HSL.out _ hkset
      have HTZ := hide (tz32_any l wr hl0 hl32 (HT.out wr HB.out))
      have HKS := hide hkset
      have HKB := hide hkb
      have HL0 := hide hl0
      have hln : ((l : Int) != 0) = true := by simp; omega
      generalize Go.Lib.ctz 32 l = k at *
      obtain ⟨b, o, u, rfl, hbw, hu, hcu⟩ := (HR.out wr HB.out).at_ (j := k) (by unfold u32s; rw [List.length_map, hN.len]; exact hkl)
      unfold u32s at hu
      rw [List.getElem?_map] at hu
      obtain ⟨m, hm, rfl⟩ : ∃ m, nr[k]? = some m ∧ u = .int .u32 (m : Int) := by
        cases hx : nr[k]? with
        | none => rw [hx] at hu; cases hu
        | some m => rw [hx] at hu; exact ⟨m, rfl, (Option.some.inj hu).symm⟩
      have hm32 := hN.lt m (List.mem_of_getElem? hm)
      have hand := bits_and_u32_nat m set hm32 hs32
      have hkn : k < nr.length := lt_of_get hm
      have hkni : (k : Int) < (nr.length : Int) := by omega
      have hms : m &&& set < 4294967296 := Nat.lt_of_le_of_lt Nat.and_le_right hs32
      have HON := hide (ones32_any (m &&& set) wr hms)
      have HMM := hide hm
      clear hkset hkb hl0 hm hu
      generalize hms2 : m &&& set = ms at *
      generalize hon : ones32 ms = on at *
      have HMS := hide hms2
      have HO := hide hon
      clear hms2 hon
      by_cases h1 : on ≤ 1
      · have hB : decide ((on : Int) ≤ 1) = true := decide_eq_true (by omega)
        go_upto_region 8 with (first | (go_at_call 48; (with_reducible refine (HTZ.out).mono ?_); rintro e w1 ⟨rfl, rfl⟩) | (go_at_call 49; (with_reducible refine (HON.out).mono ?_); rintro e w2 ⟨rfl, q2, rfl⟩))
        have kc : (wr.drewN q2).cell? ⟨b, o + k, none⟩ = some (.int .u32 (m : Int)) := ((bdn (Below.refl wr.heap.size wr) q2).cell (p := ⟨b, o + k, none⟩) hbw).trans hcu
        obtain ⟨P, hP⟩ : ∃ P, P = 2 ^ k := ⟨_, rfl⟩
        have hA1 := bits_andNot_u32 set m
        have hA2 := bits_andNot_u32 (clr set m) P
        have hPl : P < 4294967296 := by rw [hP]; exact Nat.pow_lt_pow_right (by decide) hk32
        have hsh : (2 : Int) ^ k % 4294967296 = (P : Int) := by
          have : (2 : Int) ^ k = (P : Int) := by rw [hP]; push_cast; rfl
          rw [this]; omega
        have hlt : clr (clr set m) P < set := Nat.lt_of_le_of_lt (Nat.le_refl _) (by
          rcases Nat.lt_or_ge (clr set m) set with q | q
          · exact Nat.lt_of_le_of_lt (clr_le (clr_lt _ _) _) q
          · have e : clr set m = set := Nat.le_antisymm (clr_le hs32 m) q
            rw [e]
            exact clr_bit_lt hs32 (b := P) (k := k) (by rw [hP]; exact pow_bit.2 rfl) HKS.out)
        obtain ⟨x, hx⟩ : ∃ x, ws[k]? = some x := ⟨_, List.getElem?_eq_getElem hkl⟩
        have HAT := hide fun q (hq : Alpha (nearZ d R) (bitS ws (clr (clr set m) P)) q) => apart_take hN hws hd hs32 hx HMM.out HKS.out (show ones32 (m &&& set) ≤ 1 by rw [HMS.out, HO.out]; exact h1) (by rw [hP] at hq; exact hq)
        have HBQ := hide (show Below w.heap.size w (wr.drewN q2) from bdn HB.out q2)
        have HIH := hide (ih (clr (clr set m) P) (some ⟨b, o, none⟩) c (wr.drewN q2) (by omega) (clr_lt _ _) (fun i hi => HSL.out i (by
          rw [clr_bit (clr_lt _ _), clr_bit hs32, Bool.and_eq_true, Bool.and_eq_true] at hi
          exact hi.1.1)) (Nat.lt_of_lt_of_le hgb HBQ.out.size) (HT.out _ HBQ.out) (HR.out _ HBQ.out))
        have hss : set ≤ 4294967295 := by omega
        have HH1 := hide h1
        clear hP hx h1
        generalize clr (clr set m) P = s2 at *
        go_wp2_with (go_at_call 27; (with_reducible refine (HIH.out).mono ?_); rintro e w3 ⟨q, rfl, hq, hql, b3⟩)
        go_ret
        exact ⟨q + 1, ret_i (by go_num), HAT.out q hq, by omega, HBQ.out.trans (b3.mono HBQ.out.size)⟩
      · have hB : decide ((on : Int) ≤ 1) = false := decide_eq_false (by omega)
        have hon32 : on ≤ 32 := by rw [← HO.out]; exact ones32_le _ hms
        have hw1 : IntKind.u32.wrap ((l : Int) - 1) = ((l - 1 : Nat) : Int) := by rw [wrap_u32']; have := HL0.out; omega
        have hand2 := bits_and_u32_nat l (l - 1) hl32 (by omega)
        have hll : l &&& (l - 1) ≤ l - 1 := Nat.and_le_right
        have HLB2 := hide (show ∀ i, (l &&& (l - 1)).testBit i = true → set.testBit i = true from fun i hi => HLB.out i (by rw [Nat.testBit_and, Bool.and_eq_true] at hi; exact hi.1))
        have hl1 := HL0.out
        obtain ⟨l2, hl2⟩ : ∃ q, q = l &&& (l - 1) := ⟨_, rfl⟩
        obtain ⟨l1, hl1e⟩ : ∃ q, q = l - 1 := ⟨_, rfl⟩
        rw [← hl1e] at hw1 hand2 hll HLB2 hl2
        rw [← hl2] at hand2 hll HLB2
        have hlt2 : l2 < l := by omega
        clear hl2 hl1e
        by_cases h2 : na < on
        · have hB2 : decide (na < (on : Int)) = true := decide_eq_true (by omega)
          have HH := hide h1
          have HH2 := hide h2
          clear h1 h2
          go_wp2_with (first | (go_at_call 48; (with_reducible refine (HTZ.out).mono ?_); rintro e w1 ⟨rfl, rfl⟩) | (go_at_call 49; (with_reducible refine (HON.out).mono ?_); rintro e w2 ⟨rfl, q2, rfl⟩))
          go_roundg l2
          case measure => have := hg.out; omega
          case rel => exact ⟨l2, (k : Int), (on : Int), hide rfl, rfl, rfl, rfl, by omega, HLB2, hide (.inr ⟨k, rfl, HKS.out⟩), by omega, hide (bdn HB.out q2)⟩
        · have hB2 : decide (na < (on : Int)) = false := decide_eq_false (by omega)
          have HH := hide h1
          have HM2 := hide (show ∃ k : Nat, mi = (k : Int) ∧ set.testBit k = true from by
            rcases HM.out with ⟨_, q, _⟩ | q
            · omega
            · exact q)
          clear h1 h2
          go_wp2_with (first | (go_at_call 48; (with_reducible refine (HTZ.out).mono ?_); rintro e w1 ⟨rfl, rfl⟩) | (go_at_call 49; (with_reducible refine (HON.out).mono ?_); rintro e w2 ⟨rfl, q2, rfl⟩))
          go_roundg l2
          case measure => have := hg.out; omega
          case rel => exact ⟨l2, mi, na, hide rfl, rfl, rfl, rfl, by omega, HLB2, hide (.inr HM2.out), by omega, hide (bdn HB.out q2)⟩
end Go.Proofs.YtaajkmjilcamgaaDoor
