/-
  Decimal forms: the program's, by the kit's contract of strconv.FormatInt, and the reference's.
  Rides: places, pressures, the slowest one. Plain definitions and lemmas.
  The text of a network: its words, and what is read back from them. Plain lemmas.
  The text of a ride, and the ride that is read from a text. Plain lemmas.
-/
import Derived.Test.YtaajkmjilcamgaaGreatDoorQRides1
import Derived.Test.YtaajkmjilcamgaaGreatDoorQRides0
import Derived.Lib.ItoaLen
import Derived.Lib.AppendIntMem
import Derived.Test.YtaajkmjilcamgaaGreatDoorProg
namespace Go.Proofs.YtaajkmjilcamgaaGreatDoor
open Go.RowKit
/-- The table of powers of ten lies as its initialiser lays it. -/
def TabW (w : World) : Prop := Lib.TabIs Tryz.prog w "internal/strconv.uint64pow10" .u64 Lib.pow10Tab
theorem TabW.below {w w' : World} (h : TabW w) (b : Below w.heap.size w w') : TabW w' := Lib.tabBelow_of_tabIs h w' b
theorem itoa_size {n : Int} (h0 : -9223372036854775808 ≤ n) (h1 : n ≤ 9223372036854775807) : (⟨(Lib.itoa n).toArray⟩ : ByteArray).size ≤ 21 := by
  have h := Lib.itoa_length_le n h0 h1
  have e : (⟨(Lib.itoa n).toArray⟩ : ByteArray).size = (Lib.itoa n).length := by simp [ByteArray.size]
  omega
/-- The decimal form as a text. -/
def decB (n : Int) : ByteArray := ⟨(Lib.itoa n).toArray⟩
set_option maxRecDepth 100000 in
theorem decimal_any (n : Int) (w : World) (h0 : -9223372036854775808 ≤ n) (h1 : n ≤ 9223372036854775807) (ht : TabW w) :
    Calls Tryz.prog 44 #[.int .i64 n] w fun e w' => e = .returned (.string (decB n)) ∧ Below w.heap.size w w' := by
  have HC : Hid (Calls Tryz.prog 80 #[.int .i64 n, .int .i64 10] w fun e w' => e = .returned (.string (decB n)) ∧ Below w.heap.size w w') := hide ((Go.Proofs.Any.strconv_FormatInt_10 YtaajkmjilcamgaaGreatDoor.fmtLay n h0 h1 w ht).mono fun e w' h => by
    obtain ⟨he, k, os, hw⟩ := h
    exact ⟨he, by rw [hw]; exact Lib.below_grow _ _ (Nat.le_refl _) _ _⟩)
  clear ht
  go_enter Tryz.func44, Tryz.ntmps44
  go_wp2_with (go_at_call 80; (with_reducible refine (HC.out).mono ?_); rintro e w1 ⟨rfl, b1⟩)
  go_ret
  exact ⟨rfl, b1⟩
theorem DecInv.len {n k : Int} {out : List UInt8} (h : DecInv n k out) : out.length ≤ (Lib.decDigits n.natAbs).length := by
  rcases h with ⟨_, _, h⟩ | ⟨_, _, h⟩ | ⟨_, _, h⟩
  · rw [h, List.length_append]; omega
  · rw [h]; exact Nat.zero_le _
  · rw [h]; exact Nat.le_refl _
theorem digits20 {n : Int} (h0 : -9223372036854775808 ≤ n) (h1 : n ≤ 9223372036854775807) : (Lib.decDigits n.natAbs).length ≤ 20 := by
  rw [Lib.decDigits_length]; exact Lib.nDigits_le20 _ (by omega)
set_option maxRecDepth 100000 in
set_option maxHeartbeats 4000000 in
theorem l01Dec_any (n : Int) (w : World) (h0 : -9223372036854775808 ≤ n) (h1 : n ≤ 9223372036854775807) :
    Calls Tryz.prog 91 #[.int .i64 n] w fun e w' => e = .returned (.string (decB n)) ∧ Below w.heap.size w w' := by
  obtain ⟨i0, hi0, hz0, hs0, hb0⟩ := info_parts uint8_info
  have ho1 := hide (own_new0 w w.heap.size 5 1 (Nat.le_refl _))
  have hB1 := hide (show Below w.heap.size w (w.alloc (.cells #[] 5)) from (Below.refl _ _).alloc (Nat.le_refl _) _)
  have H20 := hide (digits20 h0 h1)
  go_enter Tryz.func91, Tryz.ntmps91
  go_wp2_with fail
  go_loopg [4, 3] n.natAbs (fun g kv sv wr => ∃ (k : Int) (l : List UInt8) (gb cb : Nat), Hid (g = k.natAbs) ∧ kv = .int .i64 k ∧ (-9223372036854775808 ≤ k ∧ k ≤ 9223372036854775807) ∧ sv = .slice (some ⟨gb, 0, none⟩) l.length cb ∧ Hid (wr.ownsRow w.heap.size 5 1 (.slice (some ⟨gb, 0, none⟩) l.length cb) l.length (bcs l)) ∧ Hid (DecInv n k l) ∧ Hid (Below w.heap.size w wr))
  case atStart => exact ⟨n, [], w.heap.size, 0, rfl, rfl, ⟨h0, h1⟩, rfl, hide (by simpa [bcs] using ho1.out), hide (DecInv.start n), hB1⟩
  case round =>
    obtain ⟨k, l, gb, cb, hg, rfl, ⟨hk0, hk1⟩, rfl, HO, HD, HW⟩ := hrel
    clear ho1 hB1
    have hzw := HW.out.size
    have hl20 : l.length ≤ 20 := Nat.le_trans HD.out.len H20.out
    by_cases hkz : k = 0
    · have HZ := hide (hkz ▸ HD.out).zero
      have hB0 : (k != 0) = false := by simp [hkz]
      have HKZ := hide hkz
      clear hkz
      by_cases hl0 : l.length = 0
      · have hB2 : ((l.length : Int) == 0) = true := by simp [hl0]
        have HE := hide (show decB n = ⟨#[48]⟩ by
          rcases HZ.out with ⟨_, _, e⟩ | ⟨e, _⟩ | ⟨e, _⟩
          · unfold decB; rw [e]
          · exact absurd (List.eq_nil_of_length_eq_zero hl0) e
          · exact absurd (List.eq_nil_of_length_eq_zero hl0) e)
        have HL0 := hide hl0
        clear hl0
        go_wp2_with fail
        go_ret
        exact ⟨by rw [HE.out]; rfl, HW.out⟩
      have hB2 : ((l.length : Int) == 0) = false := by rw [beq_eq_false_iff_ne]; omega
      have hcv := run_convert_bytes_back (P := Tryz.prog) wr 22 9 5 ⟨gb, 0, none⟩ cb l Tryz.underlying22 Tryz.underlying5 Tryz.underlying9 (fun j hj => HO.out.cells (g := gb) rfl j _ (by unfold bcs; rw [List.getElem?_map, List.getElem?_eq_getElem hj]; rfl))
      have HL0 := hide hl0
      clear hl0
      by_cases hn : n < 0
      · have HE := hide (show decB n = ⟨#[45]⟩ ++ ⟨l.toArray⟩ by
          rcases HZ.out with ⟨e, _⟩ | ⟨_, _, e⟩ | ⟨_, e, _⟩
          · exact absurd (by rw [e]; rfl) HL0.out
          · unfold decB; rw [e]; apply ByteArray.ext; simp [ByteArray.data_append]
          · omega)
        have hsz : (⟨l.toArray⟩ : ByteArray).size = l.length := by simp [ByteArray.size]
        have hcat : ¬ 9223372036854775807 < (⟨#[45]⟩ : ByteArray).size + (⟨l.toArray⟩ : ByteArray).size := by rw [hsz]; have : (⟨#[45]⟩ : ByteArray).size = 1 := rfl; omega
        have hcat2 : ¬ 9223372036854775807 < 1 + l.length := by omega
        clear hsz
        go_wp2_with fail
        go_ret
        exact ⟨by rw [HE.out]; rfl, HW.out⟩
      · have HE := hide (show decB n = ⟨l.toArray⟩ by
          rcases HZ.out with ⟨e, _⟩ | ⟨_, e, _⟩ | ⟨_, _, e⟩
          · exact absurd (by rw [e]; rfl) HL0.out
          · omega
          · unfold decB; rw [e])
        have hnn : decide (n < 0) = false := decide_eq_false hn
        go_wp2_with fail
        go_ret
        exact ⟨by rw [HE.out]; rfl, HW.out⟩
    have hB0 : (k != 0) = true := by simp [hkz]
    have HST := hide (HD.out.step hkz)
    have hdig := dec_digit k
    have hna := Int.natAbs_tmod k 10
    have hnb : (k.tdiv 10).natAbs = k.natAbs / 10 := by rw [Int.natAbs_tdiv]; rfl
    have hna2 : (k.tmod 10).natAbs ≤ 9 := by rw [hna]; show k.natAbs % 10 ≤ 9; omega
    have hw1 : IntKind.i64.wrap (k.tmod 10) = k.tmod 10 := by rw [IntKind.wrap_i64] <;> omega
    have hw2 : IntKind.i64.wrap (k.tdiv 10) = k.tdiv 10 := by rw [IntKind.wrap_i64] <;> omega
    have HLT := hide (show (k.tdiv 10).natAbs < k.natAbs by omega)
    have HQ := hide (show -9223372036854775808 ≤ k.tdiv 10 ∧ k.tdiv 10 ≤ 9223372036854775807 by omega)
    have hm9 : k.natAbs % 10 ≤ 9 := by omega
    obtain ⟨m, hm⟩ : ∃ m, k.natAbs % 10 = m := ⟨_, rfl⟩
    rw [hm] at hdig HST hm9
    have HKZ := hide hkz
    clear hna hnb hm hkz
    have h256 : (48 + (m : Int)) % 256 = 48 + (m : Int) := by omega
    obtain ⟨q, hkq⟩ : ∃ q, k.tdiv 10 = q := ⟨_, rfl⟩
    rw [hkq] at hw2 HLT HQ HST
    clear hw1 hna2
    have hlit := hide (show (wr.alloc (.cells #[.int .u8 (48 + (m : Int))] 5)).ownsRow w.heap.size 5 1 (.slice (some ⟨wr.heap.size, 0, none⟩) 1 1) 1 [.int .u8 (48 + (m : Int))] from World.ownsRow_lit wr #[.int .u8 (48 + (m : Int))] 1 hzw (by decide) rfl)
    have hsrc := hide (show Rd (wr.alloc (.cells #[.int .u8 (48 + (m : Int))] 5)) (wr.heap.size + 1) (some ⟨gb, 0, none⟩) (bcs l) from ((Rd.of_own HO.out).below ((Below.refl _ _).alloc (Nat.le_refl _) _)).more (by omega))
    have hba := hide (HW.out.alloc hzw (.cells #[.int .u8 (48 + (m : Int))] 5))
    by_cases hd : k.tmod 10 < 0
    · rw [if_pos hd] at hdig
      have hkd : k.tmod 10 = -(m : Int) := by omega
      have hm0 : (m : Int) ≠ 0 := by omega
      have hdd : decide (-(m : Int) < 0) = true := decide_eq_true (by omega)
      have hdd2 : 0 < m := by omega
      have hwn : IntKind.i64.wrap (- -(m : Int)) = (m : Int) := by rw [IntKind.wrap_i64] <;> omega
      have hw8 : IntKind.u8.wrap (48 + (m : Int)) = 48 + (m : Int) := by simp [IntKind.wrap, IntKind.bits, IntKind.signed]; omega
      clear hdig hd
      go_wp2_with (at_builtin; refine Hid.out ?_)
      refine hide ?_
      have hlo := hlit.out
      refine wp_app _ rfl _ _ 22 rfl w.heap.size 5 i0 (.int .u8 0) 1 1 Tryz.underlying22 hi0 hz0 hs0 hb0 rfl (by decide) (.slice (some ⟨wr.heap.size, 0, none⟩) 1 1) 1 _ rfl hlo _ _ l.length cb (bcs l) rfl (by rw [bcs_len]; omega) hsrc.out (bcs_one l) ?c2 (by decide) ?c3 ?_
      case c2 => omega
      case c3 => exact hba.out.size
      intro v4 w4 hown4 hgrow4 hat4
      have HB4 := hide (app_below hba.out hlo hgrow4 (Nat.le_refl _) hba.out.size)
      have h4 : w4.ownsRow w.heap.size 5 1 v4 (l.length + 1) (bcs (UInt8.ofNat (48 + m) :: l)) := by
        rw [← bcs_cons l (show 48 + m ≤ 255 by omega), Nat.add_comm l.length 1]
        exact hown4
      obtain ⟨A9, c9, rfl, _⟩ := own_shape h4
      obtain ⟨g9, rfl, _, _⟩ : ∃ g, A9 = some ⟨g, 0, none⟩ ∧ w.heap.size ≤ g ∧ g < w4.heap.size := by
        rcases own_block h4 with ⟨_, h0, _⟩ | h0
        · omega
        · exact h0
      have HO4 := hide h4
      clear hown4 hgrow4 hat4 h4 hlo hw8 hwn
      go_wp2_with fail
      go_roundg q.natAbs
      case measure => have := hg.out; have := HLT.out; omega
      case rel => exact ⟨q, UInt8.ofNat (48 + m) :: l, g9, c9, rfl, rfl, HQ.out, by rw [List.length_cons, Nat.add_comm], HO4, HST, HB4⟩
    · rw [if_neg hd] at hdig
      have hkd : k.tmod 10 = (m : Int) := hdig
      have hdd : decide ((m : Int) < 0) = false := decide_eq_false (by omega)
      clear hdig hd
      have hw8 : IntKind.u8.wrap (48 + (m : Int)) = 48 + (m : Int) := by simp [IntKind.wrap, IntKind.bits, IntKind.signed]; omega
      go_wp2_with (at_builtin; refine Hid.out ?_)
      refine hide ?_
      have hlo := hlit.out
      refine wp_app _ rfl _ _ 22 rfl w.heap.size 5 i0 (.int .u8 0) 1 1 Tryz.underlying22 hi0 hz0 hs0 hb0 rfl (by decide) (.slice (some ⟨wr.heap.size, 0, none⟩) 1 1) 1 _ rfl hlo _ _ l.length cb (bcs l) rfl (by rw [bcs_len]; omega) hsrc.out (bcs_one l) ?c2 (by decide) ?c3 ?_
      case c2 => omega
      case c3 => exact hba.out.size
      intro v4 w4 hown4 hgrow4 hat4
      have HB4 := hide (app_below hba.out hlo hgrow4 (Nat.le_refl _) hba.out.size)
      have h4 : w4.ownsRow w.heap.size 5 1 v4 (l.length + 1) (bcs (UInt8.ofNat (48 + m) :: l)) := by
        rw [← bcs_cons l (show 48 + m ≤ 255 by omega), Nat.add_comm l.length 1]
        exact hown4
      obtain ⟨A9, c9, rfl, _⟩ := own_shape h4
      obtain ⟨g9, rfl, _, _⟩ : ∃ g, A9 = some ⟨g, 0, none⟩ ∧ w.heap.size ≤ g ∧ g < w4.heap.size := by
        rcases own_block h4 with ⟨_, h0, _⟩ | h0
        · omega
        · exact h0
      have HO4 := hide h4
      clear hown4 hgrow4 hat4 h4 hlo hw8
      go_wp2_with fail
      go_roundg q.natAbs
      case measure => have := hg.out; have := HLT.out; omega
      case rel => exact ⟨q, UInt8.ofNat (48 + m) :: l, g9, c9, rfl, rfl, HQ.out, by rw [List.length_cons, Nat.add_comm], HO4, HST, HB4⟩
end Go.Proofs.YtaajkmjilcamgaaGreatDoor
namespace Go.Proofs.YtaajkmjilcamgaaGreatDoor
open Go.RowKit
def denR (x : T4) : Int := 100 + x.b + 10 * x.d
def okR (x : T4) : Bool := inB 1 2000 x.a && (inB 0 500 x.b && (inB 1 100 x.c && inB 0 40 x.d))
theorem okR_iff {x : T4} : okR x = true ↔ (1 ≤ x.a ∧ x.a ≤ 2000) ∧ (0 ≤ x.b ∧ x.b ≤ 500) ∧ (1 ≤ x.c ∧ x.c ≤ 100) ∧ (0 ≤ x.d ∧ x.d ≤ 40) := by simp [okR, inB]
def ticksR (x : T4) : Int := (x.a * denR x + 100 * x.c - 1) / (100 * x.c)
def okRs (xs : List T4) : Bool := decide (xs.length ≤ 8) && xs.all okR
def sumR (xs : List T4) : Int := (xs.map ticksR).sum
def lowF (n d : Int) : Int × Int := (n / (Int.gcd n d : Int), d / (Int.gcd n d : Int))
def tickCode (b : Bool) (t : Int) : Int := if b = false then 1 else if inB 0 1000000 t = false then 2 else 0
def ticksOfWay (xs : List T4) : Int × Int := if okRs xs = false then (0, 1) else (sumR xs, 0)
def speedOf (x : T4) : (Int × Int) × Int := if okR x = false then ((0, 0), 1) else (lowF (100 * x.c) (denR x), 0)
def placeGo : List T4 → Int → Nat → Int × (Int × Int) × Int
  | [], _, _ => (0, (0, 0), 3)
  | x :: xs, t, i => if t < ticksR x then ((i : Int), lowF (100 * x.c * t) (denR x), 0) else placeGo xs (t - ticksR x) (i + 1)
def placeAfter (xs : List T4) (t : Int) : Int × (Int × Int) × Int := if tickCode (okRs xs) t = 0 then placeGo xs t 0 else (0, (0, 0), tickCode (okRs xs) t)
def slowGo : List T4 → Nat → T4 → Nat → Nat
  | [], _, _, k => k
  | x :: xs, i, y, k => if x.c * denR y < y.c * denR x then slowGo xs (i + 1) x i else slowGo xs (i + 1) y k
def slowest (xs : List T4) : Int × Int := if okRs xs = false then (0, 1) else match xs with | [] => (0, 3) | x :: _ => ((slowGo xs 0 x 0 : Nat), 0)
def caught (a b : T4) (later t : Int) : Bool := decide (a.c * t * denR b ≤ b.c * (t - later) * denR a)
def catchGo (a b : T4) (later : Int) : Nat → Int → Int × Int
  | 0, _ => (0, 3)
  | n + 1, t => if caught a b later t then (t, 0) else catchGo a b later n (t + 1)
def catchUp (a b : T4) (later : Int) : Int × Int := if okR a = false ∨ okR b = false then (0, 1) else if inB 0 10000 later = false then (0, 2) else if a.a ≠ b.a then (0, 8) else catchGo a b later (ticksR a - later).toNat later
/-- A ride with a pressure more. -/
def upR (x : T4) : T4 := ⟨x.a, x.b, x.c + 1, x.d⟩
def setC (x : T4) (c : Int) : T4 := ⟨x.a, x.b, c, x.d⟩
/-- The ride for which more pressure saves most. -/
def pickGo : List T4 → Nat → Int → Int → Int × Int
  | [], _, k, m => (k, m)
  | x :: xs, i, k, m => if x.c = 100 then pickGo xs (i + 1) k m else if m < ticksR x - ticksR (upR x) then pickGo xs (i + 1) i (ticksR x - ticksR (upR x)) else pickGo xs (i + 1) k m
def pressGo (goal : Int) : Nat → List T4 → List Int × Int
  | 0, _ => ([], 3)
  | n + 1, xs => if sumR xs ≤ goal then (xs.map T4.c, 0) else if (pickGo xs 0 (-1) (-1)).1 < 0 then ([], 3) else
    pressGo goal n (match xs[(pickGo xs 0 (-1) (-1)).1.toNat]? with | some x => xs.set (pickGo xs 0 (-1) (-1)).1.toNat (upR x) | none => xs)
def bestPress (xs : List T4) (goal : Int) : List Int × Int := if tickCode (okRs xs) goal = 0 then pressGo goal 801 (xs.map fun x => setC x 1) else ([], tickCode (okRs xs) goal)

/-! ### The plain law -/
theorem denR_pos {x : T4} (h : okR x = true) : 100 ≤ denR x ∧ denR x ≤ 1000 := by
  have := okR_iff.1 h; unfold denR; omega
theorem ticksR_pos {x : T4} (h : okR x = true) : 1 ≤ ticksR x := by
  have h1 := okR_iff.1 h
  have h2 := denR_pos h
  unfold ticksR
  have h3 : 1 * 1 ≤ x.a * denR x := Int.mul_le_mul h1.1.1 (by omega) (by omega) (by omega)
  rw [Int.le_ediv_iff_mul_le (by omega)]; omega
theorem lt_ticks {x : T4} (h : okR x = true) {t : Int} (ht : t < ticksR x) : 100 * x.c * t ≤ x.a * denR x := by
  have h1 := okR_iff.1 h
  unfold ticksR at ht
  have h3 : t + 1 ≤ (x.a * denR x + 100 * x.c - 1) / (100 * x.c) := by omega
  rw [Int.le_ediv_iff_mul_le (by omega), Int.add_mul] at h3
  rw [Int.mul_comm (100 * x.c) t]; omega
theorem lowF_le {n d l : Int} (hd : 0 < d) (h : n ≤ l * d) : (lowF n d).1 ≤ l * (lowF n d).2 := by
  unfold lowF
  have hg0 : Int.gcd n d ≠ 0 := by intro e; rw [Int.gcd_eq_zero_iff] at e; omega
  have hg : (0 : Int) < (Int.gcd n d : Int) := by omega
  obtain ⟨a, ha⟩ := Int.gcd_dvd_left n d
  obtain ⟨b, hb⟩ := Int.gcd_dvd_right n d
  rw [Int.ediv_eq_of_eq_mul_right (by omega) ha, Int.ediv_eq_of_eq_mul_right (by omega) hb]
  generalize (Int.gcd n d : Int) = g at *
  subst ha hb
  rw [← Int.mul_assoc, Int.mul_comm l, Int.mul_assoc] at h
  exact Int.le_of_mul_le_mul_left h hg
theorem lowF_den {n d : Int} (hd : 0 < d) : 1 ≤ (lowF n d).2 ∧ (lowF n d).2 ≤ d := by
  unfold lowF
  have hg0 : Int.gcd n d ≠ 0 := by intro e; rw [Int.gcd_eq_zero_iff] at e; omega
  have hg : (0 : Int) < (Int.gcd n d : Int) := by omega
  have hle : (Int.gcd n d : Int) ≤ d := Int.le_of_dvd hd (Int.gcd_dvd_right n d)
  constructor
  · show 1 ≤ d / (Int.gcd n d : Int)
    rw [Int.le_ediv_iff_mul_le hg]; omega
  · exact Int.ediv_le_self _ (by omega)
theorem lowF_num {n d : Int} (hn : 0 ≤ n) (hd : 0 < d) : 0 ≤ (lowF n d).1 ∧ (lowF n d).1 ≤ n := by
  unfold lowF
  exact ⟨Int.ediv_nonneg hn (by omega), Int.ediv_le_self _ hn⟩
/-- Fractions in lowest terms are compared as they were. -/
theorem lowF_cmp {n d n' d' : Int} (hd : 0 < d) (hd' : 0 < d') (h : n' * d ≤ n * d') : (lowF n' d').1 * (lowF n d).2 ≤ (lowF n d).1 * (lowF n' d').2 := by
  unfold lowF
  have hg0 : Int.gcd n d ≠ 0 := by intro e; rw [Int.gcd_eq_zero_iff] at e; omega
  have hg0' : Int.gcd n' d' ≠ 0 := by intro e; rw [Int.gcd_eq_zero_iff] at e; omega
  have hg : (0 : Int) < (Int.gcd n d : Int) := by omega
  have hg' : (0 : Int) < (Int.gcd n' d' : Int) := by omega
  obtain ⟨a, ha⟩ := Int.gcd_dvd_left n d
  obtain ⟨b, hb⟩ := Int.gcd_dvd_right n d
  obtain ⟨a', ha'⟩ := Int.gcd_dvd_left n' d'
  obtain ⟨b', hb'⟩ := Int.gcd_dvd_right n' d'
  rw [Int.ediv_eq_of_eq_mul_right (by omega) ha, Int.ediv_eq_of_eq_mul_right (by omega) hb, Int.ediv_eq_of_eq_mul_right (by omega) ha', Int.ediv_eq_of_eq_mul_right (by omega) hb']
  generalize (Int.gcd n d : Int) = g at *
  generalize (Int.gcd n' d' : Int) = g' at *
  subst ha hb ha' hb'
  have e1 : g' * a' * (g * b) = (g * g') * (a' * b) := by ac_rfl
  have e2 : g * a * (g' * b') = (g * g') * (a * b') := by ac_rfl
  rw [e1, e2] at h
  exact Int.le_of_mul_le_mul_left h (Int.mul_pos hg hg')
theorem okRs_iff {xs : List T4} : okRs xs = true ↔ xs.length ≤ 8 ∧ ∀ x ∈ xs, okR x = true := by simp [okRs]
theorem sumR_nonneg {xs : List T4} (h : ∀ x ∈ xs, okR x = true) : 0 ≤ sumR xs := by
  induction xs with
  | nil => simp [sumR]
  | cons x xs ih =>
    have h1 := ticksR_pos (h x (List.mem_cons_self ..))
    have h2 := ih fun y hy => h y (List.mem_cons_of_mem _ hy)
    unfold sumR at *; rw [List.map_cons, List.sum_cons]; omega
theorem sumR_cons (x : T4) (xs : List T4) : sumR (x :: xs) = ticksR x + sumR xs := by unfold sumR; rw [List.map_cons, List.sum_cons]
theorem placeGo_law {xs : List T4} (h : ∀ x ∈ xs, okR x = true) : ∀ (t : Int) (i : Nat), 0 ≤ t →
    ((placeGo xs t i).2.2 = 0 ∧ t < sumR xs ∧ ∃ k x, (placeGo xs t i).1 = ((i + k : Nat) : Int) ∧ xs[k]? = some x ∧ (placeGo xs t i).2.1.1 ≤ x.a * (placeGo xs t i).2.1.2) ∨ ((placeGo xs t i).2.2 = 3 ∧ sumR xs ≤ t) := by
  induction xs with
  | nil =>
    intro t i ht
    exact .inr ⟨rfl, by simpa [sumR] using ht⟩
  | cons x xs ih =>
    intro t i ht0
    have hx := h x (List.mem_cons_self ..)
    have hxs := fun y hy => h y (List.mem_cons_of_mem _ hy)
    have hd := denR_pos hx
    unfold placeGo
    rw [sumR_cons]
    split
    · rename_i ht
      have := sumR_nonneg hxs
      exact .inl ⟨rfl, by omega, 0, x, rfl, rfl, lowF_le (by omega) (lt_ticks hx ht)⟩
    · rename_i ht; rcases ih hxs (t - ticksR x) (i + 1) (by omega) with ⟨h1, h2, k, y, h3, h4, h5⟩ | ⟨h1, h2⟩
      · exact .inl ⟨h1, by omega, k + 1, y, by rw [h3]; congr 1; omega, by simpa using h4, h5⟩
      · exact .inr ⟨h1, by omega⟩
theorem slowGo_law : ∀ (xs ys : List T4) (y : T4) (k : Nat), (∀ x ∈ ys, okR x = true) → (∀ x ∈ xs, okR x = true) → ys[k]? = some y → (∀ x ∈ ys, y.c * denR x ≤ x.c * denR y) →
    ∃ z, (ys ++ xs)[slowGo xs ys.length y k]? = some z ∧ ∀ x ∈ ys ++ xs, z.c * denR x ≤ x.c * denR z := by
  intro xs
  induction xs with
  | nil => intro ys y k h1 _ h3 h4; exact ⟨y, by simpa [slowGo] using h3, by simpa using h4⟩
  | cons x xs ih =>
    intro ys y k h1 h2 h3 h4
    have hx := h2 x (List.mem_cons_self ..)
    have hxs := fun z hz => h2 z (List.mem_cons_of_mem _ hz)
    have hys : ∀ z ∈ ys ++ [x], okR z = true := fun z hz => by
      rcases List.mem_append.1 hz with hz | hz
      · exact h1 z hz
      · rw [List.mem_singleton] at hz; subst hz; exact hx
    have hy := h1 y (List.mem_of_getElem? h3)
    have e : ys ++ x :: xs = (ys ++ [x]) ++ xs := by simp
    unfold slowGo
    split
    · rename_i hlt
      have := ih (ys ++ [x]) x ys.length hys hxs (by simp) (fun z hz => by
        rcases List.mem_append.1 hz with hz | hz
        · have hzo := h1 z hz
          have h5 := h4 z hz
          have hdy := (denR_pos hy).1; have hdz := (denR_pos hzo).1; have hdx := (denR_pos hx).1
          -- x/dx < y/dy ≤ z/dz
          have h6 : x.c * denR y * denR z ≤ y.c * denR x * denR z := Int.mul_le_mul_of_nonneg_right (by omega) (by omega)
          have h7 : y.c * denR z * denR x ≤ z.c * denR y * denR x := Int.mul_le_mul_of_nonneg_right h5 (by omega)
          have h8 : denR y * (x.c * denR z) ≤ denR y * (z.c * denR x) := by
            have a1 : denR y * (x.c * denR z) = x.c * denR y * denR z := by rw [← Int.mul_assoc, Int.mul_comm (denR y)]
            have a2 : y.c * denR x * denR z = y.c * denR z * denR x := by rw [Int.mul_assoc, Int.mul_comm (denR x), ← Int.mul_assoc]
            have a3 : denR y * (z.c * denR x) = z.c * denR y * denR x := by rw [← Int.mul_assoc, Int.mul_comm (denR y)]
            omega
          exact Int.le_of_mul_le_mul_left h8 (by omega)
        · rw [List.mem_singleton] at hz; subst hz; exact Int.le_refl _)
      rw [List.length_append, List.length_singleton] at this
      rw [e]; exact this
    · rename_i hlt
      have := ih (ys ++ [x]) y k hys hxs (by rw [List.getElem?_append_left (lt_of_get h3)]; exact h3) (fun z hz => by
        rcases List.mem_append.1 hz with hz | hz
        · exact h4 z hz
        · rw [List.mem_singleton] at hz; subst hz; omega)
      rw [List.length_append, List.length_singleton] at this
      rw [e]; exact this
theorem catchGo_law (a b : T4) (later : Int) : ∀ (n : Nat) (t : Int), (catchGo a b later n t).2 = 0 → t ≤ (catchGo a b later n t).1 := by
  intro n
  induction n with
  | zero => intro t h; cases h
  | succ n ih =>
    intro t h
    unfold catchGo at h ⊢
    split
    · exact Int.le_refl _
    · rename_i hc; rw [if_neg hc] at h; have := ih (t + 1) h; omega
theorem pickGo_law {xs : List T4} : ∀ (i : Nat) (k m : Int), (k = -1 ∨ ∃ j : Nat, k = j) → ((pickGo xs i k m).1 = k ∨ ∃ (j : Nat) (x : T4), (pickGo xs i k m).1 = ((i + j : Nat) : Int) ∧ xs[j]? = some x ∧ x.c ≠ 100) := by
  induction xs with
  | nil => intro i k m _; exact .inl rfl
  | cons x xs ih =>
    intro i k m hk
    unfold pickGo
    have hsh : ∀ {r : Int}, (∃ (j : Nat) (x : T4), r = ((i + 1 + j : Nat) : Int) ∧ xs[j]? = some x ∧ x.c ≠ 100) → ∃ (j : Nat) (y : T4), r = ((i + j : Nat) : Int) ∧ (x :: xs)[j]? = some y ∧ y.c ≠ 100 := by
      rintro r ⟨j, y, h1, h2, h3⟩
      exact ⟨j + 1, y, by rw [h1]; congr 1; omega, by simpa using h2, h3⟩
    split
    · rcases ih (i + 1) k m hk with h | h
      · exact .inl h
      · exact .inr (hsh h)
    · rename_i hc
      split
      · rcases ih (i + 1) i (ticksR x - ticksR (upR x)) (.inr ⟨i, rfl⟩) with h | h
        · exact .inr ⟨0, x, h, rfl, hc⟩
        · exact .inr (hsh h)
      · rcases ih (i + 1) k m hk with h | h
        · exact .inl h
        · exact .inr (hsh h)
theorem map_set_of {α β : Type} (f : α → β) : ∀ (xs : List α) (k : Nat) (x y : α), xs[k]? = some x → f y = f x → (xs.set k y).map f = xs.map f := by
  intro xs
  induction xs with
  | nil => intro k x y h; cases h
  | cons z zs ih =>
    intro k x y h e
    cases k with
    | zero => simp at h; subst h; simp [e]
    | succ k => simp only [List.set_cons_succ, List.map_cons]; rw [ih k x y (by simpa using h) e]
theorem upR_ok {x : T4} (h : okR x = true) (hc : x.c ≠ 100) : okR (upR x) = true := by
  have := okR_iff.1 h
  rw [okR_iff]; unfold upR; dsimp only; omega
theorem mem_set_or {α : Type} {xs : List α} {k : Nat} {y z : α} (h : z ∈ xs.set k y) : z = y ∨ z ∈ xs := by
  obtain ⟨i, hi⟩ := List.getElem?_of_mem h
  rw [List.getElem?_set] at hi
  split at hi
  · split at hi
    · cases hi; exact .inl rfl
    · cases hi
  · exact .inr (List.mem_of_getElem? hi)
theorem pressGo_law (goal : Int) : ∀ (n : Nat) (xs : List T4), (∀ x ∈ xs, okR x = true) → (pressGo goal n xs).2 = 0 →
    ∃ ys : List T4, ys.map (fun x => setC x 0) = xs.map (fun x => setC x 0) ∧ (∀ x ∈ ys, okR x = true) ∧ sumR ys ≤ goal ∧ (pressGo goal n xs).1 = ys.map T4.c := by
  intro n
  induction n with
  | zero => intro xs _ h; cases h
  | succ n ih =>
    intro xs hx h
    unfold pressGo at h ⊢
    by_cases h1 : sumR xs ≤ goal
    · rw [if_pos h1] at h ⊢; exact ⟨xs, rfl, hx, h1, rfl⟩
    · rw [if_neg h1] at h ⊢
      by_cases h2 : (pickGo xs 0 (-1) (-1)).1 < 0
      · rw [if_pos h2] at h; cases h
      · rw [if_neg h2] at h ⊢
        rcases pickGo_law (xs := xs) 0 (-1) (-1) (.inl rfl) with h3 | ⟨j, x, h3, h4, h5⟩
        · omega
        · rw [Nat.zero_add] at h3
          rw [h3] at h ⊢
          rw [Int.toNat_natCast, h4] at h ⊢
          dsimp only at h ⊢
          obtain ⟨ys, e1, e2, e3, e4⟩ := ih (xs.set j (upR x)) (fun z hz => by
            rcases mem_set_or hz with rfl | hz
            · exact upR_ok (hx x (List.mem_of_getElem? h4)) h5
            · exact hx z hz) h
          exact ⟨ys, by rw [e1, map_set_of (fun x => setC x 0) xs j x (upR x) h4 rfl], e2, e3, e4⟩
theorem zip_back : ∀ (xs ys : List T4), ys.map (fun x => setC x 0) = xs.map (fun x => setC x 0) → List.zipWith setC xs (ys.map T4.c) = ys := by
  intro xs
  induction xs with
  | nil => intro ys h; cases ys with | nil => rfl | cons y ys => cases h
  | cons x xs ih =>
    intro ys h
    cases ys with
    | nil => cases h
    | cons y ys =>
      simp only [List.map_cons, List.cons.injEq] at h
      rw [List.map_cons, List.zipWith_cons_cons, ih ys h.2]
      have e : setC x y.c = y := by
        have := h.1
        cases x; cases y
        simp only [setC, T4.mk.injEq, true_and, and_true] at this ⊢
        exact ⟨this.1.symm, this.2.1.symm, this.2.2.symm⟩
      rw [e]
/-- Pressures that are told are enough. -/
theorem bestPress_law {xs : List T4} {goal : Int} (h : (bestPress xs goal).2 = 0) : (bestPress xs goal).1.length = xs.length ∧ okRs (List.zipWith setC xs (bestPress xs goal).1) = true ∧ sumR (List.zipWith setC xs (bestPress xs goal).1) ≤ goal ∧ (∀ z ∈ (bestPress xs goal).1, 1 ≤ z ∧ z ≤ 100) := by
  unfold bestPress at h ⊢
  split at h
  case isFalse hc => exact absurd h hc
  rename_i hc
  rw [if_pos hc]
  have hok : okRs xs = true := by
    unfold tickCode at hc; split at hc
    · cases hc
    · rename_i h1; simpa using h1
  obtain ⟨hl, hx⟩ := okRs_iff.1 hok
  have hx1 : ∀ x ∈ xs.map (fun x => setC x 1), okR x = true := fun z hz => by
    obtain ⟨x, hm, rfl⟩ := List.mem_map.1 hz
    have := okR_iff.1 (hx x hm)
    rw [okR_iff]; unfold setC; dsimp only; omega
  obtain ⟨ys, e1, e2, e3, e4⟩ := pressGo_law goal 801 _ hx1 h
  have e5 : ys.map (fun x => setC x 0) = xs.map (fun x => setC x 0) := by rw [e1, List.map_map]; rfl
  have hlen : ys.length = xs.length := by have := congrArg List.length e5; simpa using this
  rw [e4]
  refine ⟨by rw [List.length_map, hlen], ?_, ?_, ?_⟩
  · rw [zip_back _ _ e5, okRs_iff]; exact ⟨by omega, e2⟩
  · rw [zip_back _ _ e5]; exact e3
  · intro z hz
    obtain ⟨x, hm, rfl⟩ := List.mem_map.1 hz
    exact (okR_iff.1 (e2 x hm)).2.2.1
theorem slowest_law {xs : List T4} (h : (slowest xs).2 = 0) : ∃ (k : Nat) (z : T4), (slowest xs).1 = k ∧ xs[k]? = some z ∧ okRs xs = true ∧ ∀ x ∈ xs, z.c * denR x ≤ x.c * denR z := by
  unfold slowest at h ⊢
  by_cases hc : okRs xs = false
  · rw [if_pos hc] at h; cases h
  · rw [if_neg hc] at h ⊢
    have hok : okRs xs = true := by simpa using hc
    obtain ⟨_, hx⟩ := okRs_iff.1 hok
    cases xs with
    | nil => cases h
    | cons x xs =>
      dsimp only at h ⊢
      have h1 := slowGo_law xs [x] x 0 (fun z hz => by rw [List.mem_singleton] at hz; subst hz; exact hx _ (List.mem_cons_self ..)) (fun z hz => hx z (List.mem_cons_of_mem _ hz)) rfl (fun z hz => by rw [List.mem_singleton] at hz; subst hz; exact Int.le_refl _)
      have e : slowGo (x :: xs) 0 x 0 = slowGo xs [x].length x 0 := by
        rw [slowGo]
        rw [if_neg (by omega)]; rfl
      obtain ⟨z, h2, h3⟩ := h1
      exact ⟨_, z, rfl, by rw [e]; exact h2, hok, h3⟩
end Go.Proofs.YtaajkmjilcamgaaGreatDoor
namespace Go.Proofs.YtaajkmjilcamgaaGreatDoor
open Go.RowKit
def tubeL (t : T3) : List UInt8 := Lib.itoa t.a ++ 62 :: (Lib.itoa t.b ++ 42 :: Lib.itoa t.c)
def headL (n : Int) : List UInt8 := Lib.itoa n ++ [58]
def netL (n : Int) (tb : List T3) : List UInt8 := Lib.join (headL n :: tb.map tubeL) [32]
def tubeB (t : T3) : ByteArray := ⟨(tubeL t).toArray⟩
def headB (n : Int) : ByteArray := ⟨(headL n).toArray⟩
def netB (n : Int) (tb : List T3) : ByteArray := ⟨(netL n tb).toArray⟩
theorem app_mk (x y : List UInt8) : (⟨x.toArray⟩ : ByteArray) ++ ⟨y.toArray⟩ = ⟨(x ++ y).toArray⟩ := by
  apply ByteArray.ext; simp [ByteArray.data_append]
theorem headB_eq (n : Int) : decB n ++ ⟨#[58]⟩ = headB n := app_mk _ [58]
theorem tubeB_eq (t : T3) : decB t.a ++ ⟨#[62]⟩ ++ decB t.b ++ ⟨#[42]⟩ ++ decB t.c = tubeB t := by
  have e1 : decB t.a ++ ⟨#[62]⟩ = ⟨(Lib.itoa t.a ++ [62]).toArray⟩ := app_mk _ [62]
  have e2 : (⟨(Lib.itoa t.a ++ [62]).toArray⟩ : ByteArray) ++ decB t.b = ⟨((Lib.itoa t.a ++ [62]) ++ Lib.itoa t.b).toArray⟩ := app_mk _ _
  have e3 : (⟨((Lib.itoa t.a ++ [62]) ++ Lib.itoa t.b).toArray⟩ : ByteArray) ++ ⟨#[42]⟩ = ⟨((Lib.itoa t.a ++ [62]) ++ Lib.itoa t.b ++ [42]).toArray⟩ := app_mk _ [42]
  have e4 : (⟨((Lib.itoa t.a ++ [62]) ++ Lib.itoa t.b ++ [42]).toArray⟩ : ByteArray) ++ decB t.c = ⟨((Lib.itoa t.a ++ [62]) ++ Lib.itoa t.b ++ [42] ++ Lib.itoa t.c).toArray⟩ := app_mk _ _
  rw [e1, e2, e3, e4]
  simp [tubeB, tubeL]
theorem tube_cut1 (t : T3) : Lib.cut (tubeL t) [62] = (Lib.itoa t.a, Lib.itoa t.b ++ 42 :: Lib.itoa t.c, true) := cut_app _ (itoa_not (by decide) (by decide))
theorem tube_cut2 (t : T3) : Lib.cut (Lib.itoa t.b ++ 42 :: Lib.itoa t.c) [42] = (Lib.itoa t.b, Lib.itoa t.c, true) := cut_app _ (itoa_not (by decide) (by decide))
theorem head_trim (n : Int) : Lib.trimSuffix (headL n) [58] = Lib.itoa n := trim_app _ _
theorem tubeL_no (t : T3) : (32 : UInt8) ∉ tubeL t := by
  unfold tubeL
  simp only [List.mem_append, List.mem_cons, not_or]
  exact ⟨itoa_not (by decide) (by decide), by decide, itoa_not (by decide) (by decide), by decide, itoa_not (by decide) (by decide)⟩
theorem headL_no (n : Int) : (32 : UInt8) ∉ headL n := by
  unfold headL
  simp only [List.mem_append, List.mem_cons, List.not_mem_nil, or_false, not_or]
  exact ⟨itoa_not (by decide) (by decide), by decide⟩
theorem netWs_no (n : Int) (tb : List T3) : ∀ x ∈ headL n :: tb.map tubeL, (32 : UInt8) ∉ x := by
  intro x hx
  rcases List.mem_cons.1 hx with rfl | hx
  · exact headL_no n
  · obtain ⟨t, _, rfl⟩ := List.mem_map.1 hx; exact tubeL_no t
theorem itoa_len {n : Int} (h : n.natAbs < 1000000000000000000) : (Lib.itoa n).length ≤ 19 := by
  have := decDigits_len h
  unfold Lib.itoa
  split
  · simp; omega
  · rw [show n.toNat = n.natAbs by omega]; omega
theorem tubeL_len {n : Int} {t : T3} (h : (0 ≤ t.a ∧ t.a ≤ 1000) ∧ (0 ≤ t.b ∧ t.b ≤ 1000) ∧ (0 ≤ t.c ∧ t.c ≤ 10000)) : (tubeL t).length ≤ 59 := by
  have h1 := itoa_len (n := t.a) (by omega)
  have h2 := itoa_len (n := t.b) (by omega)
  have h3 := itoa_len (n := t.c) (by omega)
  unfold tubeL
  simp only [List.length_append, List.length_cons]
  omega
theorem join_len : ∀ (ws : List (List UInt8)) (c : UInt8) (m : Nat), (∀ x ∈ ws, x.length ≤ m) → (Lib.join ws [c]).length ≤ ws.length * (m + 1)
  | [], _, _, _ => Nat.zero_le _
  | w :: ws, c, m, h => by
    rw [Lib.join_length]
    have h2 : ∀ ys : List (List UInt8), (∀ x ∈ ys, x.length ≤ m) → Lib.lens ys ≤ ys.length * m := by
      intro ys
      induction ys with
      | nil => intro _; exact Nat.zero_le _
      | cons y ys ih =>
        intro hy
        have e : Lib.lens (y :: ys) = y.length + Lib.lens ys := by simp [Lib.lens]
        rw [e, List.length_cons, Nat.succ_mul]
        have := hy y (List.mem_cons_self ..)
        have := ih fun x hx => hy x (List.mem_cons_of_mem _ hx)
        omega
    have := h2 (w :: ws) h
    simp only [List.length_cons, List.length_nil] at this ⊢
    rw [Nat.succ_mul] at this
    have e : (ws.length + 1) * (m + 1) = ws.length * m + ws.length + m + 1 := by rw [Nat.add_mul, Nat.mul_add]; omega
    rw [e]
    omega
/-- The words of the text of a network, as the library cuts it into at most 26. -/
theorem net_words {n : Int} {tb : List T3} (h : tb.length ≤ 24) : Lib.splitB ⟨#[32]⟩ 0 (min 26 ((netB n tb).size + 1) - 1) (netB n tb) = headB n :: tb.map tubeB := by
  have hc : (netL n tb).count 32 = tb.length := by
    have := count_join (c := 32) (netWs_no n tb)
    rwa [List.length_map] at this
  have hs : (netB n tb).size = (netL n tb).length := by simp [netB, ByteArray.size]
  have hle : (netL n tb).count 32 ≤ (netL n tb).length := List.count_le_length
  rw [splitB_of (by
    show (netL n tb).count 32 ≤ _
    rw [hs]; omega)]
  unfold splitW
  rw [show (netB n tb).data.toList = Lib.join (headL n :: tb.map tubeL) [32] from rfl, splitL_join (netWs_no n tb), List.map_cons, List.map_map]
  rfl
end Go.Proofs.YtaajkmjilcamgaaGreatDoor
namespace Go.Proofs.YtaajkmjilcamgaaGreatDoor
open Go.RowKit
def rideL (x : T4) : List UInt8 := Lib.itoa x.a ++ 109 :: 32 :: (Lib.itoa x.b ++ 103 :: 32 :: (Lib.itoa x.c ++ 112 :: 32 :: (Lib.itoa x.d ++ [98])))
def textR (A B C D : ByteArray) : ByteArray := A ++ ⟨#[109, 32]⟩ ++ B ++ ⟨#[103, 32]⟩ ++ C ++ ⟨#[112, 32]⟩ ++ D ++ ⟨#[98]⟩
def rideB (x : T4) : ByteArray := if okR x = true then textR (decB x.a) (decB x.b) (decB x.c) (decB x.d) else ⟨#[]⟩
theorem textR_eq (x : T4) : (textR (decB x.a) (decB x.b) (decB x.c) (decB x.d)).data.toList = rideL x := by
  unfold textR rideL decB
  simp [ByteArray.data_append]
theorem rideB_ok {x : T4} (h : okR x = true) : (rideB x).data.toList = rideL x := by unfold rideB; rw [if_pos h, textR_eq]
theorem rideB_no {x : T4} (h : okR x = false) : rideB x = ⟨#[]⟩ := by unfold rideB; rw [if_neg (by simp [h])]
/-- The number ahead of the letter u with which a word ends. -/
def unitN (u : UInt8) (w : List UInt8) : Option Int := if w.getLast? = some u then numOf w.dropLast else none
theorem unitN_mk {u : UInt8} {n : Int} (h : n.natAbs < 1000000000000000000) : unitN u (Lib.itoa n ++ [u]) = some n := by
  unfold unitN
  rw [if_pos (by simp), List.dropLast_concat, numOf_itoa h]
theorem unitN_some {u : UInt8} {w : List UInt8} {n : Int} (h : unitN u w = some n) : w = Lib.itoa n ++ [u] ∧ n.natAbs < 1000000000000000000 := by
  unfold unitN at h
  split at h
  · rename_i hl
    obtain ⟨h1, h2⟩ := numOf_some h
    refine ⟨?_, h2⟩
    rw [h1]
    have hne : w ≠ [] := fun e => by rw [e] at hl; cases hl
    rw [List.getLast?_eq_some_getLast hne] at hl
    conv => lhs; rw [← List.dropLast_concat_getLast hne, Option.some.inj hl]
  · cases h
def quadR (a b c d : Option Int) : Option T4 := if (a.isSome && b.isSome && c.isSome && d.isSome && okR ⟨a.getD 0, b.getD 0, c.getD 0, d.getD 0⟩) = true then some ⟨a.getD 0, b.getD 0, c.getD 0, d.getD 0⟩ else none
def readW : List (List UInt8) → Option T4
  | [a, b, c, d] => quadR (unitN 109 a) (unitN 103 b) (unitN 112 c) (unitN 98 d)
  | _ => none
def readL (l : List UInt8) : Option T4 := readW (splitL 32 l)
def readB (s : ByteArray) : Option T4 := readL s.data.toList
theorem quadR_some {a b c d : Option Int} {x : T4} (h : quadR a b c d = some x) : a = some x.a ∧ b = some x.b ∧ c = some x.c ∧ d = some x.d ∧ okR x = true := by
  unfold quadR at h
  split at h
  · rename_i hs
    cases h
    simp only [Bool.and_eq_true] at hs
    obtain ⟨⟨⟨⟨h1, h2⟩, h3⟩, h4⟩, h5⟩ := hs
    refine ⟨?_, ?_, ?_, ?_, h5⟩
    · cases a <;> simp_all
    · cases b <;> simp_all
    · cases c <;> simp_all
    · cases d <;> simp_all
  · cases h
theorem quadR_mk {x : T4} (h : okR x = true) : quadR (some x.a) (some x.b) (some x.c) (some x.d) = some x := by
  unfold quadR
  rw [if_pos (by simp [h])]
  rfl
theorem readW_len {ws : List (List UInt8)} (h : ws.length ≠ 4) : readW ws = none := by
  match ws, h with
  | [], _ => rfl
  | [_], _ => rfl
  | [_, _], _ => rfl
  | [_, _, _], _ => rfl
  | [_, _, _, _], h => exact absurd rfl h
  | _ :: _ :: _ :: _ :: _ :: _, _ => rfl
theorem itoa32 (n : Int) : (32 : UInt8) ∉ Lib.itoa n := itoa_not (by decide) (by decide)
theorem word32 {n : Int} {u : UInt8} (hu : u ≠ 32) : (32 : UInt8) ∉ Lib.itoa n ++ [u] := by
  intro h
  rcases List.mem_append.1 h with h | h
  · exact itoa32 n h
  · simp at h; exact hu h.symm
theorem rideL_words (x : T4) : splitL 32 (rideL x) = [Lib.itoa x.a ++ [109], Lib.itoa x.b ++ [103], Lib.itoa x.c ++ [112], Lib.itoa x.d ++ [98]] := by
  have e : rideL x = (Lib.itoa x.a ++ [109]) ++ 32 :: ((Lib.itoa x.b ++ [103]) ++ 32 :: ((Lib.itoa x.c ++ [112]) ++ 32 :: (Lib.itoa x.d ++ [98]))) := by
    unfold rideL; simp
  rw [e, splitL_app _ (word32 (by decide)), splitL_app _ (word32 (by decide)), splitL_app _ (word32 (by decide)), splitL_none (word32 (by decide))]
theorem join_split (c : UInt8) : ∀ l : List UInt8, Lib.join (splitL c l) [c] = l
  | [] => by rw [splitL]; rfl
  | b :: l => by
    have ih := join_split c l
    obtain ⟨x, r, e⟩ := splitL_cons c l
    by_cases h : b = c
    · subst h
      rw [splitL_hit, e] 
      rw [e, Lib.join_cons] at ih
      rw [Lib.join_cons, Lib.joinTail, List.map_cons, List.flatten_cons]
      conv => rhs; rw [← ih]
      simp [Lib.joinTail]
    · rw [splitL_other h e]
      rw [e, Lib.join_cons] at ih
      rw [Lib.join_cons, List.cons_append, ih]
theorem fits_of {x : T4} (h : okR x = true) : x.a.natAbs < 1000000000000000000 ∧ x.b.natAbs < 1000000000000000000 ∧ x.c.natAbs < 1000000000000000000 ∧ x.d.natAbs < 1000000000000000000 := by
  obtain ⟨h1, h2, h3, h4⟩ := okR_iff.1 h
  omega
theorem readL_text {x : T4} (h : okR x = true) : readL (rideL x) = some x := by
  obtain ⟨h1, h2, h3, h4⟩ := fits_of h
  unfold readL
  rw [rideL_words, readW, unitN_mk h1, unitN_mk h2, unitN_mk h3, unitN_mk h4, quadR_mk h]
theorem readB_text {x : T4} (h : okR x = true) : readB (rideB x) = some x := by unfold readB; rw [rideB_ok h, readL_text h]
theorem readB_none : readB ⟨#[]⟩ = none := rfl
theorem readL_some {l : List UInt8} {x : T4} (h : readL l = some x) : okR x = true ∧ rideL x = l := by
  unfold readL at h
  have hj := join_split 32 l
  match hs : splitL 32 l, h with
  | [a, b, c, d], h =>
    obtain ⟨h1, h2, h3, h4, h5⟩ := quadR_some h
    refine ⟨h5, ?_⟩
    rw [hs, (unitN_some h1).1, (unitN_some h2).1, (unitN_some h3).1, (unitN_some h4).1] at hj
    rw [← hj]
    unfold rideL
    rw [Lib.join_cons, Lib.joinTail]
    simp
/-- What the program's reading gives: the numbers of the words less their letters, if the ride's text is the text. -/
theorem readI_no {l a b c d : List UInt8} (hs : splitL 32 l = [a, b, c, d]) (h : numOf (Lib.trimSuffix a [109]) = none ∨ numOf (Lib.trimSuffix b [103]) = none ∨ numOf (Lib.trimSuffix c [112]) = none ∨ numOf (Lib.trimSuffix d [98]) = none) : readL l = none := by
  cases hr : readL l with
  | none => rfl
  | some x =>
    exfalso
    obtain ⟨ho, e⟩ := readL_some hr
    obtain ⟨h1, h2, h3, h4⟩ := fits_of ho
    rw [← e, rideL_words] at hs
    cases hs
    rw [trim_app, trim_app, trim_app, trim_app, numOf_itoa h1, numOf_itoa h2, numOf_itoa h3, numOf_itoa h4] at h
    rcases h with h | h | h | h <;> cases h
theorem readI_yes {s : ByteArray} {a b c d : List UInt8} {x : T4} (hs : splitL 32 s.data.toList = [a, b, c, d]) (h : rideB x = s) : readB s = some x := by
  cases ho : okR x with
  | true => rw [← h]; exact readB_text ho
  | false =>
    rw [rideB_no ho] at h
    rw [← h] at hs
    cases hs
theorem readI_other {s : ByteArray} {a b c d : List UInt8} {x : T4} (hs : splitL 32 s.data.toList = [a, b, c, d]) (ha : numOf (Lib.trimSuffix a [109]) = some x.a) (hb : numOf (Lib.trimSuffix b [103]) = some x.b) (hc : numOf (Lib.trimSuffix c [112]) = some x.c) (hd : numOf (Lib.trimSuffix d [98]) = some x.d) (h : rideB x ≠ s) : readB s = none := by
  cases hr : readB s with
  | none => rfl
  | some y =>
    exfalso
    obtain ⟨ho, e⟩ := readL_some hr
    obtain ⟨h1, h2, h3, h4⟩ := fits_of ho
    rw [← e, rideL_words] at hs
    cases hs
    rw [trim_app, numOf_itoa h1] at ha
    rw [trim_app, numOf_itoa h2] at hb
    rw [trim_app, numOf_itoa h3] at hc
    rw [trim_app, numOf_itoa h4] at hd
    obtain ⟨xa, xb, xc, xd⟩ := x
    obtain ⟨ya, yb, yc, yd⟩ := y
    cases ha; cases hb; cases hc; cases hd
    apply h
    apply ByteArray.ext
    apply Array.ext'
    exact (rideB_ok ho).trans e
end Go.Proofs.YtaajkmjilcamgaaGreatDoor
