/-
  The parameter 'code []byte' of a law: what it reads.
  Distances of two words, and words, in both packages.
  Numbers read from texts: the reference's loop.
  Lists of texts; addresses are valid, in both packages.
  Addresses are valid, in both packages.
  Distances of two words; the least distance of words, in both packages.
  The program's least distance; LeastDistance and CorrectsAll in both packages.
  LeastDistance and CorrectsAll in both packages.
  The nearest address, in the program.
  The nearest address, in the reference.
  Words for which another one can be misread, in the program.
  Words for which another one can be misread, in the reference.
-/
import Derived.Test.YtaajkmjilcamgaaGreatDoorQRides7
import Derived.Test.YtaajkmjilcamgaaGreatDoorQRides6
import Derived.Test.YtaajkmjilcamgaaGreatDoorQRides1
import Derived.BigQuiet
import Derived.Deep.DeepCutAuto
import Derived.Test.YtaajkmjilcamgaaGreatDoorQRides3
import Derived.Test.YtaajkmjilcamgaaGreatDoorQRides5
import Derived.StillTailTactics
namespace Go.Proofs.YtaajkmjilcamgaaGreatDoor
open Go.ChangeShapes Go.WideShapes Go.ChangeAt Go.RowKit Go.Deep

/-- From A on the cells hold bytes. -/
def RdB (w : World) (B : Nat) (A : Option Addr) (zs : List Int) : Prop := Rd w B A (zs.map (Value.int .u8))
section
variable {w w' : World} {B B' : Nat} {A : Option Addr} {zs : List Int}
theorem RdB.at_ (h : RdB w B A zs) {k : Nat} (hk : k < zs.length) : ∃ b o z, A = some ⟨b, o, none⟩ ∧ b < B ∧ zs[k]? = some z ∧ w.cell? ⟨b, o + k, none⟩ = some (.int .u8 z) := by
  obtain ⟨b, o, u, hA, hb, hu, hc⟩ := Rd.at_ (j := k) h (by simpa using hk)
  rw [List.getElem?_map, List.getElem?_eq_getElem hk] at hu
  simp at hu; subst hu
  exact ⟨b, o, zs[k], hA, hb, List.getElem?_eq_getElem hk, hc⟩
theorem RdB.below (h : RdB w B A zs) (hb : Below B w w') : RdB w' B A zs := Rd.below h hb
theorem RdB.more (h : RdB w B A zs) (hB : B ≤ B') : RdB w B' A zs := Rd.more h hB
end
theorem wf8 {z : Int} (h : (Lit.int .u8 z).wf = true) : 0 ≤ z ∧ z ≤ 255 := by
  simp [Lit.wf, IntKind.min, IntKind.max, IntKind.signed, IntKind.bits] at h
  exact ⟨by omega, by omega⟩
section
variable {H : Type} {enc : TypeId × Value → H} {P : Program} {w : World} {spare : Nat → Bool} {held : Bool} {b0 : Nat}
theorem trod_B {t e : TypeId} {fuel : Nat} {v : Value} {x : DataW H × List MemPlace} (ht : P.underlying t = some (.slice e)) (he : P.underlying e = some (.int .u8)) (hc : P.cellsOf e = 1)
    (h : DataW.trod enc P w b0 spare held fuel t [v] = some x) :
    ∃ A c, ∃ zs : List Int, v = .slice A zs.length c ∧ RdB w w.heap.size A zs ∧ zs.length ≤ 9223372036854775807 ∧ ∀ z ∈ zs, 0 ≤ z ∧ z ≤ 255 := by
  rcases open_ints ht he hc h with ⟨hcs, _⟩ | ⟨a, l, c, zs, hcs, _, hl, hm, hz, _, hcell, hwz⟩
  · simp at hcs; subst hcs
    exact ⟨none, 0, [], rfl, Rd.nil _ _ _, by simp, by simp⟩
  · simp at hcs; subst hcs
    have hll : l ≤ zs.length := by rw [hz]; split <;> omega
    unfold maxLen at hm
    refine ⟨some a, c, zs.take l, by simp [Nat.min_eq_left hll], ?_, by simp [Nat.min_eq_left hll]; omega, fun z hz' => wf8 (hwz z (List.mem_of_mem_take hz'))⟩
    refine rd_of_cells fun j hj => ?_
    simp only [List.length_map, List.length_take] at hj
    rw [hcell j (by omega)]
    simp [List.getD, show j < l by omega, show j < zs.length by omega]
theorem open_B {r : Reach} {b1 : Nat} {t e : TypeId} {v : Value} {d : DataW H} {p : List MemPlace} (ht : P.underlying t = some (.slice e)) (he : P.underlying e = some (.int .u8)) (hc : P.cellsOf e = 1)
    (hval : Value.okWide P w r b1 t v) (h : DataW.Trod enc P w b0 spare held t v d p) :
    ∃ A c, ∃ zs : List Int, v = .slice A zs.length c ∧ RdB w w.heap.size A zs ∧ zs.length ≤ 9223372036854775807 ∧ ∀ z ∈ zs, 0 ≤ z ∧ z ≤ 255 := by
  obtain ⟨a, l, c, rfl⟩ := okWide_slice ht hval
  obtain ⟨fuel, hf⟩ := h
  exact trod_B ht he hc (by simpa [Value.cells] using hf)
end
end Go.Proofs.YtaajkmjilcamgaaGreatDoor
namespace Go.Proofs.YtaajkmjilcamgaaGreatDoor
open Go.RowKit
theorem chr_of {s : ByteArray} {i : Nat} (h : i < s.size) : (((s[i]'h).toNat : Nat) : Int) = chr s i := by
  unfold chr
  congr 2
  cases s with
  | mk d =>
    show d[i] = d[i]!
    exact (getElem!_pos d i h).symm
theorem qdn {P : Program} {f : FuncId} {args : Array Value} {w : World} {n : Nat} {v : Value}
    (h : Calls P f args (w.drewN n) fun e w' => e = .returned v ∧ ∃ m, w' = (w.drewN n).drewN m) : Calls P f args (w.drewN n) fun e w'' => e = .returned v ∧ ∃ m, w'' = w.drewN m :=
  h.mono fun _ _ ⟨he, m, hm⟩ => ⟨he, n + m, by rw [hm, World.drewN_drewN]⟩
end Go.Proofs.YtaajkmjilcamgaaGreatDoor
namespace Go.Proofs.YtaajkmjilcamgaaGreatDoor
open Go.RowKit
theorem digit_any (c : Int) (w : World) :
    Calls Tryz.prog 112 #[.int .u8 c] w fun e w' => e = .returned (.bool (decide (48 ≤ c) && decide (c ≤ 57))) ∧ w' = w := by
  go_enter Tryz.func112, Tryz.ntmps112
  by_cases h1 : 48 ≤ c
  · rw [decide_eq_true h1]
    have hB : decide (48 ≤ c) = true := decide_eq_true h1
    go_wp2_with fail
    go_ret
    exact ⟨rfl, rfl⟩
  · rw [decide_eq_false h1]
    have hB : decide (48 ≤ c) = false := decide_eq_false h1
    go_wp2_with fail
    go_ret
    exact ⟨rfl, rfl⟩
theorem decFrom_step {acc d : Nat} {b : UInt8} (h : 48 ≤ b.toNat ∧ b.toNat ≤ 57) (hd : d = b.toNat - 48) (l : List UInt8) : Lib.decFrom acc (b :: l) = Lib.decFrom (acc * 10 + d) l := by
  have : Lib.digitVal b = some d := by unfold Lib.digitVal; rw [if_pos h, hd]
  rw [Lib.decFrom, this]
theorem decFrom_stop {acc : Nat} {b : UInt8} (h : ¬ (48 ≤ b.toNat ∧ b.toNat ≤ 57)) (l : List UInt8) : Lib.decFrom acc (b :: l) = none := by
  have : Lib.digitVal b = none := by unfold Lib.digitVal; rw [if_neg h]
  rw [Lib.decFrom, this]
/-- The text less its sign. -/
def noSB (s : ByteArray) : ByteArray := ⟨(noSign s.data.toList).toArray⟩
theorem noSB_len (s : ByteArray) : (noSB s).size = (noSign s.data.toList).length := by simp [noSB, ByteArray.size]
theorem noSB_data (s : ByteArray) : (noSB s).data.toList = noSign s.data.toList := rfl
set_option maxRecDepth 100000 in
set_option maxHeartbeats 4000000 in
theorem l01Number_any (s : ByteArray) (w : World) (hs : s.size ≤ 1000000000) :
    Calls Tryz.prog 93 #[.string s] w fun e w' => e = .returned (.tuple #[.int .i64 ((numB s).getD 0), .bool (numB s).isSome]) ∧ Below w.heap.size w w' := by
  by_cases h0 : s.size = 0
  · obtain rfl : s = ⟨#[]⟩ := ByteArray.ext (Array.eq_empty_of_size_eq_zero h0)
    have hn : numB ⟨#[]⟩ = none := numOf_empty rfl
    rw [hn]
    clear hn h0 hs
    go_enter Tryz.func93, Tryz.ntmps93
    go_wp2_with fail
    go_ret2
    exact ⟨rfl, Below.refl _ _⟩
  have hne : (s.toList == (⟨#[]⟩ : ByteArray).toList) = false := by
    rw [beq_eq_false_iff_ne, Lib.toList_data, Lib.toList_data]
    intro e
    have := congrArg List.length e
    rw [← Lib.size_eq] at this
    exact h0 this
  have hne1 : ¬ s.toList = [] := fun e => by rw [e] at hne; simp at hne
  have hne2 : s.toList.isEmpty = false := by cases h : s.toList with | nil => exact absurd h hne1 | cons a b => rfl
  have hlen : s.size = s.data.toList.length := Lib.size_eq s
  have hns := noSign_len s.data.toList
  have hnz := noSB_len s
  have HNB := hide (show numB s = numOf s.data.toList from rfl)
  have hnle : (noSB s).size ≤ s.size := by
    rw [hnz]
    unfold noSign
    split
    · rw [List.length_tail]; omega
    · omega
  have HSG := hide (show (noSB s).size < s.size ↔ s.data.toList.head? = some 45 by
    rw [hnz, hlen]
    unfold noSign
    split
    · rename_i h
      rw [List.length_tail]
      constructor
      · intro _; exact h
      · intro _; omega
    · rename_i h
      constructor
      · intro h2; exact absurd h2 (Nat.lt_irrefl _)
      · intro h2; exact absurd h2 h)
  have HE := hide (show (chr s 0 = 45 → noSB s = s.extract 1 s.size) ∧ (chr s 0 ≠ 45 → noSB s = s) by
    have hh : chr s 0 = 45 ↔ s.data.toList.head? = some 45 := by
      rw [chr_at (by omega)]
      obtain ⟨⟨l⟩⟩ := s
      cases l with
      | nil => exact absurd rfl h0
      | cons b t =>
        show ((b.toNat : Nat) : Int) = 45 ↔ some b = some 45
        constructor
        · intro h; rw [show b = 45 from UInt8.toNat_inj.1 (by show b.toNat = 45; omega)]
        · intro h; cases h; rfl
    constructor
    · intro h
      apply ByteArray.ext
      rw [ByteArray.data_extract]
      apply Array.ext'
      rw [Array.toList_extract]
      show noSign s.data.toList = _
      unfold noSign
      rw [if_pos (hh.1 h)]
      rw [List.extract_eq_take_drop, List.take_of_length_le (by rw [List.length_drop]; omega), List.drop_one]
    · intro h
      apply ByteArray.ext
      apply Array.ext'
      show noSign s.data.toList = _
      unfold noSign
      rw [if_neg (fun e => h (hh.2 e))])
  have hc0 := chr_bd s 0
  have ka : ∀ (i : Nat) (h : i < s.size), (((s[i]'h).toNat : Nat) : Int) = chr s i := fun i h => chr_of h
  clear hlen hns hnz
  go_enter Tryz.func93, Tryz.ntmps93
  go_upto_if 14 with fail
  go_cut [4] (fun tv wx => tv = .string (noSB s) ∧ w = wx)
  case first =>
    by_cases hc : chr s 0 = 45
    · have hB : (chr s 0 == 45) = true := by simp [hc]
      have HX := hide (HE.out.1 hc)
      have HC := hide hc
      clear hc
      go_wp2_with fail
      go_meet
      exact ⟨by rw [HX.out], rfl⟩
    · have hB : (chr s 0 == 45) = false := by simp [hc]
      have HX := hide (HE.out.2 hc)
      have HC := hide hc
      clear hc
      go_wp2_with fail
      go_meet
      exact ⟨by rw [HX.out], rfl⟩
  case rest =>
    obtain ⟨rfl, rfl⟩ := hcut
    have hz := noSB_len s
    have HTD := hide (noSB_data s)
    clear HE hc0 ka hne hne1 hne2
    by_cases h1 : 1 ≤ (noSB s).size
    case neg =>
      have hn : numB s = none := numOf_empty (List.eq_nil_of_length_eq_zero (by omega))
      have HN0 := hide hn
      have hD : decide (((noSB s).size : Int) < 1) = true := decide_eq_true (by omega)
      clear hn hz HTD HNB HSG
      generalize noSB s = t at *
      go_wp2_with fail
      go_ret2
      exact ⟨by rw [HN0.out]; rfl, Below.refl _ _⟩
    have hD : decide (((noSB s).size : Int) < 1) = false := decide_eq_false (by omega)
    by_cases h18 : (noSB s).size ≤ 18
    case neg =>
      have hn : numB s = none := numOf_long (by omega)
      have HN0 := hide hn
      have hD2 : decide (18 < ((noSB s).size : Int)) = true := decide_eq_true (by omega)
      clear hn hz HTD HNB HSG
      generalize noSB s = t at *
      go_wp2_with fail
      go_ret2
      exact ⟨by rw [HN0.out]; rfl, Below.refl _ _⟩
    have hD2 : decide (18 < ((noSB s).size : Int)) = false := decide_eq_false (by omega)
    have HL := hide fun (i : Nat) (h : i < (noSB s).size) => (show ∃ b : UInt8, (noSign s.data.toList).drop i = b :: (noSign s.data.toList).drop (i + 1) ∧ chr (noSB s) i = ((b.toNat : Nat) : Int) by
      have hi : i < (noSign s.data.toList).length := by omega
      refine ⟨(noSign s.data.toList)[i], by rw [← List.getElem_cons_drop hi], ?_⟩
      rw [chr_at h]
      rfl)
    have HEND := hide (show (noSign s.data.toList).drop (noSB s).size = [] from List.drop_eq_nil_of_le (by omega))
    have H18 := hide (show (noSign s.data.toList).length ≤ 18 by omega)
    clear hz HTD
    have kt : ∀ (i : Nat) (h : i < (noSB s).size), ((((noSB s)[i]'h).toNat : Nat) : Int) = chr (noSB s) i := fun i h => chr_of h
    generalize noSB s = t at *
    have HL0 := hide (show Lib.decFrom 0 (noSign s.data.toList) = Lib.decFrom 0 ((noSign s.data.toList).drop 0) by rw [List.drop_zero])
    go_wp2_with fail
    go_loopg [5, 6] t.size (fun g nv iv wr => ∃ i m : Nat, i ≤ t.size ∧ Hid (g = t.size - i) ∧ nv = .int .i64 m ∧ iv = .int .i64 i ∧ Hid (Lib.decFrom 0 (noSign s.data.toList) = Lib.decFrom m ((noSign s.data.toList).drop i)) ∧ Hid (m < 10 ^ i) ∧ w = wr)
    case atStart => exact ⟨0, 0, by omega, by simp [Hid], rfl, rfl, HL0, hide (by decide), rfl⟩
    case round =>
      obtain ⟨i, m, hi, hg, rfl, rfl, HD, HM, rfl⟩ := hrel
      clear HL0
      by_cases hit : i < t.size
      case neg =>
        obtain rfl : i = t.size := by omega
        have hd := HD.out
        rw [HEND.out, Lib.decFrom] at hd
        have hm18 : m < 1000000000000000000 := by
          have h1 := HM.out
          have h2 : 10 ^ t.size ≤ 10 ^ 18 := Nat.pow_le_pow_right (by decide) h18
          have h3 : (10 : Nat) ^ 18 = 1000000000000000000 := by decide
          omega
        have HG := hide fun (v : Int) (hv : v = signed1 s.data.toList m) => (⟨fun e => by rw [HNB.out, hv]; exact numOf_good hd (by rw [← hv]; exact e) H18.out, fun e => by rw [HNB.out]; exact numOf_bad hd (by rw [← hv]; exact e)⟩ : (Lib.itoa v = s.data.toList → numB s = some v) ∧ (Lib.itoa v ≠ s.data.toList → numB s = none))
        have HEQ := hide fun (v : Int) => (⟨fun e => by rw [← e]; rfl, fun e h => e (by unfold decB; rw [h])⟩ : (decB v = s → Lib.itoa v = s.data.toList) ∧ (decB v ≠ s → Lib.itoa v ≠ s.data.toList))
        clear hd HD HM HL HEND H18 kt
        by_cases hsg : t.size < s.size
        · have hsv : signed1 s.data.toList m = -(m : Int) := by unfold signed1; rw [if_pos (HSG.out.1 hsg)]
          have HG2 := hide (HG.out (-(m : Int)) hsv.symm)
          have HEQ2 := hide (HEQ.out (-(m : Int)))
          have HDC := hide (l01Dec_any (-(m : Int)) w (by omega) (by omega))
          have hsi : (t.size : Int) < (s.size : Int) := by omega
          have hw : IntKind.i64.wrap (-(m : Int)) = -(m : Int) := by rw [IntKind.wrap_i64] <;> omega
          clear HG HEQ hsv HSG HNB
          by_cases he : decB (-(m : Int)) = s
          · have HN0 := hide (HG2.out.1 (HEQ2.out.1 he))
            have hB : ((decB (-(m : Int))).toList == s.toList) = true := by rw [he]; exact beq_self_eq_true _
            have HE := hide he
            clear he HG2 HEQ2
            generalize decB (-(m : Int)) = dv at *
            go_wp2_with (go_at_call 91; (with_reducible refine (HDC.out).mono ?_); rintro e w2 ⟨rfl, b2⟩)
            go_ret2
            exact ⟨by rw [HN0.out]; rfl, b2⟩
          · have HN0 := hide (HG2.out.2 (HEQ2.out.2 he))
            have hB : ((decB (-(m : Int))).toList == s.toList) = false := by
              rw [beq_eq_false_iff_ne, Lib.toList_data, Lib.toList_data]
              exact HEQ2.out.2 he
            have HE := hide he
            clear he HG2 HEQ2
            generalize decB (-(m : Int)) = dv at *
            go_wp2_with (go_at_call 91; (with_reducible refine (HDC.out).mono ?_); rintro e w2 ⟨rfl, b2⟩)
            go_ret2
            exact ⟨by rw [HN0.out]; rfl, b2⟩
        · have hsv : signed1 s.data.toList m = (m : Int) := by unfold signed1; rw [if_neg (fun e => hsg (HSG.out.2 e))]
          have HG2 := hide (HG.out (m : Int) hsv.symm)
          have HEQ2 := hide (HEQ.out (m : Int))
          have HDC := hide (l01Dec_any (m : Int) w (by omega) (by omega))
          have hsi : ¬ (t.size : Int) < (s.size : Int) := by omega
          clear HG HEQ hsv HSG HNB
          by_cases he : decB (m : Int) = s
          · have HN0 := hide (HG2.out.1 (HEQ2.out.1 he))
            have hB : ((decB (m : Int)).toList == s.toList) = true := by rw [he]; exact beq_self_eq_true _
            have HE := hide he
            clear he HG2 HEQ2
            generalize decB (m : Int) = dv at *
            go_wp2_with (go_at_call 91; (with_reducible refine (HDC.out).mono ?_); rintro e w2 ⟨rfl, b2⟩)
            go_ret2
            exact ⟨by rw [HN0.out]; rfl, b2⟩
          · have HN0 := hide (HG2.out.2 (HEQ2.out.2 he))
            have hB : ((decB (m : Int)).toList == s.toList) = false := by
              rw [beq_eq_false_iff_ne, Lib.toList_data, Lib.toList_data]
              exact HEQ2.out.2 he
            have HE := hide he
            clear he HG2 HEQ2
            generalize decB (m : Int) = dv at *
            go_wp2_with (go_at_call 91; (with_reducible refine (HDC.out).mono ?_); rintro e w2 ⟨rfl, b2⟩)
            go_ret2
            exact ⟨by rw [HN0.out]; rfl, b2⟩
      obtain ⟨b, hdr, hcb⟩ := HL.out i hit
      have hd := HD.out
      rw [hdr] at hd
      have hb := chr_bd t i
      have hii : (i : Int) < (t.size : Int) := by omega
      have hi0 : (0 : Int) ≤ (i : Int) := by omega
      by_cases hdg : 48 ≤ b.toNat ∧ b.toNat ≤ 57
      case neg =>
        rw [decFrom_stop hdg] at hd
        have HN0 := hide (HNB.out.trans (numOf_no (l := s.data.toList) hd))
        have hdd : (decide (48 ≤ chr t i) && decide (chr t i ≤ 57)) = false := by
          rw [← Bool.decide_and]; exact decide_eq_false (by omega)
        clear hd hdr hcb hdg HD HM HL HEND H18
        go_wp2_with (go_at_call 112; (with_reducible refine (digit_any _ _).mono ?_); rintro e w2 ⟨rfl, rfl⟩; rw [hdd])
        go_ret2
        exact ⟨by rw [HN0.out]; rfl, Below.refl _ _⟩
      have hdd : (decide (48 ≤ chr t i) && decide (chr t i ≤ 57)) = true := by
        rw [← Bool.decide_and]; exact decide_eq_true (by omega)
      obtain ⟨d, hdn⟩ : ∃ d, d = b.toNat - 48 := ⟨_, rfl⟩
      rw [decFrom_step hdg hdn] at hd
      have hcd : chr t i = 48 + (d : Int) := by omega
      have hd9 : d ≤ 9 := by omega
      have HPW := hide (show m * 10 + d < 10 ^ (i + 1) by have := HM.out; rw [Nat.pow_succ]; omega)
      have hm17 : m < 100000000000000000 := by
        have h1 := HM.out
        have h2 : 10 ^ i ≤ 10 ^ 17 := Nat.pow_le_pow_right (by decide) (by omega)
        have h3 : (10 : Nat) ^ 17 = 100000000000000000 := by decide
        omega
      have HD2 := hide hd
      have hwu : IntKind.u8.wrap (chr t i - 48) = (d : Int) := by rw [hcd]; simp [IntKind.wrap, IntKind.bits, IntKind.signed]; omega
      have hwi : IntKind.i64.wrap (d : Int) = (d : Int) := by rw [IntKind.wrap_i64] <;> omega
      have hwm : IntKind.i64.wrap (10 * (m : Int)) = 10 * (m : Int) := by rw [IntKind.wrap_i64] <;> omega
      have hwa : IntKind.i64.wrap (10 * (m : Int) + (d : Int)) = ((m * 10 + d : Nat) : Int) := by rw [IntKind.wrap_i64] <;> omega
      have hcast : (10 * (m : Int) + (d : Int)) = ((m * 10 + d : Nat) : Int) := by omega
      clear hd hdr hcb hdg HD HM HL HEND H18 hdn hcd
      generalize m * 10 + d = M at *
      go_wp2_with (go_at_call 112; (with_reducible refine (digit_any _ _).mono ?_); rintro e w2 ⟨rfl, rfl⟩; rw [hdd])
      go_roundg (t.size - (i + 1))
      case measure => have := hg.out; omega
      case rel => exact ⟨i + 1, M, by omega, rfl, by go_num, by go_num, HD2, HPW, rfl⟩
end Go.Proofs.YtaajkmjilcamgaaGreatDoor
namespace Go.Proofs.YtaajkmjilcamgaaGreatDoor
open Go.RowKit
def RdS (w : World) (B : Nat) (A : Option Addr) (xs : List ByteArray) : Prop := Rd w B A (xs.map Value.string)
theorem RdS.below {w w' : World} {B : Nat} {A : Option Addr} {xs : List ByteArray} (h : RdS w B A xs) (k : Below B w w') : RdS w' B A xs := Rd.below h k
theorem RdS.more {w : World} {B B' : Nat} {A : Option Addr} {xs : List ByteArray} (h : RdS w B A xs) (k : B ≤ B') : RdS w B' A xs := Rd.more h k
theorem RdS.at_ {w : World} {B : Nat} {A : Option Addr} {xs : List ByteArray} (h : RdS w B A xs) {j : Nat} (hj : j < xs.length) : ∃ b o s, A = some ⟨b, o, none⟩ ∧ b < B ∧ xs[j]? = some s ∧ w.cell? ⟨b, o + j, none⟩ = some (.string s) := by
  obtain ⟨b, o, u, hA, hb, hu, hc⟩ := Rd.at_ h (j := j) (by rw [List.length_map]; exact hj)
  rw [List.getElem?_map] at hu
  cases hx : xs[j]? with
  | none => rw [hx] at hu; cases hu
  | some s => rw [hx] at hu; cases hu; exact ⟨b, o, s, hA, hb, rfl, hc⟩
theorem RdS.take {w : World} {B b o : Nat} {xs : List ByteArray} (h : RdS w B (some ⟨b, o, none⟩) xs) (k : Nat) : RdS w B (some ⟨b, o, none⟩) (xs.take k) := fun hn => by
  have hn2 : xs.map Value.string ≠ [] := by
    intro e
    apply hn
    rw [List.map_take, e, List.take_nil]
  obtain ⟨b', o', hA, hb, hc⟩ := h hn2
  refine ⟨b', o', hA, hb, fun j u hu => hc j u ?_⟩
  rw [List.map_take, List.getElem?_take] at hu
  split at hu
  · exact hu
  · cases hu
theorem txt_eq (a b : ByteArray) : (a.toList == b.toList) = decide (a = b) := by
  rw [ByteArray.toList_eq, ByteArray.toList_eq]
  by_cases h : a = b
  · subst h; simp
  · rw [decide_eq_false h, beq_eq_false_iff_ne]
    intro e
    exact h (ByteArray.ext (Array.toList_inj.mp e))
def hasS (xs : List ByteArray) (v : ByteArray) : Bool := xs.any fun z => decide (z = v)
def txt (ws : List ByteArray) (i : Nat) : ByteArray := (ws[i]?).getD ByteArray.empty
theorem txt_get {ws : List ByteArray} {i : Nat} {s : ByteArray} (h : ws[i]? = some s) : txt ws i = s := by unfold txt; rw [h]; rfl
/-- The word with number i is an address beside those before it. -/
def okA (n : Int) (ws : List ByteArray) (i : Nat) : Bool := wordB n (txt ws i) && (decide ((txt ws i).size = (txt ws 0).size) && !hasS (ws.take i) (txt ws i))
def okN (n : Int) (ws : List ByteArray) : Nat → Nat → Bool
  | _, 0 => true
  | i, m + 1 => okA n ws i && okN n ws (i + 1) m
def addrs (n : Int) (ws : List ByteArray) : Bool := decide (2 ≤ n ∧ n ≤ 4) && (decide (ws.length ≤ 40) && okN n ws 0 ws.length)
theorem addrs_signs {n : Int} {ws : List ByteArray} (h : ¬ (2 ≤ n ∧ n ≤ 4)) : addrs n ws = false := by unfold addrs; rw [decide_eq_false h]; rfl
theorem addrs_long {n : Int} {ws : List ByteArray} (h : ¬ ws.length ≤ 40) : addrs n ws = false := by unfold addrs; rw [decide_eq_false h]; simp
theorem addrs_eq {n : Int} {ws : List ByteArray} (h : 2 ≤ n ∧ n ≤ 4) (k : ws.length ≤ 40) : addrs n ws = okN n ws 0 ws.length := by unfold addrs; rw [decide_eq_true h, decide_eq_true k]; rfl
end Go.Proofs.YtaajkmjilcamgaaGreatDoor
namespace Go.Proofs.YtaajkmjilcamgaaGreatDoor
open Go.RowKit
theorem hasS_succ {ws : List ByteArray} {k : Nat} {y x : ByteArray} (h : ws[k]? = some y) : hasS (ws.take (k + 1)) x = (hasS (ws.take k) x || decide (y = x)) := by
  unfold hasS
  rw [List.take_add_one, h, List.any_append]
  simp
theorem hasS_zero {ws : List ByteArray} {x : ByteArray} : hasS (ws.take 0) x = false := by simp [hasS]
theorem okN_step {n : Int} {ws : List ByteArray} {i m : Nat} : okN n ws i (m + 1) = (okA n ws i && okN n ws (i + 1) m) := rfl
theorem hasS_mono {ws : List ByteArray} {k j : Nat} {x : ByteArray} (h : k ≤ j) (e : hasS (ws.take k) x = true) : hasS (ws.take j) x = true := by
  unfold hasS at *
  rw [List.any_eq_true] at *
  obtain ⟨z, hz, hp⟩ := e
  exact ⟨z, (List.take_subset_take_left ws h) hz, hp⟩
end Go.Proofs.YtaajkmjilcamgaaGreatDoor
namespace Go.Proofs.YtaajkmjilcamgaaGreatDoor
open Go.RowKit
def distR (a b : ByteArray) : Int × Int := if wordB 4 a = false ∨ wordB 4 b = false then (0, 1) else if a.size = b.size then (farB a b, 0) else (0, 8)
/-- The distance without a place (all places count for -1). -/
def farW (r : Int) (a b : ByteArray) : Int := farB a b - (if 0 ≤ r ∧ chr a r.toNat ≠ chr b r.toNat then 1 else 0)
theorem farW_all (a b : ByteArray) : farW (-1) a b = farB a b := by unfold farW; rw [if_neg (fun e => absurd e.1 (by decide))]; omega
def lpI (f : ByteArray → ByteArray → Int) (x : ByteArray) : List ByteArray → Int → Int
  | [], m => m
  | y :: ys, m => lpI f x ys (if m < 0 ∨ f x y < m then f x y else m)
def lpO (f : ByteArray → ByteArray → Int) (ws : List ByteArray) : Nat → Nat → Int → Int
  | _, 0, m => m
  | i, c + 1, m => lpO f ws (i + 1) c (lpI f (txt ws i) (ws.take i) m)
def leastA (f : ByteArray → ByteArray → Int) (ws : List ByteArray) : Int := lpO f ws 0 ws.length (-1)
theorem lpI_drop {f : ByteArray → ByteArray → Int} {x : ByteArray} {ys : List ByteArray} {q : Nat} {y : ByteArray} {m : Int} (h : ys[q]? = some y) : lpI f x (ys.drop q) m = lpI f x (ys.drop (q + 1)) (if m < 0 ∨ f x y < m then f x y else m) := by rw [drop_cons h, lpI]
theorem lpI_end {f : ByteArray → ByteArray → Int} {x : ByteArray} {ys : List ByteArray} {q : Nat} {m : Int} (h : ys.length ≤ q) : lpI f x (ys.drop q) m = m := by rw [List.drop_eq_nil_of_le h, lpI]
theorem leastA_all (ws : List ByteArray) : leastA (farW (-1)) ws = leastA farB ws := by rw [show farW (-1) = farB from funext fun a => funext fun b => farW_all a b]
end Go.Proofs.YtaajkmjilcamgaaGreatDoor
namespace Go.Proofs.YtaajkmjilcamgaaGreatDoor
open Go.RowKit
end Go.Proofs.YtaajkmjilcamgaaGreatDoor
namespace Go.Proofs.YtaajkmjilcamgaaGreatDoor
open Go.RowKit
theorem okN_all {n : Int} {ws : List ByteArray} : ∀ {m i : Nat}, okN n ws i m = true → ∀ k, i ≤ k → k < i + m → okA n ws k = true := by
  intro m
  induction m with
  | zero => intro i _ k h1 h2; omega
  | succ m ih =>
    intro i h k h1 h2
    rw [okN_step, Bool.and_eq_true] at h
    by_cases hk : k = i
    · rw [hk]; exact h.1
    · exact ih h.2 k (by omega) (by omega)
theorem addrs_len {n : Int} {ws : List ByteArray} (h : addrs n ws = true) : (2 ≤ n ∧ n ≤ 4) ∧ ws.length ≤ 40 := by
  unfold addrs at h
  rw [Bool.and_eq_true, Bool.and_eq_true, decide_eq_true_eq, decide_eq_true_eq] at h
  exact ⟨h.1, h.2.1⟩
theorem addrs_at {n : Int} {ws : List ByteArray} (h : addrs n ws = true) {k : Nat} {s : ByteArray} (hs : ws[k]? = some s) : wordB n s = true ∧ s.size = (txt ws 0).size ∧ hasS (ws.take k) s = false := by
  have h0 := addrs_len h
  have hk := lt_of_get hs
  rw [addrs_eq h0.1 h0.2] at h
  have := okN_all h k (by omega) (by omega)
  unfold okA at this
  rw [txt_get hs, Bool.and_eq_true, Bool.and_eq_true, decide_eq_true_eq] at this
  exact ⟨this.1, this.2.1, by simpa using this.2.2⟩
theorem wordB_size {n : Int} {s : ByteArray} (h : wordB n s = true) : 1 ≤ s.size ∧ s.size ≤ 8 := by
  unfold wordB at h
  rw [Bool.and_eq_true, decide_eq_true_eq] at h
  exact h.2
theorem addrs_size {n : Int} {ws : List ByteArray} (h : addrs n ws = true) : ∀ s ∈ ws, s.size = (txt ws 0).size ∧ s.size ≤ 8 := fun s hs => by
  obtain ⟨k, hk, rfl⟩ := List.mem_iff_getElem.1 hs
  have := addrs_at h (List.getElem?_eq_getElem hk)
  exact ⟨this.2.1, (wordB_size this.1).2⟩
theorem txt0_size {n : Int} {ws : List ByteArray} (h : addrs n ws = true) : (txt ws 0).size ≤ 8 := by
  cases ws with
  | nil => decide
  | cons s ws => exact (addrs_size h s (List.mem_cons_self ..)).2
def pcode (n : Int) (ws : List ByteArray) : Int := if addrs n ws = false then 1 else if ws.length < 2 then 3 else 0
def leastR (n : Int) (ws : List ByteArray) : Int × Int := if pcode n ws = 0 then (leastA farB ws, 0) else (0, pcode n ws)
def correctsR (n : Int) (ws : List ByteArray) : Int × Int := if pcode n ws = 0 then ((leastA farB ws - 1).tdiv 2, 0) else (0, pcode n ws)
theorem pcode_ok {n : Int} {ws : List ByteArray} (h : pcode n ws = 0) : addrs n ws = true ∧ 2 ≤ ws.length := by
  unfold pcode at h
  split at h
  · omega
  · rename_i h1
    split at h
    · omega
    · exact ⟨by simpa using h1, by omega⟩
theorem lpI_bd {f : ByteArray → ByteArray → Int} {x : ByteArray} (h : ∀ y, -1 ≤ f x y ∧ f x y ≤ 1048576) : ∀ (ys : List ByteArray) (m : Int), -1 ≤ m ∧ m ≤ 1048576 → -1 ≤ lpI f x ys m ∧ lpI f x ys m ≤ 1048576 := by
  intro ys
  induction ys with
  | nil => intro m hm; exact hm
  | cons y ys ih => intro m hm; rw [lpI]; apply ih; split; exact h y; exact hm
theorem lpO_bd {f : ByteArray → ByteArray → Int} {ws : List ByteArray} (h : ∀ i y, -1 ≤ f (txt ws i) y ∧ f (txt ws i) y ≤ 1048576) : ∀ (c i : Nat) (m : Int), -1 ≤ m ∧ m ≤ 1048576 → -1 ≤ lpO f ws i c m ∧ lpO f ws i c m ≤ 1048576 := by
  intro c
  induction c with
  | zero => intro i m hm; exact hm
  | succ c ih => intro i m hm; rw [lpO]; exact ih _ _ (lpI_bd (h i) _ _ hm)
theorem leastA_bd {n : Int} {ws : List ByteArray} (h : addrs n ws = true) : -1 ≤ leastA farB ws ∧ leastA farB ws ≤ 1048576 := by
  unfold leastA
  refine lpO_bd (fun i y => ?_) _ _ _ ⟨by decide, by decide⟩
  have h1 := farB_bd (txt ws i) y
  have h2 : (txt ws i).size ≤ 8 := by
    unfold txt
    cases hx : ws[i]? with
    | none => decide
    | some s => exact (addrs_size h s (List.mem_of_getElem? hx)).2
  omega
end Go.Proofs.YtaajkmjilcamgaaGreatDoor
namespace Go.Proofs.YtaajkmjilcamgaaGreatDoor
open Go.RowKit
def nst (i : Nat) (own : Int) (s : Nat × Int × Bool) : Nat × Int × Bool := if s.2.1 < 0 ∨ own < s.2.1 then (i, own, false) else if own = s.2.1 then (s.1, s.2.1, true) else s
def nearN (seen : ByteArray) (ws : List ByteArray) : Nat → Nat → Nat × Int × Bool → Nat × Int × Bool
  | _, 0, s => s
  | i, m + 1, s => nearN seen ws (i + 1) m (nst i (farB (txt ws i) seen) s)
def nearF (seen : ByteArray) (ws : List ByteArray) : Nat × Int × Bool := nearN seen ws 0 ws.length (0, -1, false)
def nearR (n : Int) (ws : List ByteArray) (seen : ByteArray) : Int × Int × Int :=
  if addrs n ws = false then (0, 0, 1) else if wordB n seen = false then (0, 0, 2) else if ws.length = 0 then (0, 0, 3) else if seen.size ≠ (txt ws 0).size then (0, 0, 8) else if (nearF seen ws).2.2 = true then (0, 0, 9) else (((nearF seen ws).1 : Int), (nearF seen ws).2.1, 0)
theorem nearR_1 {n : Int} {ws : List ByteArray} {seen : ByteArray} (h : addrs n ws = false) : nearR n ws seen = (0, 0, 1) := by unfold nearR; rw [if_pos h]
theorem nearR_2 {n : Int} {ws : List ByteArray} {seen : ByteArray} (h : addrs n ws = true) (h2 : wordB n seen = false) : nearR n ws seen = (0, 0, 2) := by unfold nearR; rw [if_neg (by rw [h]; decide), if_pos h2]
theorem nearR_3 {n : Int} {ws : List ByteArray} {seen : ByteArray} (h : addrs n ws = true) (h2 : wordB n seen = true) (h3 : ws.length = 0) : nearR n ws seen = (0, 0, 3) := by unfold nearR; rw [if_neg (by rw [h]; decide), if_neg (by rw [h2]; decide), if_pos h3]
theorem nearR_8 {n : Int} {ws : List ByteArray} {seen : ByteArray} (h : addrs n ws = true) (h2 : wordB n seen = true) (h3 : ¬ ws.length = 0) (h4 : seen.size ≠ (txt ws 0).size) : nearR n ws seen = (0, 0, 8) := by unfold nearR; rw [if_neg (by rw [h]; decide), if_neg (by rw [h2]; decide), if_neg h3, if_pos h4]
theorem nearR_9 {n : Int} {ws : List ByteArray} {seen : ByteArray} (h : addrs n ws = true) (h2 : wordB n seen = true) (h3 : ¬ ws.length = 0) (h4 : seen.size = (txt ws 0).size) (h5 : (nearF seen ws).2.2 = true) : nearR n ws seen = (0, 0, 9) := by unfold nearR; rw [if_neg (by rw [h]; decide), if_neg (by rw [h2]; decide), if_neg h3, if_neg (fun e => e h4), if_pos h5]
theorem nearR_0 {n : Int} {ws : List ByteArray} {seen : ByteArray} (h : addrs n ws = true) (h2 : wordB n seen = true) (h3 : ¬ ws.length = 0) (h4 : seen.size = (txt ws 0).size) (h5 : (nearF seen ws).2.2 = false) : nearR n ws seen = (((nearF seen ws).1 : Int), (nearF seen ws).2.1, 0) := by unfold nearR; rw [if_neg (by rw [h]; decide), if_neg (by rw [h2]; decide), if_neg h3, if_neg (fun e => e h4), if_neg (by rw [h5]; decide)]
end Go.Proofs.YtaajkmjilcamgaaGreatDoor
namespace Go.Proofs.YtaajkmjilcamgaaGreatDoor
open Go.RowKit
/-- The reference's best word and how many are as near, beside the program's state. -/
def NearI (seen : ByteArray) (ws : List ByteArray) (j bn mn : Nat) (lv : Int) (sb : Bool) : Prop := (j = 0 ∧ bn = 0 ∧ mn = 0 ∧ lv = -1 ∧ sb = false) ∨ (1 ≤ j ∧ bn < ws.length ∧ lv = farB (txt ws bn) seen ∧ ((sb = false ∧ mn = 1) ∨ (sb = true ∧ 2 ≤ mn ∧ mn ≤ j)))
theorem NearI.lt {seen : ByteArray} {ws : List ByteArray} {j bn mn : Nat} {lv : Int} {sb : Bool} (h : NearI seen ws j bn mn lv sb) (hl : 0 < ws.length) : bn < ws.length := by
  rcases h with h | h
  · omega
  · exact h.2.1
theorem NearI.mn {seen : ByteArray} {ws : List ByteArray} {j bn mn : Nat} {lv : Int} {sb : Bool} (h : NearI seen ws j bn mn lv sb) : mn ≤ j := by
  rcases h with h | ⟨h1, _, _, h | h⟩ <;> omega
theorem NearI.less {seen : ByteArray} {ws : List ByteArray} {j bn mn : Nat} {lv : Int} {sb : Bool} (h : NearI seen ws j bn mn lv sb) (hj : j < ws.length) (hd : farB (txt ws j) seen < farB (txt ws bn) seen) : nst j (farB (txt ws j) seen) (bn, lv, sb) = (j, farB (txt ws j) seen, false) ∧ NearI seen ws (j + 1) j 1 (farB (txt ws j) seen) false := by
  rcases h with ⟨h1, h2, _⟩ | ⟨h1, h2, h3, h4⟩
  · subst h1; subst h2; omega
  · refine ⟨?_, .inr ⟨by omega, hj, rfl, .inl ⟨rfl, rfl⟩⟩⟩
    unfold nst
    rw [if_pos (.inr (by dsimp only; omega))]
theorem NearI.same {seen : ByteArray} {ws : List ByteArray} {j bn mn : Nat} {lv : Int} {sb : Bool} (h : NearI seen ws j bn mn lv sb) (hj : j < ws.length) (hd : farB (txt ws j) seen = farB (txt ws bn) seen) : ∃ lv' sb', nst j (farB (txt ws j) seen) (bn, lv, sb) = (bn, lv', sb') ∧ NearI seen ws (j + 1) bn (mn + 1) lv' sb' := by
  rcases h with ⟨h1, h2, h3, h4, h5⟩ | ⟨h1, h2, h3, h4⟩
  · subst h1; subst h2; subst h3; subst h4; subst h5
    exact ⟨farB (txt ws 0) seen, false, by unfold nst; rw [if_pos (.inl (by decide))], .inr ⟨by omega, hj, rfl, .inl ⟨rfl, rfl⟩⟩⟩
  · have h0 := (farB_bd (txt ws bn) seen).1
    refine ⟨lv, true, ?_, .inr ⟨by omega, h2, h3, .inr ⟨rfl, by omega, by omega⟩⟩⟩
    unfold nst
    rw [if_neg (fun e => by dsimp only at e; omega), if_pos (by dsimp only; omega)]
theorem NearI.more {seen : ByteArray} {ws : List ByteArray} {j bn mn : Nat} {lv : Int} {sb : Bool} (h : NearI seen ws j bn mn lv sb) (hd : farB (txt ws bn) seen < farB (txt ws j) seen) : nst j (farB (txt ws j) seen) (bn, lv, sb) = (bn, lv, sb) ∧ NearI seen ws (j + 1) bn mn lv sb := by
  rcases h with ⟨h1, h2, h3, h4, h5⟩ | ⟨h1, h2, h3, h4⟩
  · subst h1; subst h2; omega
  · have h0 := (farB_bd (txt ws bn) seen).1
    refine ⟨?_, .inr ⟨by omega, h2, h3, by rcases h4 with h4 | h4; exact .inl h4; exact .inr ⟨h4.1, h4.2.1, by omega⟩⟩⟩
    unfold nst
    rw [if_neg (fun e => by dsimp only at e; omega), if_neg (by dsimp only; omega)]
theorem NearI.end_ {seen : ByteArray} {ws : List ByteArray} {bn mn : Nat} {lv : Int} {sb : Bool} (h : NearI seen ws ws.length bn mn lv sb) (hl : 0 < ws.length) : (sb = false ∧ mn = 1 ∧ lv = farB (txt ws bn) seen) ∨ (sb = true ∧ 2 ≤ mn) := by
  rcases h with h | ⟨_, _, h3, h | h⟩
  · omega
  · exact .inl ⟨h.1, h.2, h3⟩
  · exact .inr ⟨h.1, h.2.1⟩
end Go.Proofs.YtaajkmjilcamgaaGreatDoor
namespace Go.Proofs.YtaajkmjilcamgaaGreatDoor
open Go.RowKit
def misN (ws : List ByteArray) (tk : ByteArray) (k rings : Int) : Nat → Nat → List Int
  | _, 0 => []
  | i, m + 1 => (if (i : Int) ≠ k ∧ farB (txt ws i) tk ≤ rings then [(i : Int)] else []) ++ misN ws tk k rings (i + 1) m
def misCode (n : Int) (ws : List ByteArray) (k rings : Int) : Int := if addrs n ws = false then 1 else if (0 ≤ k ∧ k ≤ (ws.length : Int) - 1) ∧ 0 ≤ rings ∧ rings ≤ 8 then 0 else 2
def misL (n : Int) (ws : List ByteArray) (k rings : Int) : List Int := if misCode n ws k rings = 0 then misN ws (txt ws k.toNat) k rings 0 ws.length else []
theorem misN_no {ws : List ByteArray} {tk : ByteArray} {k rings : Int} {i m : Nat} (h : ¬ ((i : Int) ≠ k ∧ farB (txt ws i) tk ≤ rings)) : misN ws tk k rings i (m + 1) = misN ws tk k rings (i + 1) m := by rw [misN, if_neg h]; rfl
theorem misN_yes {ws : List ByteArray} {tk : ByteArray} {k rings : Int} {i m : Nat} (h : (i : Int) ≠ k ∧ farB (txt ws i) tk ≤ rings) : misN ws tk k rings i (m + 1) = (i : Int) :: misN ws tk k rings (i + 1) m := by rw [misN, if_pos h]; rfl
end Go.Proofs.YtaajkmjilcamgaaGreatDoor
namespace Go.Proofs.YtaajkmjilcamgaaGreatDoor
open Go.RowKit
theorem misN_len (ws : List ByteArray) (tk : ByteArray) (k rings : Int) : ∀ m i, (misN ws tk k rings i m).length ≤ m := by
  intro m
  induction m with
  | zero => intro i; exact Nat.le_refl _
  | succ m ih =>
    intro i
    have := ih (i + 1)
    rw [misN, List.length_append]
    split
    · rw [List.length_singleton]; omega
    · rw [List.length_nil]; omega
theorem misL_len (n : Int) (ws : List ByteArray) (k rings : Int) : (misL n ws k rings).length ≤ ws.length := by
  unfold misL
  split
  · exact misN_len _ _ _ _ _ _
  · exact Nat.zero_le _
end Go.Proofs.YtaajkmjilcamgaaGreatDoor
