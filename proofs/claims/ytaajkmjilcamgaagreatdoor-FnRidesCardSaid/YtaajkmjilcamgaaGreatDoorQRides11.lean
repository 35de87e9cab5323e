/-
  A ride read from a text, in the reference.
-/
import Derived.Test.YtaajkmjilcamgaaGreatDoorQRides6
import Derived.Test.YtaajkmjilcamgaaGreatDoorQRides8
import Derived.Test.YtaajkmjilcamgaaGreatDoorQRides10
namespace Go.Proofs.YtaajkmjilcamgaaGreatDoor
open Go.RowKit
theorem unitN_no {u b : UInt8} {w : List UInt8} (hl : w.getLast? = some b) (h : b ≠ u) : unitN u w = none := by
  unfold unitN
  rw [if_neg]
  intro e
  rw [hl] at e
  exact h (Option.some.inj e)
theorem unitN_yes {u : UInt8} {w : List UInt8} (hl : w.getLast? = some u) : unitN u w = numOf w.dropLast := by
  unfold unitN
  rw [if_pos hl]
theorem last_of {s : ByteArray} {n : Nat} (h : s.size = n + 1) : ∃ b : UInt8, s.data.toList.getLast? = some b ∧ chr s n = ((b.toNat : Nat) : Int) ∧ (s.extract 0 n).data.toList = s.data.toList.dropLast := by
  obtain ⟨b, hb, hc⟩ := chr_get (s := s) (i := n) (by omega)
  have hl : s.data.toList.length = n + 1 := by rw [← Lib.size_eq]; exact h
  refine ⟨b, ?_, hc, ?_⟩
  · rw [List.getLast?_eq_getElem?, hl, Nat.add_sub_cancel, hb]
  · rw [Lib.extract_data, List.drop_zero, Nat.sub_zero, List.dropLast_eq_take, hl, Nat.add_sub_cancel]
set_option maxRecDepth 100000 in
set_option maxHeartbeats 4000000 in
theorem unit_any (s : ByteArray) (u : UInt8) (w : World) (hs : s.size ≤ 1000000) :
    Calls Tryz.prog 66 #[.string s, .int .u8 ((u.toNat : Nat) : Int)] w fun e w' => e = .returned (.tuple #[.int .i64 ((unitN u s.data.toList).getD 0), .bool (unitN u s.data.toList).isSome]) ∧ Below w.heap.size w w' := by
  by_cases h0 : s.size = 0
  · obtain rfl : s = ⟨#[]⟩ := ByteArray.ext (Array.eq_empty_of_size_eq_zero h0)
    have HN := hide (show unitN u (⟨#[]⟩ : ByteArray).data.toList = none by unfold unitN; rw [if_neg (by simp)])
    clear h0 hs
    go_enter Tryz.func66, Tryz.ntmps66
    go_wp2_with fail
    go_ret2
    exact ⟨by rw [HN.out]; rfl, Below.refl _ _⟩
  have hne : (s.toList == (⟨#[]⟩ : ByteArray).toList) = false := by
    rw [beq_eq_false_iff_ne, Lib.toList_data, Lib.toList_data]
    intro e
    have := congrArg List.length e
    rw [← Lib.size_eq] at this
    exact h0 this
  have hne1 : ¬ s.toList = [] := fun e => by rw [e] at hne; simp at hne
  have hne2 : s.toList.isEmpty = false := by cases h : s.toList with | nil => exact absurd h hne1 | cons a b => rfl
  obtain ⟨n, hn⟩ : ∃ n, s.size = n + 1 := ⟨s.size - 1, by omega⟩
  obtain ⟨b, hb, hcb, hex⟩ := last_of hn
  have ka : ∀ (i : Nat) (h : i < s.size), (((s[i]'h).toNat : Nat) : Int) = chr s i := fun i h => chr_of h
  have HNUM := hide (l01Number_any (s.extract 0 n) w (by rw [ByteArray.size_extract]; omega))
  have hns : n < s.size := by omega
  by_cases hbu : b = u
  case neg =>
    have HN := hide (unitN_no hb hbu)
    have hB : (chr s n == ((u.toNat : Nat) : Int)) = false := by
      rw [beq_eq_false_iff_ne, hcb]
      intro e
      exact hbu (UInt8.toNat_inj.1 (by omega))
    have HBU := hide hbu
    clear hb hcb hex hbu h0 HNUM
    generalize ((u.toNat : Nat) : Int) = un at *
    go_enter Tryz.func66, Tryz.ntmps66
    go_wp2_with fail
    go_ret2
    exact ⟨by rw [HN.out]; rfl, Below.refl _ _⟩
  · subst hbu
    have HN := hide (show unitN b s.data.toList = numB (s.extract 0 n) by rw [unitN_yes hb, ← hex]; rfl)
    have hB : (chr s n == ((b.toNat : Nat) : Int)) = true := by rw [beq_iff_eq, hcb]
    clear hb hcb hex h0
    generalize ((b.toNat : Nat) : Int) = un at *
    go_enter Tryz.func66, Tryz.ntmps66
    go_wp2_with (go_at_call 93; (with_reducible refine (HNUM.out).mono ?_); rintro e w1 ⟨rfl, b1⟩)
    go_ret2
    exact ⟨by rw [HN.out]; rfl, b1⟩
/- ReadRide -/
theorem words4 {s : ByteArray} (h : (splitW 32 s).length = 4) : ∃ a b c d : ByteArray, splitW 32 s = [a, b, c, d] ∧ splitL 32 s.data.toList = [a.data.toList, b.data.toList, c.data.toList, d.data.toList] ∧ a.size ≤ s.size ∧ b.size ≤ s.size ∧ c.size ≤ s.size ∧ d.size ≤ s.size := by
  have hj := join_split 32 s.data.toList
  unfold splitW at h ⊢
  match hs : splitL 32 s.data.toList, h with
  | [a, b, c, d], _ =>
    rw [hs] at hj
    have hl := congrArg List.length hj
    rw [Lib.join_length, ← Lib.size_eq] at hl
    have e : Lib.lens [a, b, c, d] = a.length + (b.length + (c.length + (d.length + 0))) := by simp [Lib.lens]
    rw [e] at hl
    refine ⟨⟨a.toArray⟩, ⟨b.toArray⟩, ⟨c.toArray⟩, ⟨d.toArray⟩, rfl, rfl, ?_, ?_, ?_, ?_⟩
    · have : (⟨a.toArray⟩ : ByteArray).size = a.length := by simp [ByteArray.size]
      omega
    · have : (⟨b.toArray⟩ : ByteArray).size = b.length := by simp [ByteArray.size]
      omega
    · have : (⟨c.toArray⟩ : ByteArray).size = c.length := by simp [ByteArray.size]
      omega
    · have : (⟨d.toArray⟩ : ByteArray).size = d.length := by simp [ByteArray.size]
      omega
theorem words_not4 {s : ByteArray} (h : (splitW 32 s).length ≠ 4) : readB s = none := readW_len (by intro e; exact h (by unfold splitW; rw [List.length_map, e]))
def optR (o : Option T4) : T4 := o.getD ⟨0, 0, 0, 0⟩
set_option maxRecDepth 100000 in
set_option maxHeartbeats 4000000 in
theorem specReadRide_any (s : ByteArray) (w : World) (hs : s.size ≤ 100000) :
    Calls Tryz.prog 30 #[.string s] w fun e w' => e = .returned (.tuple #[.agg #[.int .i64 (optR (readB s)).a, .int .i64 (optR (readB s)).b, .int .i64 (optR (readB s)).c, .int .i64 (optR (readB s)).d], .bool (readB s).isSome]) ∧ Below w.heap.size w w' := by
  have Y0 := hide (BoxN.new w #[.int .i64 0, .int .i64 0, .int .i64 0, .int .i64 0] 44)
  have B0 := hide (show Below w.heap.size w (w.alloc (.cells #[.int .i64 0, .int .i64 0, .int .i64 0, .int .i64 0] 44)) from (Below.refl _ _).alloc (Nat.le_refl _) _)
  have HSP := hide fun W => (show Calls Tryz.prog 65 #[.string s, .int .u8 32] W fun e w' => ∃ (A : Option Addr) (k : Nat), e = .returned (.slice A (splitW 32 s).length k) ∧ RdS w' w'.heap.size A (splitW 32 s) ∧ Below W.heap.size W w' from l01Split_any s 32 W hs)
  by_cases h4 : (splitW 32 s).length = 4
  case neg =>
    have HRES := hide (words_not4 h4)
    have hB : ((((splitW 32 s).length : Nat) : Int) != 4) = true := by rw [bne_iff_ne]; omega
    have H4 := hide h4
    clear h4
    generalize (splitW 32 s).length = n at *
    go_enter Tryz.func30, Tryz.ntmps30
    go_upto_region 1 with fail
    generalize w.alloc (.cells #[.int .i64 0, .int .i64 0, .int .i64 0, .int .i64 0] 44) = w1 at *
    go_upto_region 2 with (go_at_call 65; (with_reducible refine (HSP.out _).mono ?_); rintro e wZ ⟨A, k, rfl, hrd, b2⟩)
    have Y8 := hide (Y0.out.below b2 Y0.out.lt)
    have B8 := hide (B0.out.trans (b2.mono B0.out.size))
    have T1 := hide (Y8.out.set 0 (.int .i64 0))
    have T2 := hide (T1.out.set 1 (.int .i64 0))
    have T3 := hide (T2.out.set 2 (.int .i64 0))
    have T4 := hide (T3.out.set 3 (.int .i64 0))
    have m0 : wZ.cell? ⟨w.heap.size, 0, none⟩ = some (.int .i64 0) := Y8.out.cell 0
    have n0 := Y8.out.fro 0
    have m1 : (wZ.setCell ⟨w.heap.size, 0, none⟩ (.int .i64 0)).cell? ⟨w.heap.size, 1, none⟩ = some (.int .i64 0) := T1.out.cell 1
    have n1 := T1.out.fro 1
    have m2 : ((wZ.setCell ⟨w.heap.size, 0, none⟩ (.int .i64 0)).setCell ⟨w.heap.size, 1, none⟩ (.int .i64 0)).cell? ⟨w.heap.size, 2, none⟩ = some (.int .i64 0) := T2.out.cell 2
    have n2 := T2.out.fro 2
    have m3 : (((wZ.setCell ⟨w.heap.size, 0, none⟩ (.int .i64 0)).setCell ⟨w.heap.size, 1, none⟩ (.int .i64 0)).setCell ⟨w.heap.size, 2, none⟩ (.int .i64 0)).cell? ⟨w.heap.size, 3, none⟩ = some (.int .i64 0) := T3.out.cell 3
    have n3 := T3.out.fro 3
    go_wp2_with fail
    have q0 : ((((wZ.setCell ⟨w.heap.size, 0, none⟩ (.int .i64 0)).setCell ⟨w.heap.size, 1, none⟩ (.int .i64 0)).setCell ⟨w.heap.size, 2, none⟩ (.int .i64 0)).setCell ⟨w.heap.size, 3, none⟩ (.int .i64 0)).cell? ⟨w.heap.size, 0, none⟩ = some (.int .i64 0) := T4.out.cell 0
    have q1 : ((((wZ.setCell ⟨w.heap.size, 0, none⟩ (.int .i64 0)).setCell ⟨w.heap.size, 1, none⟩ (.int .i64 0)).setCell ⟨w.heap.size, 2, none⟩ (.int .i64 0)).setCell ⟨w.heap.size, 3, none⟩ (.int .i64 0)).cell? ⟨w.heap.size, 1, none⟩ = some (.int .i64 0) := T4.out.cell 1
    have q2 : ((((wZ.setCell ⟨w.heap.size, 0, none⟩ (.int .i64 0)).setCell ⟨w.heap.size, 1, none⟩ (.int .i64 0)).setCell ⟨w.heap.size, 2, none⟩ (.int .i64 0)).setCell ⟨w.heap.size, 3, none⟩ (.int .i64 0)).cell? ⟨w.heap.size, 2, none⟩ = some (.int .i64 0) := T4.out.cell 2
    have q3 : ((((wZ.setCell ⟨w.heap.size, 0, none⟩ (.int .i64 0)).setCell ⟨w.heap.size, 1, none⟩ (.int .i64 0)).setCell ⟨w.heap.size, 2, none⟩ (.int .i64 0)).setCell ⟨w.heap.size, 3, none⟩ (.int .i64 0)).cell? ⟨w.heap.size, 3, none⟩ = some (.int .i64 0) := T4.out.cell 3
    refine bodyPost_ret (v := .tuple #[.agg #[.int .i64 0, .int .i64 0, .int .i64 0, .int .i64 0], .bool false]) (by simp [results, Tryz.results30, go_sem, q0, q1, q2, q3]) rfl ⟨by rw [HRES.out]; rfl, ?_⟩
    exact (((B8.out.setCell (p := ⟨w.heap.size, 0, none⟩) (Nat.le_refl _) _).setCell (p := ⟨w.heap.size, 1, none⟩) (Nat.le_refl _) _).setCell (p := ⟨w.heap.size, 2, none⟩) (Nat.le_refl _) _).setCell (p := ⟨w.heap.size, 3, none⟩) (Nat.le_refl _) _
  obtain ⟨a, b, c, d, hw, hl, za, zb, zc, zd⟩ := words4 h4
  have HQ := hide (show readB s = quadR (unitN 109 a.data.toList) (unitN 103 b.data.toList) (unitN 112 c.data.toList) (unitN 98 d.data.toList) by unfold readB readL; rw [hl, readW])
  rw [hw] at HSP
  have HUa := hide fun W => (show Calls Tryz.prog 66 #[.string a, .int .u8 109] W fun e w' => e = .returned (.tuple #[.int .i64 ((unitN 109 a.data.toList).getD 0), .bool (unitN 109 a.data.toList).isSome]) ∧ Below W.heap.size W w' from unit_any a 109 W (by omega))
  have HUb := hide fun W => (show Calls Tryz.prog 66 #[.string b, .int .u8 103] W fun e w' => e = .returned (.tuple #[.int .i64 ((unitN 103 b.data.toList).getD 0), .bool (unitN 103 b.data.toList).isSome]) ∧ Below W.heap.size W w' from unit_any b 103 W (by omega))
  have HUc := hide fun W => (show Calls Tryz.prog 66 #[.string c, .int .u8 112] W fun e w' => e = .returned (.tuple #[.int .i64 ((unitN 112 c.data.toList).getD 0), .bool (unitN 112 c.data.toList).isSome]) ∧ Below W.heap.size W w' from unit_any c 112 W (by omega))
  have HUd := hide fun W => (show Calls Tryz.prog 66 #[.string d, .int .u8 98] W fun e w' => e = .returned (.tuple #[.int .i64 ((unitN 98 d.data.toList).getD 0), .bool (unitN 98 d.data.toList).isSome]) ∧ Below W.heap.size W w' from unit_any d 98 W (by omega))
  clear h4 hw hl za zb zc zd hs
  generalize unitN 109 a.data.toList = oa at *
  generalize unitN 103 b.data.toList = ob at *
  generalize unitN 112 c.data.toList = oc at *
  generalize unitN 98 d.data.toList = od at *
  go_enter Tryz.func30, Tryz.ntmps30
  go_upto_region 1 with fail
  generalize w.alloc (.cells #[.int .i64 0, .int .i64 0, .int .i64 0, .int .i64 0] 44) = w1 at *
  go_upto_region 4 with (go_at_call 65; (with_reducible refine (HSP.out _).mono ?_); rintro e w2 ⟨A, k, rfl, hrd, b2⟩)
  obtain ⟨pb, po, s0, rfl, hpb, hs0, cc0⟩ := hrd.at_ (j := 0) (by simp)
  obtain ⟨pb1, po1, s1, hA1, _, hs1, cc1⟩ := hrd.at_ (j := 1) (by simp)
  obtain ⟨pb2, po2, s2, hA2, _, hs2, cc2⟩ := hrd.at_ (j := 2) (by simp)
  obtain ⟨pb3, po3, s3, hA3, _, hs3, cc3⟩ := hrd.at_ (j := 3) (by simp)
  rw [Nat.add_zero] at cc0
  cases hA1; cases hA2; cases hA3; cases hs0; cases hs1; cases hs2; cases hs3
  have C1 := hide fun W (hW : Below w2.heap.size w2 W) => (hW.cell (p := ⟨pb, po + 1, none⟩) hpb).trans cc1
  have C2 := hide fun W (hW : Below w2.heap.size w2 W) => (hW.cell (p := ⟨pb, po + 2, none⟩) hpb).trans cc2
  have C3 := hide fun W (hW : Below w2.heap.size w2 W) => (hW.cell (p := ⟨pb, po + 3, none⟩) hpb).trans cc3
  have Y2 := hide (Y0.out.below b2 Y0.out.lt)
  have B2 := hide (B0.out.trans (b2.mono B0.out.size))
  clear cc1 cc2 cc3 hrd b2 Y0 B0 HSP
  go_upto_region 5 with (go_at_call 66; (with_reducible refine (HUa.out _).mono ?_); rintro e w3 ⟨rfl, b3⟩)
  have cc1 := C1.out _ b3
  have F3 := hide b3
  clear b3 cc0 HUa
  go_upto_region 6 with (go_at_call 66; (with_reducible refine (HUb.out _).mono ?_); rintro e w4 ⟨rfl, b4⟩)
  have F4 := hide (F3.out.trans (b4.mono F3.out.size))
  have cc2 := C2.out _ F4.out
  clear b4 cc1 HUb F3
  go_upto_region 7 with (go_at_call 66; (with_reducible refine (HUc.out _).mono ?_); rintro e w5 ⟨rfl, b5⟩)
  have F5 := hide (F4.out.trans (b5.mono F4.out.size))
  have cc3 := C3.out _ F5.out
  clear b5 cc2 HUc F4
  go_upto_region 8 with (go_at_call 66; (with_reducible refine (HUd.out _).mono ?_); rintro e w6 ⟨rfl, b6⟩)
  have F6 := hide (F5.out.trans (b6.mono F5.out.size))
  have Y6 := hide (Y2.out.below F6.out Y2.out.lt)
  have B6 := hide (B2.out.trans (F6.out.mono B2.out.size))
  clear b6 cc3 HUd F5 C1 C2 C3 F6 Y2 B2
  obtain ⟨xa, hxa⟩ : ∃ q, q = oa.getD 0 := ⟨_, rfl⟩
  obtain ⟨xb, hxb⟩ : ∃ q, q = ob.getD 0 := ⟨_, rfl⟩
  obtain ⟨xc, hxc⟩ : ∃ q, q = oc.getD 0 := ⟨_, rfl⟩
  obtain ⟨xd, hxd⟩ : ∃ q, q = od.getD 0 := ⟨_, rfl⟩
  rw [← hxa, ← hxb, ← hxc, ← hxd]
  have HQ2 := hide (show readB s = if (oa.isSome && ob.isSome && oc.isSome && od.isSome && okR ⟨xa, xb, xc, xd⟩) = true then some ⟨xa, xb, xc, xd⟩ else none by rw [hxa, hxb, hxc, hxd]; exact HQ.out)
  clear HQ hxa hxb hxc hxd
  go_upto_region 9 with fail
  have X8 := hide (BoxN.new w6 #[.int .i64 xa, .int .i64 xb, .int .i64 xc, .int .i64 xd] 44)
  have Y8 := hide (Y6.out.alloc (.cells #[.int .i64 xa, .int .i64 xb, .int .i64 xc, .int .i64 xd] 44))
  have B8 := hide (B6.out.alloc B6.out.size (.cells #[.int .i64 xa, .int .i64 xb, .int .i64 xc, .int .i64 xd] 44))
  generalize w6.alloc (.cells #[.int .i64 xa, .int .i64 xb, .int .i64 xc, .int .i64 xd] 44) = wZ at *
  generalize w6.heap.size = gx at *
  clear Y6 B6
  have HOK := hide (specOk_any ⟨xa, xb, xc, xd⟩ gx 0 wZ ⟨X8.out.cell 0, X8.out.cell 1, X8.out.cell 2, X8.out.cell 3⟩)
  generalize oa.isSome = va at *
  generalize ob.isSome = vb at *
  generalize oc.isSome = vc at *
  generalize od.isSome = vd at *
  cases va
  · have HRES := hide (show readB s = none by rw [HQ2.out]; simp)
    clear HQ2
    have T1 := hide (Y8.out.set 0 (.int .i64 0))
    have T2 := hide (T1.out.set 1 (.int .i64 0))
    have T3 := hide (T2.out.set 2 (.int .i64 0))
    have T4 := hide (T3.out.set 3 (.int .i64 0))
    have m0 : wZ.cell? ⟨w.heap.size, 0, none⟩ = some (.int .i64 0) := Y8.out.cell 0
    have n0 := Y8.out.fro 0
    have m1 : (wZ.setCell ⟨w.heap.size, 0, none⟩ (.int .i64 0)).cell? ⟨w.heap.size, 1, none⟩ = some (.int .i64 0) := T1.out.cell 1
    have n1 := T1.out.fro 1
    have m2 : ((wZ.setCell ⟨w.heap.size, 0, none⟩ (.int .i64 0)).setCell ⟨w.heap.size, 1, none⟩ (.int .i64 0)).cell? ⟨w.heap.size, 2, none⟩ = some (.int .i64 0) := T2.out.cell 2
    have n2 := T2.out.fro 2
    have m3 : (((wZ.setCell ⟨w.heap.size, 0, none⟩ (.int .i64 0)).setCell ⟨w.heap.size, 1, none⟩ (.int .i64 0)).setCell ⟨w.heap.size, 2, none⟩ (.int .i64 0)).cell? ⟨w.heap.size, 3, none⟩ = some (.int .i64 0) := T3.out.cell 3
    have n3 := T3.out.fro 3
    go_wp2_with fail
    have q0 : ((((wZ.setCell ⟨w.heap.size, 0, none⟩ (.int .i64 0)).setCell ⟨w.heap.size, 1, none⟩ (.int .i64 0)).setCell ⟨w.heap.size, 2, none⟩ (.int .i64 0)).setCell ⟨w.heap.size, 3, none⟩ (.int .i64 0)).cell? ⟨w.heap.size, 0, none⟩ = some (.int .i64 0) := T4.out.cell 0
    have q1 : ((((wZ.setCell ⟨w.heap.size, 0, none⟩ (.int .i64 0)).setCell ⟨w.heap.size, 1, none⟩ (.int .i64 0)).setCell ⟨w.heap.size, 2, none⟩ (.int .i64 0)).setCell ⟨w.heap.size, 3, none⟩ (.int .i64 0)).cell? ⟨w.heap.size, 1, none⟩ = some (.int .i64 0) := T4.out.cell 1
    have q2 : ((((wZ.setCell ⟨w.heap.size, 0, none⟩ (.int .i64 0)).setCell ⟨w.heap.size, 1, none⟩ (.int .i64 0)).setCell ⟨w.heap.size, 2, none⟩ (.int .i64 0)).setCell ⟨w.heap.size, 3, none⟩ (.int .i64 0)).cell? ⟨w.heap.size, 2, none⟩ = some (.int .i64 0) := T4.out.cell 2
    have q3 : ((((wZ.setCell ⟨w.heap.size, 0, none⟩ (.int .i64 0)).setCell ⟨w.heap.size, 1, none⟩ (.int .i64 0)).setCell ⟨w.heap.size, 2, none⟩ (.int .i64 0)).setCell ⟨w.heap.size, 3, none⟩ (.int .i64 0)).cell? ⟨w.heap.size, 3, none⟩ = some (.int .i64 0) := T4.out.cell 3
    refine bodyPost_ret (v := .tuple #[.agg #[.int .i64 0, .int .i64 0, .int .i64 0, .int .i64 0], .bool false]) (by simp [results, Tryz.results30, go_sem, q0, q1, q2, q3]) rfl ⟨by rw [HRES.out]; rfl, ?_⟩
    exact (((B8.out.setCell (p := ⟨w.heap.size, 0, none⟩) (Nat.le_refl _) _).setCell (p := ⟨w.heap.size, 1, none⟩) (Nat.le_refl _) _).setCell (p := ⟨w.heap.size, 2, none⟩) (Nat.le_refl _) _).setCell (p := ⟨w.heap.size, 3, none⟩) (Nat.le_refl _) _
  cases vb
  · have HRES := hide (show readB s = none by rw [HQ2.out]; simp)
    clear HQ2
    have T1 := hide (Y8.out.set 0 (.int .i64 0))
    have T2 := hide (T1.out.set 1 (.int .i64 0))
    have T3 := hide (T2.out.set 2 (.int .i64 0))
    have T4 := hide (T3.out.set 3 (.int .i64 0))
    have m0 : wZ.cell? ⟨w.heap.size, 0, none⟩ = some (.int .i64 0) := Y8.out.cell 0
    have n0 := Y8.out.fro 0
    have m1 : (wZ.setCell ⟨w.heap.size, 0, none⟩ (.int .i64 0)).cell? ⟨w.heap.size, 1, none⟩ = some (.int .i64 0) := T1.out.cell 1
    have n1 := T1.out.fro 1
    have m2 : ((wZ.setCell ⟨w.heap.size, 0, none⟩ (.int .i64 0)).setCell ⟨w.heap.size, 1, none⟩ (.int .i64 0)).cell? ⟨w.heap.size, 2, none⟩ = some (.int .i64 0) := T2.out.cell 2
    have n2 := T2.out.fro 2
    have m3 : (((wZ.setCell ⟨w.heap.size, 0, none⟩ (.int .i64 0)).setCell ⟨w.heap.size, 1, none⟩ (.int .i64 0)).setCell ⟨w.heap.size, 2, none⟩ (.int .i64 0)).cell? ⟨w.heap.size, 3, none⟩ = some (.int .i64 0) := T3.out.cell 3
    have n3 := T3.out.fro 3
    go_wp2_with fail
    have q0 : ((((wZ.setCell ⟨w.heap.size, 0, none⟩ (.int .i64 0)).setCell ⟨w.heap.size, 1, none⟩ (.int .i64 0)).setCell ⟨w.heap.size, 2, none⟩ (.int .i64 0)).setCell ⟨w.heap.size, 3, none⟩ (.int .i64 0)).cell? ⟨w.heap.size, 0, none⟩ = some (.int .i64 0) := T4.out.cell 0
    have q1 : ((((wZ.setCell ⟨w.heap.size, 0, none⟩ (.int .i64 0)).setCell ⟨w.heap.size, 1, none⟩ (.int .i64 0)).setCell ⟨w.heap.size, 2, none⟩ (.int .i64 0)).setCell ⟨w.heap.size, 3, none⟩ (.int .i64 0)).cell? ⟨w.heap.size, 1, none⟩ = some (.int .i64 0) := T4.out.cell 1
    have q2 : ((((wZ.setCell ⟨w.heap.size, 0, none⟩ (.int .i64 0)).setCell ⟨w.heap.size, 1, none⟩ (.int .i64 0)).setCell ⟨w.heap.size, 2, none⟩ (.int .i64 0)).setCell ⟨w.heap.size, 3, none⟩ (.int .i64 0)).cell? ⟨w.heap.size, 2, none⟩ = some (.int .i64 0) := T4.out.cell 2
    have q3 : ((((wZ.setCell ⟨w.heap.size, 0, none⟩ (.int .i64 0)).setCell ⟨w.heap.size, 1, none⟩ (.int .i64 0)).setCell ⟨w.heap.size, 2, none⟩ (.int .i64 0)).setCell ⟨w.heap.size, 3, none⟩ (.int .i64 0)).cell? ⟨w.heap.size, 3, none⟩ = some (.int .i64 0) := T4.out.cell 3
    refine bodyPost_ret (v := .tuple #[.agg #[.int .i64 0, .int .i64 0, .int .i64 0, .int .i64 0], .bool false]) (by simp [results, Tryz.results30, go_sem, q0, q1, q2, q3]) rfl ⟨by rw [HRES.out]; rfl, ?_⟩
    exact (((B8.out.setCell (p := ⟨w.heap.size, 0, none⟩) (Nat.le_refl _) _).setCell (p := ⟨w.heap.size, 1, none⟩) (Nat.le_refl _) _).setCell (p := ⟨w.heap.size, 2, none⟩) (Nat.le_refl _) _).setCell (p := ⟨w.heap.size, 3, none⟩) (Nat.le_refl _) _
  cases vc
  · have HRES := hide (show readB s = none by rw [HQ2.out]; simp)
    clear HQ2
    have T1 := hide (Y8.out.set 0 (.int .i64 0))
    have T2 := hide (T1.out.set 1 (.int .i64 0))
    have T3 := hide (T2.out.set 2 (.int .i64 0))
    have T4 := hide (T3.out.set 3 (.int .i64 0))
    have m0 : wZ.cell? ⟨w.heap.size, 0, none⟩ = some (.int .i64 0) := Y8.out.cell 0
    have n0 := Y8.out.fro 0
    have m1 : (wZ.setCell ⟨w.heap.size, 0, none⟩ (.int .i64 0)).cell? ⟨w.heap.size, 1, none⟩ = some (.int .i64 0) := T1.out.cell 1
    have n1 := T1.out.fro 1
    have m2 : ((wZ.setCell ⟨w.heap.size, 0, none⟩ (.int .i64 0)).setCell ⟨w.heap.size, 1, none⟩ (.int .i64 0)).cell? ⟨w.heap.size, 2, none⟩ = some (.int .i64 0) := T2.out.cell 2
    have n2 := T2.out.fro 2
    have m3 : (((wZ.setCell ⟨w.heap.size, 0, none⟩ (.int .i64 0)).setCell ⟨w.heap.size, 1, none⟩ (.int .i64 0)).setCell ⟨w.heap.size, 2, none⟩ (.int .i64 0)).cell? ⟨w.heap.size, 3, none⟩ = some (.int .i64 0) := T3.out.cell 3
    have n3 := T3.out.fro 3
    go_wp2_with fail
    have q0 : ((((wZ.setCell ⟨w.heap.size, 0, none⟩ (.int .i64 0)).setCell ⟨w.heap.size, 1, none⟩ (.int .i64 0)).setCell ⟨w.heap.size, 2, none⟩ (.int .i64 0)).setCell ⟨w.heap.size, 3, none⟩ (.int .i64 0)).cell? ⟨w.heap.size, 0, none⟩ = some (.int .i64 0) := T4.out.cell 0
    have q1 : ((((wZ.setCell ⟨w.heap.size, 0, none⟩ (.int .i64 0)).setCell ⟨w.heap.size, 1, none⟩ (.int .i64 0)).setCell ⟨w.heap.size, 2, none⟩ (.int .i64 0)).setCell ⟨w.heap.size, 3, none⟩ (.int .i64 0)).cell? ⟨w.heap.size, 1, none⟩ = some (.int .i64 0) := T4.out.cell 1
    have q2 : ((((wZ.setCell ⟨w.heap.size, 0, none⟩ (.int .i64 0)).setCell ⟨w.heap.size, 1, none⟩ (.int .i64 0)).setCell ⟨w.heap.size, 2, none⟩ (.int .i64 0)).setCell ⟨w.heap.size, 3, none⟩ (.int .i64 0)).cell? ⟨w.heap.size, 2, none⟩ = some (.int .i64 0) := T4.out.cell 2
    have q3 : ((((wZ.setCell ⟨w.heap.size, 0, none⟩ (.int .i64 0)).setCell ⟨w.heap.size, 1, none⟩ (.int .i64 0)).setCell ⟨w.heap.size, 2, none⟩ (.int .i64 0)).setCell ⟨w.heap.size, 3, none⟩ (.int .i64 0)).cell? ⟨w.heap.size, 3, none⟩ = some (.int .i64 0) := T4.out.cell 3
    refine bodyPost_ret (v := .tuple #[.agg #[.int .i64 0, .int .i64 0, .int .i64 0, .int .i64 0], .bool false]) (by simp [results, Tryz.results30, go_sem, q0, q1, q2, q3]) rfl ⟨by rw [HRES.out]; rfl, ?_⟩
    exact (((B8.out.setCell (p := ⟨w.heap.size, 0, none⟩) (Nat.le_refl _) _).setCell (p := ⟨w.heap.size, 1, none⟩) (Nat.le_refl _) _).setCell (p := ⟨w.heap.size, 2, none⟩) (Nat.le_refl _) _).setCell (p := ⟨w.heap.size, 3, none⟩) (Nat.le_refl _) _
  cases vd
  · have HRES := hide (show readB s = none by rw [HQ2.out]; simp)
    clear HQ2
    have T1 := hide (Y8.out.set 0 (.int .i64 0))
    have T2 := hide (T1.out.set 1 (.int .i64 0))
    have T3 := hide (T2.out.set 2 (.int .i64 0))
    have T4 := hide (T3.out.set 3 (.int .i64 0))
    have m0 : wZ.cell? ⟨w.heap.size, 0, none⟩ = some (.int .i64 0) := Y8.out.cell 0
    have n0 := Y8.out.fro 0
    have m1 : (wZ.setCell ⟨w.heap.size, 0, none⟩ (.int .i64 0)).cell? ⟨w.heap.size, 1, none⟩ = some (.int .i64 0) := T1.out.cell 1
    have n1 := T1.out.fro 1
    have m2 : ((wZ.setCell ⟨w.heap.size, 0, none⟩ (.int .i64 0)).setCell ⟨w.heap.size, 1, none⟩ (.int .i64 0)).cell? ⟨w.heap.size, 2, none⟩ = some (.int .i64 0) := T2.out.cell 2
    have n2 := T2.out.fro 2
    have m3 : (((wZ.setCell ⟨w.heap.size, 0, none⟩ (.int .i64 0)).setCell ⟨w.heap.size, 1, none⟩ (.int .i64 0)).setCell ⟨w.heap.size, 2, none⟩ (.int .i64 0)).cell? ⟨w.heap.size, 3, none⟩ = some (.int .i64 0) := T3.out.cell 3
    have n3 := T3.out.fro 3
    go_wp2_with fail
    have q0 : ((((wZ.setCell ⟨w.heap.size, 0, none⟩ (.int .i64 0)).setCell ⟨w.heap.size, 1, none⟩ (.int .i64 0)).setCell ⟨w.heap.size, 2, none⟩ (.int .i64 0)).setCell ⟨w.heap.size, 3, none⟩ (.int .i64 0)).cell? ⟨w.heap.size, 0, none⟩ = some (.int .i64 0) := T4.out.cell 0
    have q1 : ((((wZ.setCell ⟨w.heap.size, 0, none⟩ (.int .i64 0)).setCell ⟨w.heap.size, 1, none⟩ (.int .i64 0)).setCell ⟨w.heap.size, 2, none⟩ (.int .i64 0)).setCell ⟨w.heap.size, 3, none⟩ (.int .i64 0)).cell? ⟨w.heap.size, 1, none⟩ = some (.int .i64 0) := T4.out.cell 1
    have q2 : ((((wZ.setCell ⟨w.heap.size, 0, none⟩ (.int .i64 0)).setCell ⟨w.heap.size, 1, none⟩ (.int .i64 0)).setCell ⟨w.heap.size, 2, none⟩ (.int .i64 0)).setCell ⟨w.heap.size, 3, none⟩ (.int .i64 0)).cell? ⟨w.heap.size, 2, none⟩ = some (.int .i64 0) := T4.out.cell 2
    have q3 : ((((wZ.setCell ⟨w.heap.size, 0, none⟩ (.int .i64 0)).setCell ⟨w.heap.size, 1, none⟩ (.int .i64 0)).setCell ⟨w.heap.size, 2, none⟩ (.int .i64 0)).setCell ⟨w.heap.size, 3, none⟩ (.int .i64 0)).cell? ⟨w.heap.size, 3, none⟩ = some (.int .i64 0) := T4.out.cell 3
    refine bodyPost_ret (v := .tuple #[.agg #[.int .i64 0, .int .i64 0, .int .i64 0, .int .i64 0], .bool false]) (by simp [results, Tryz.results30, go_sem, q0, q1, q2, q3]) rfl ⟨by rw [HRES.out]; rfl, ?_⟩
    exact (((B8.out.setCell (p := ⟨w.heap.size, 0, none⟩) (Nat.le_refl _) _).setCell (p := ⟨w.heap.size, 1, none⟩) (Nat.le_refl _) _).setCell (p := ⟨w.heap.size, 2, none⟩) (Nat.le_refl _) _).setCell (p := ⟨w.heap.size, 3, none⟩) (Nat.le_refl _) _
  cases hok : okR ⟨xa, xb, xc, xd⟩
  · have HRES := hide (show readB s = none by rw [HQ2.out, hok]; simp)
    rw [hok] at HOK
    clear HQ2
    have T1 := hide (Y8.out.set 0 (.int .i64 0))
    have T2 := hide (T1.out.set 1 (.int .i64 0))
    have T3 := hide (T2.out.set 2 (.int .i64 0))
    have T4 := hide (T3.out.set 3 (.int .i64 0))
    have m0 : wZ.cell? ⟨w.heap.size, 0, none⟩ = some (.int .i64 0) := Y8.out.cell 0
    have n0 := Y8.out.fro 0
    have m1 : (wZ.setCell ⟨w.heap.size, 0, none⟩ (.int .i64 0)).cell? ⟨w.heap.size, 1, none⟩ = some (.int .i64 0) := T1.out.cell 1
    have n1 := T1.out.fro 1
    have m2 : ((wZ.setCell ⟨w.heap.size, 0, none⟩ (.int .i64 0)).setCell ⟨w.heap.size, 1, none⟩ (.int .i64 0)).cell? ⟨w.heap.size, 2, none⟩ = some (.int .i64 0) := T2.out.cell 2
    have n2 := T2.out.fro 2
    have m3 : (((wZ.setCell ⟨w.heap.size, 0, none⟩ (.int .i64 0)).setCell ⟨w.heap.size, 1, none⟩ (.int .i64 0)).setCell ⟨w.heap.size, 2, none⟩ (.int .i64 0)).cell? ⟨w.heap.size, 3, none⟩ = some (.int .i64 0) := T3.out.cell 3
    have n3 := T3.out.fro 3
    go_wp2_with (go_at_call 50; (with_reducible refine (HOK.out).mono ?_); rintro e w9 ⟨rfl, rfl⟩)
    have q0 : ((((wZ.setCell ⟨w.heap.size, 0, none⟩ (.int .i64 0)).setCell ⟨w.heap.size, 1, none⟩ (.int .i64 0)).setCell ⟨w.heap.size, 2, none⟩ (.int .i64 0)).setCell ⟨w.heap.size, 3, none⟩ (.int .i64 0)).cell? ⟨w.heap.size, 0, none⟩ = some (.int .i64 0) := T4.out.cell 0
    have q1 : ((((wZ.setCell ⟨w.heap.size, 0, none⟩ (.int .i64 0)).setCell ⟨w.heap.size, 1, none⟩ (.int .i64 0)).setCell ⟨w.heap.size, 2, none⟩ (.int .i64 0)).setCell ⟨w.heap.size, 3, none⟩ (.int .i64 0)).cell? ⟨w.heap.size, 1, none⟩ = some (.int .i64 0) := T4.out.cell 1
    have q2 : ((((wZ.setCell ⟨w.heap.size, 0, none⟩ (.int .i64 0)).setCell ⟨w.heap.size, 1, none⟩ (.int .i64 0)).setCell ⟨w.heap.size, 2, none⟩ (.int .i64 0)).setCell ⟨w.heap.size, 3, none⟩ (.int .i64 0)).cell? ⟨w.heap.size, 2, none⟩ = some (.int .i64 0) := T4.out.cell 2
    have q3 : ((((wZ.setCell ⟨w.heap.size, 0, none⟩ (.int .i64 0)).setCell ⟨w.heap.size, 1, none⟩ (.int .i64 0)).setCell ⟨w.heap.size, 2, none⟩ (.int .i64 0)).setCell ⟨w.heap.size, 3, none⟩ (.int .i64 0)).cell? ⟨w.heap.size, 3, none⟩ = some (.int .i64 0) := T4.out.cell 3
    refine bodyPost_ret (v := .tuple #[.agg #[.int .i64 0, .int .i64 0, .int .i64 0, .int .i64 0], .bool false]) (by simp [results, Tryz.results30, go_sem, q0, q1, q2, q3]) rfl ⟨by rw [HRES.out]; rfl, ?_⟩
    exact (((B8.out.setCell (p := ⟨w.heap.size, 0, none⟩) (Nat.le_refl _) _).setCell (p := ⟨w.heap.size, 1, none⟩) (Nat.le_refl _) _).setCell (p := ⟨w.heap.size, 2, none⟩) (Nat.le_refl _) _).setCell (p := ⟨w.heap.size, 3, none⟩) (Nat.le_refl _) _
  · have HRES := hide (show readB s = some ⟨xa, xb, xc, xd⟩ by rw [HQ2.out, hok]; simp)
    rw [hok] at HOK
    clear HQ2
    have k0 := X8.out.cell 0
    have k1 := X8.out.cell 1
    have k2 := X8.out.cell 2
    have k3 := X8.out.cell 3
    have T1 := hide (Y8.out.set 0 (.int .i64 xa))
    have T2 := hide (T1.out.set 1 (.int .i64 xb))
    have T3 := hide (T2.out.set 2 (.int .i64 xc))
    have T4 := hide (T3.out.set 3 (.int .i64 xd))
    have m0 : wZ.cell? ⟨w.heap.size, 0, none⟩ = some (.int .i64 0) := Y8.out.cell 0
    have n0 := Y8.out.fro 0
    have m1 : (wZ.setCell ⟨w.heap.size, 0, none⟩ (.int .i64 xa)).cell? ⟨w.heap.size, 1, none⟩ = some (.int .i64 0) := T1.out.cell 1
    have n1 := T1.out.fro 1
    have m2 : ((wZ.setCell ⟨w.heap.size, 0, none⟩ (.int .i64 xa)).setCell ⟨w.heap.size, 1, none⟩ (.int .i64 xb)).cell? ⟨w.heap.size, 2, none⟩ = some (.int .i64 0) := T2.out.cell 2
    have n2 := T2.out.fro 2
    have m3 : (((wZ.setCell ⟨w.heap.size, 0, none⟩ (.int .i64 xa)).setCell ⟨w.heap.size, 1, none⟩ (.int .i64 xb)).setCell ⟨w.heap.size, 2, none⟩ (.int .i64 xc)).cell? ⟨w.heap.size, 3, none⟩ = some (.int .i64 0) := T3.out.cell 3
    have n3 := T3.out.fro 3
    go_wp2_with (go_at_call 50; (with_reducible refine (HOK.out).mono ?_); rintro e w9 ⟨rfl, rfl⟩)
    have q0 : ((((wZ.setCell ⟨w.heap.size, 0, none⟩ (.int .i64 xa)).setCell ⟨w.heap.size, 1, none⟩ (.int .i64 xb)).setCell ⟨w.heap.size, 2, none⟩ (.int .i64 xc)).setCell ⟨w.heap.size, 3, none⟩ (.int .i64 xd)).cell? ⟨w.heap.size, 0, none⟩ = some (.int .i64 xa) := T4.out.cell 0
    have q1 : ((((wZ.setCell ⟨w.heap.size, 0, none⟩ (.int .i64 xa)).setCell ⟨w.heap.size, 1, none⟩ (.int .i64 xb)).setCell ⟨w.heap.size, 2, none⟩ (.int .i64 xc)).setCell ⟨w.heap.size, 3, none⟩ (.int .i64 xd)).cell? ⟨w.heap.size, 1, none⟩ = some (.int .i64 xb) := T4.out.cell 1
    have q2 : ((((wZ.setCell ⟨w.heap.size, 0, none⟩ (.int .i64 xa)).setCell ⟨w.heap.size, 1, none⟩ (.int .i64 xb)).setCell ⟨w.heap.size, 2, none⟩ (.int .i64 xc)).setCell ⟨w.heap.size, 3, none⟩ (.int .i64 xd)).cell? ⟨w.heap.size, 2, none⟩ = some (.int .i64 xc) := T4.out.cell 2
    have q3 : ((((wZ.setCell ⟨w.heap.size, 0, none⟩ (.int .i64 xa)).setCell ⟨w.heap.size, 1, none⟩ (.int .i64 xb)).setCell ⟨w.heap.size, 2, none⟩ (.int .i64 xc)).setCell ⟨w.heap.size, 3, none⟩ (.int .i64 xd)).cell? ⟨w.heap.size, 3, none⟩ = some (.int .i64 xd) := T4.out.cell 3
    refine bodyPost_ret (v := .tuple #[.agg #[.int .i64 xa, .int .i64 xb, .int .i64 xc, .int .i64 xd], .bool true]) (by simp [results, Tryz.results30, go_sem, q0, q1, q2, q3]) rfl ⟨by rw [HRES.out]; rfl, ?_⟩
    exact (((B8.out.setCell (p := ⟨w.heap.size, 0, none⟩) (Nat.le_refl _) _).setCell (p := ⟨w.heap.size, 1, none⟩) (Nat.le_refl _) _).setCell (p := ⟨w.heap.size, 2, none⟩) (Nat.le_refl _) _).setCell (p := ⟨w.heap.size, 3, none⟩) (Nat.le_refl _) _
end Go.Proofs.YtaajkmjilcamgaaGreatDoor
