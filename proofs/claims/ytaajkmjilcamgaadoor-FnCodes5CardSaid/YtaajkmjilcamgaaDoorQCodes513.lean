/-
  The law FnCodes5 returns true for every input. Condition: the listed tables of the library lie as their initialisers lay them.
-/
import Derived.Test.YtaajkmjilcamgaaDoorQCodes512
import Derived.Test.YtaajkmjilcamgaaDoorQCodes50
import Derived.Test.YtaajkmjilcamgaaDoorRows
import Derived.Test.YtaajkmjilcamgaaDoorCards
import Derived.Test.YtaajkmjilcamgaaDoorTie
import Derived.Test.YtaajkmjilcamgaaDoorQCodes52
import Derived.ProofKit
import Derived.Deep.DeepCutAuto
import Derived.OpenShut
import Derived.SevenTiedAt
namespace Go.Proofs.YtaajkmjilcamgaaDoor
open Go.ChangeShapes Go.WideShapes Go.ChangeAt Go.RowKit
theorem lcd_tab {w : World} (h : laidMet Tryd.prog Rows.fnCodes5Row.laid w) : TabB w :=
  tabB_of (laid_reads h (by
    have e : (Lib.tabData .u8 zsB : DataW Unit) = Rows.laid_math_bits_deBruijn32tab := by kernel_rfl
    rw [e]
    simp [Rows.fnCodes5Row]))
/-- What holds in all worlds from here on. -/
def Fu (w : World) (P : World → Prop) : Prop := ∀ W, Below w.heap.size w W → P W
theorem Fu.step {w w2 : World} {P : World → Prop} (h : Fu w P) (b : Below w.heap.size w w2) : Fu w2 P := fun W hW => h W (b.trans (hW.mono b.size))
theorem Fu.now {w : World} {P : World → Prop} (h : Fu w P) : P w := h w (Below.refl _ _)
theorem fu_below {w0 w : World} (b : Below w0.heap.size w0 w) : Fu w (fun W => Below w0.heap.size w0 W) := fun _ hW => b.trans (hW.mono b.size)
theorem fu_B {w : World} {A : Option Addr} {xs : List Int} (h : RdB w w.heap.size A xs) : Fu w (fun W => RdB W W.heap.size A xs) := fun _ hW => (RdB.below h hW).more hW.size
theorem fu_S {w : World} {A : Option Addr} {xs : List ByteArray} (h : RdS w w.heap.size A xs) : Fu w (fun W => RdS W W.heap.size A xs) := fun _ hW => (RdS.below h hW).more hW.size
theorem fu_T {w : World} (h : TabB w) : Fu w TabB := fun _ hW => h.below hW (tabB_lt h)
theorem lcdBig_any (A : Option Addr) (n c : Nat) (w : World) (hn : ¬ n ≤ 4096) (hn2 : n ≤ 9223372036854775807) :
    Calls Tryd.prog 4 #[.slice A n c] w fun e w' => e = .returned (.bool true) ∧ w = w' := by
  have hD : decide ((4096 : Int) < (n : Int)) = true := decide_eq_true (by omega)
  go_enter Tryd.func4, Tryd.ntmps4
  go_wp2_with fail
  go_ret
  exact ⟨rfl, rfl⟩
theorem lcd_same (xs : List ByteArray) (A1 A2 : Option Addr) (c1 c2 : Nat) (w : World) (hx : xs.length ≤ 1048576) (h1 : RdS w w.heap.size A1 xs) (h2 : RdS w w.heap.size A2 xs) :
    Calls Tryd.prog 17 #[.slice A1 xs.length c1, .slice A2 xs.length c2] w fun e w' => e = .returned (.bool true) ∧ Below w.heap.size w w' := by
  refine (f6texts_any xs xs A1 A2 c1 c2 w (by omega) (by omega) h1 h2).mono ?_
  rintro e w' ⟨rfl, b⟩
  exact ⟨by simp, b⟩
theorem allR_len {s r : Int} : (allR s r).length ≤ 300 := by
  unfold allR
  split
  · rename_i h
    obtain ⟨_, _, _, h5⟩ := codeW_ok h
    rw [allW_len]; omega
  · exact Nat.zero_le _
theorem addR_len {n : Int} {ws : List ByteArray} {d : Int} (h : ws.length ≤ 50) : (addR n ws d).1.length ≤ 51 := by
  unfold addR
  split
  · exact Nat.zero_le _
  split
  · exact Nat.zero_le _
  split
  · exact Nat.zero_le _
  split
  · exact Nat.zero_le _
  cases addF n ws d with
  | none => exact Nat.zero_le _
  | some v => show (ws ++ [v]).length ≤ 51; rw [List.length_append, List.length_singleton]; omega
theorem greedyR_len {s r d : Int} : (greedyR s r d).length ≤ 65536 := by
  by_cases h : codeW s r d 300 = 0
  · obtain ⟨_, _, _, h5⟩ := codeW_ok h
    have hg : ∀ (l out : List ByteArray), (greedyG d out l).length ≤ out.length + l.length := by
      intro l
      induction l with
      | nil => intro out; exact Nat.le_refl _
      | cons w l ih =>
        intro out
        rw [greedyG]
        refine Nat.le_trans (ih _) ?_
        split <;> simp <;> omega
    unfold greedyR
    rw [if_pos h]
    have := hg (allW s.toNat r.toNat) []
    rw [allW_len] at this
    simp at this
    omega
  · unfold greedyR; rw [if_neg h]; exact Nat.zero_le _
set_option maxRecDepth 100000 in
set_option maxHeartbeats 16000000 in
theorem lCodes5_walk (bs : List Int) (v : Value) (w : World) (r : ∃ A c, v = .slice A bs.length c ∧ RdB w w.heap.size A bs) (nx : bs.length ≤ 9223372036854775807) (fx : ∀ z ∈ bs, 0 ≤ z ∧ z ≤ 255) (hL : laidMet Tryd.prog Rows.fnCodes5Row.laid w) :
    Calls Tryd.prog 3 #[v] w fun e w' => e = .returned (.bool true) ∧ Below w.heap.size w w' := by
  obtain ⟨A, c, rfl, r⟩ := r
  by_cases hlong : bs.length ≤ 4096
  case neg =>
    have HB := hide (lcdBig_any A bs.length c w hlong nx)
    clear hlong r nx fx hL
    go_enter Tryd.func3, Tryd.ntmps3
    go_wp2_with (go_at_call 4; refine (HB.out).mono ?_; rintro e w' ⟨rfl, rfl⟩)
    go_ret
    exact ⟨rfl, Below.refl _ _⟩
  have HB := hide (f6big_any A bs.length c w hlong)
  have HBO := hide (show BsOk bs from ⟨hlong, fx⟩)
  have FR := hide (fu_B r)
  have FT := hide (fu_T (lcd_tab hL))
  have FB := hide (fu_below (Below.refl w.heap.size w))
  have HD := hide (drawGreedyCode_any bs A c w HBO.out FR.out.now)
  clear r nx fx hlong hL
  go_enter Tryd.func3, Tryd.ntmps3
  go_upto_region 4 with (first | (go_at_call 4; refine (HB.out).mono ?_; rintro e w' ⟨rfl, rfl⟩) | (go_at_call 5; (with_reducible refine (HD.out).mono ?_); rintro e w1 ⟨s1, r1, d1, rfl, hs1, hr1, hd1, b1⟩))
  replace FB := hide (FB.out.step b1)
  replace FR := hide (FR.out.step b1)
  replace FT := hide (FT.out.step b1)
  clear b1
  clear HD HB
  have LG := hide (fun h : codeW s1 r1 d1 300 = 0 => (⟨greedyR_ok h, codeW_ok h⟩ : _ ∧ _))
  have hgl := greedyR_len (s := s1) (r := r1) (d := d1)
  have HP := hide fun W => P_GreedyCode s1 r1 d1 W
  have HS := hide fun W => S_GreedyCode s1 r1 d1 W
  generalize greedyR s1 r1 d1 = GL at *
  generalize codeW s1 r1 d1 300 = gc at *
  go_upto_region 5 with ((go_at_call 6; (with_reducible refine (HP.out _).mono ?_); rintro e w2 ⟨A2, c2, rfl, rs2, b2⟩))
  have FG1 := hide (fu_S rs2)
  clear rs2
  replace FB := hide (FB.out.step b2)
  replace FR := hide (FR.out.step b2)
  replace FT := hide (FT.out.step b2)
  clear b2
  go_upto_region 6 with ((go_at_call 7; (with_reducible refine (HS.out _).mono ?_); rintro e w3 ⟨A3, c3, rfl, rs3, b3⟩))
  have FG2 := hide (fu_S rs3)
  clear rs3
  replace FB := hide (FB.out.step b3)
  replace FR := hide (FR.out.step b3)
  replace FT := hide (FT.out.step b3)
  replace FG1 := hide (FG1.out.step b3)
  clear b3
  clear HP HS
  have HD := hide (drawMostAddresses_any bs A c w3 HBO.out FR.out.now)
  go_upto_region 7 with ((go_at_call 8; (with_reducible refine (HD.out).mono ?_); rintro e w4 ⟨s2, r2, d2, rfl, hs2, hr2, hd2, b4⟩))
  replace FB := hide (FB.out.step b4)
  replace FR := hide (FR.out.step b4)
  replace FT := hide (FT.out.step b4)
  replace FG1 := hide (FG1.out.step b4)
  replace FG2 := hide (FG2.out.step b4)
  clear b4
  clear HD
  have LM := hide (fun h : codeW s2 r2 d2 32 = 0 => (⟨greedy_most h, codeW_32_300 h⟩ : _ ∧ _))
  have HG3 := hide fun W => S_GreedyCode s2 r2 d2 W
  have HP := hide fun W (hW : Below w4.heap.size w4 W) => P_MostAddresses s2 r2 d2 W (tabB_lt (FT.out W hW)) (FT.out W hW)
  have HS := hide fun W => S_MostAddresses s2 r2 d2 W
  generalize mostR s2 r2 d2 = mo at *
  generalize codeW s2 r2 d2 32 = mc at *
  go_upto_region 8 with ((go_at_call 9; (with_reducible refine (HP.out _ (Below.refl _ _)).mono ?_); rintro e w5 ⟨rfl, b5⟩))
  replace FB := hide (FB.out.step b5)
  replace FR := hide (FR.out.step b5)
  replace FT := hide (FT.out.step b5)
  replace FG1 := hide (FG1.out.step b5)
  replace FG2 := hide (FG2.out.step b5)
  clear b5
  go_upto_region 9 with ((go_at_call 10; (with_reducible refine (HS.out _).mono ?_); rintro e w6 ⟨rfl, b6⟩))
  replace FB := hide (FB.out.step b6)
  replace FR := hide (FR.out.step b6)
  replace FT := hide (FT.out.step b6)
  replace FG1 := hide (FG1.out.step b6)
  replace FG2 := hide (FG2.out.step b6)
  clear b6
  clear HP HS
  have HD := hide (drawAllWords_any bs A c w6 HBO.out FR.out.now)
  go_upto_region 10 with ((go_at_call 11; (with_reducible refine (HD.out).mono ?_); rintro e w7 ⟨s3, r3, rfl, hs3, hr3, b7⟩))
  replace FB := hide (FB.out.step b7)
  replace FR := hide (FR.out.step b7)
  replace FT := hide (FT.out.step b7)
  replace FG1 := hide (FG1.out.step b7)
  replace FG2 := hide (FG2.out.step b7)
  clear b7
  clear HD
  have LA := hide (fun h : codeW s3 r3 1 300 = 0 => (⟨codeW_ok h, by rw [show allR s3 r3 = allW s3.toNat r3.toNat by unfold allR; rw [if_pos h], allW_len]⟩ : _ ∧ (allR s3 r3).length = s3.toNat ^ r3.toNat))
  have hal := allR_len (s := s3) (r := r3)
  have HP := hide fun W => P_AllWords s3 r3 W
  have HS := hide fun W => S_AllWords s3 r3 W
  generalize allR s3 r3 = AL at *
  generalize codeW s3 r3 1 300 = ac at *
  go_upto_region 11 with ((go_at_call 12; (with_reducible refine (HP.out _).mono ?_); rintro e w8 ⟨A8, c8, rfl, rs8, b8⟩))
  have FA1 := hide (fu_S rs8)
  clear rs8
  replace FB := hide (FB.out.step b8)
  replace FR := hide (FR.out.step b8)
  replace FT := hide (FT.out.step b8)
  replace FG1 := hide (FG1.out.step b8)
  replace FG2 := hide (FG2.out.step b8)
  clear b8
  go_upto_region 12 with ((go_at_call 13; (with_reducible refine (HS.out _).mono ?_); rintro e w9 ⟨A9, c9, rfl, rs9, b9⟩))
  have FA2 := hide (fu_S rs9)
  clear rs9
  replace FB := hide (FB.out.step b9)
  replace FR := hide (FR.out.step b9)
  replace FT := hide (FT.out.step b9)
  replace FG1 := hide (FG1.out.step b9)
  replace FG2 := hide (FG2.out.step b9)
  replace FA1 := hide (FA1.out.step b9)
  clear b9
  clear HP HS
  have HD := hide (drawAddAddress_any bs A c w9 HBO.out FR.out.now)
  go_upto_region 13 with ((go_at_call 14; (with_reducible refine (HD.out).mono ?_); rintro e w10 ⟨sg, Aw, cw, ws, dw, rfl, hok, hdw, rsw, b10⟩))
  have FW := hide (fu_S rsw)
  clear rsw
  replace FB := hide (FB.out.step b10)
  replace FR := hide (FR.out.step b10)
  replace FT := hide (FT.out.step b10)
  replace FG1 := hide (FG1.out.step b10)
  replace FG2 := hide (FG2.out.step b10)
  replace FA1 := hide (FA1.out.step b10)
  replace FA2 := hide (FA2.out.step b10)
  clear b10
  clear HD
  have LD := hide (fun h : (addR sg ws dw).2 = 0 => addR_ok h)
  have HP := hide fun W (hW : Below w10.heap.size w10 W) => P_AddAddress sg ws dw Aw cw W hok.len hok.cap.1 hok.cap.2 (fun s hs => by have := hok.small s hs; omega) (FW.out W hW)
  have HS := hide fun W (hW : Below w10.heap.size w10 W) => S_AddAddress sg ws dw Aw cw W hok.len hok.cap.1 hok.cap.2 (fun s hs => by have := hok.small s hs; omega) (FW.out W hW)
  have HZ := hide (Below.refl w10.heap.size w10)
  have hdl := addR_len (n := sg) (d := dw) hok.len
  generalize (addR sg ws dw).1 = DL at *
  generalize (addR sg ws dw).2 = dc at *
  go_upto_region 14 with ((go_at_call 15; (with_reducible refine (HP.out _ HZ.out).mono ?_); rintro e w11 ⟨A11, c11, rfl, rs11, b11⟩))
  have FD1 := hide (fu_S rs11)
  clear rs11
  replace HZ := hide (HZ.out.trans (b11.mono HZ.out.size))
  replace FB := hide (FB.out.step b11)
  replace FR := hide (FR.out.step b11)
  replace FT := hide (FT.out.step b11)
  replace FG1 := hide (FG1.out.step b11)
  replace FG2 := hide (FG2.out.step b11)
  replace FA1 := hide (FA1.out.step b11)
  replace FA2 := hide (FA2.out.step b11)
  replace FW := hide (FW.out.step b11)
  clear b11
  go_upto_region 15 with ((go_at_call 16; (with_reducible refine (HS.out _ HZ.out).mono ?_); rintro e w12 ⟨A12, c12, rfl, rs12, b12⟩))
  have FD2 := hide (fu_S rs12)
  clear rs12
  replace FB := hide (FB.out.step b12)
  replace FR := hide (FR.out.step b12)
  replace FT := hide (FT.out.step b12)
  replace FG1 := hide (FG1.out.step b12)
  replace FG2 := hide (FG2.out.step b12)
  replace FA1 := hide (FA1.out.step b12)
  replace FA2 := hide (FA2.out.step b12)
  replace FW := hide (FW.out.step b12)
  replace FD1 := hide (FD1.out.step b12)
  clear b12
  clear HP HS HZ
  have Q1 := hide fun W (hW : Below w12.heap.size w12 W) => lcd_same GL A2 A3 c2 c3 W (by omega) (FG1.out W hW) (FG2.out W hW)
  have Q2 := hide fun W (hW : Below w12.heap.size w12 W) => lcd_same AL A8 A9 c8 c9 W (by omega) (FA1.out W hW) (FA2.out W hW)
  have Q3 := hide fun W (hW : Below w12.heap.size w12 W) => lcd_same DL A11 A12 c11 c12 W (by omega) (FD1.out W hW) (FD2.out W hW)
  have Z0 := hide (Below.refl w12.heap.size w12)
  go_cut [160] (fun cv wx => cv = .bool false ∧ Hid (Below w12.heap.size w12 wx))
  case first =>
    as_aux_lemma =>
      go_wp2_with (first | (go_at_call 17; (with_reducible refine (Q1.out _ Z0.out).mono ?_); rintro e w13 ⟨rfl, bz⟩; have Z1 := hide (Z0.out.trans (bz.mono Z0.out.size)); clear bz) | (go_at_call 17; (with_reducible refine (Q2.out _ Z1.out).mono ?_); rintro e w14 ⟨rfl, bz⟩; have Z2 := hide (Z1.out.trans (bz.mono Z1.out.size)); clear bz) | (go_at_call 17; (with_reducible refine (Q3.out _ Z2.out).mono ?_); rintro e w15 ⟨rfl, bz⟩; have Z3 := hide (Z2.out.trans (bz.mono Z2.out.size)); clear bz))
      go_meet
      exact ⟨by simp, Z3.out⟩
  case rest =>
    as_aux_lemma =>
      obtain ⟨rfl, Z1⟩ := hcut
      clear Q1 Q2 Q3 Z0 FR FT HBO FG1 FA1 FA2 FD1
      go_upto_if 162 with fail
      go_cut [] (fun wx => Hid (Below w12.heap.size w12 wx))
      case first =>
        as_aux_lemma =>
          by_cases hac : ac = 0
          case neg =>
            have hB : (ac == 0) = false := by simp [hac]
            have HAC := hide hac
            clear hac
            go_wp2_with fail
            go_meet
            exact Z1.out
          obtain ⟨⟨⟨a1, a2⟩, ⟨a3, a4⟩, _, a5⟩, a6⟩ := LA.out hac
          clear LA LG LM LD HG3 FB FG2 FD2 FW
          subst hac
          obtain ⟨S, rfl⟩ : ∃ S : Nat, s3 = S := ⟨s3.toNat, by omega⟩
          obtain ⟨R, rfl⟩ : ∃ R : Nat, r3 = R := ⟨r3.toNat, by omega⟩
          rw [Int.toNat_natCast, Int.toNat_natCast] at a5 a6
          have HA6 := hide a6
          have HPB := hide fun k (h : k ≤ R) => pow_bd (s := S) (r := k) (by omega) (by omega)
          clear a5 a6
          go_wp2_with fail
          go_loopg [31, 30] R (fun g i mv wr => ∃ k m : Nat, k ≤ R ∧ Hid (g = R - k) ∧ i = .int .i64 k ∧ mv = .int .i64 m ∧ Hid (m = S ^ k) ∧ Hid (Below w12.heap.size w12 wr))
          case atStart => exact ⟨0, 1, by omega, by simp [Hid], rfl, rfl, hide (by rw [Nat.pow_zero]), Z1⟩
          case round =>
            obtain ⟨k, m, hk, hg, rfl, rfl, HM, HBR⟩ := hrel
            clear Z1
            have hm1 : m ≤ 65536 := by have := HM.out; have := HPB.out k hk; omega
            by_cases hlt : k < R
            case neg =>
              obtain rfl : R = k := by omega
              have hmm : AL.length = m := by rw [HA6.out, HM.out]
              have hB : ((AL.length : Int) != (m : Int)) = false := by simp [hmm]
              have HMM := hide hmm
              clear hmm
              go_wp2_with fail
              go_meet
              exact HBR.out
            have hki : (k : Int) < (R : Int) := by omega
            have HN := hide (show m * S = S ^ (k + 1) by rw [HM.out, Nat.pow_succ])
            have hms : m * S ≤ 65536 := by rw [HN.out]; exact HPB.out (k + 1) hlt
            obtain ⟨q, hq⟩ : ∃ q, q = m * S := ⟨_, rfl⟩
            have hqi : (m : Int) * (S : Int) = (q : Int) := by rw [hq]; push_cast; rfl
            rw [← hq] at HN hms
            have hwm : IntKind.i64.wrap ((m : Int) * (S : Int)) = (q : Int) := by rw [hqi, IntKind.wrap_i64] <;> omega
            have HQ := hide hq
            clear hq hqi
            go_wp2_with fail
            go_roundg (R - (k + 1))
            case measure => have := hg.out; omega
            case rel => exact ⟨k + 1, q, by omega, rfl, by go_num, by go_num, HN, HBR⟩
      case rest =>
        as_aux_lemma =>
          have Z2 : Hid (Below w12.heap.size w12 wc) := hcut
          clear Z1 hcut LA
          go_upto_if 176 with fail
          go_cut [] (fun wx => Hid (Below w12.heap.size w12 wx))
          case first =>
            as_aux_lemma =>
              by_cases hmc : mc = 0
              case neg =>
                have hB : (mc == 0) = false := by simp [hmc]
                have HMC := hide hmc
                clear hmc
                go_wp2_with fail
                go_meet
                exact Z2.out
              obtain ⟨m1, m2⟩ := LM.out hmc
              have hgw := HG3.out wc
              rw [m2] at hgw
              have HGW := hide hgw
              clear LM LG LD HG3 FB FG2 FD2 FW m2 hgw
              subst hmc
              generalize greedyR s2 r2 d2 = G3 at *
              have hB : decide (mo < (G3.length : Int)) = false := decide_eq_false (by omega)
              go_wp2_with (go_at_call 7; (with_reducible refine (HGW.out).mono ?_); rintro e w16 ⟨A16, c16, rfl, _, bz⟩)
              go_meet
              exact Z2.out.trans (bz.mono Z2.out.size)
          case rest =>
            as_aux_lemma =>
              have Z3 : Hid (Below w12.heap.size w12 wc) := hcut
              clear Z2 hcut LM HG3
              go_upto_if 193 with fail
              go_cut [] (fun wx => Hid (Below w12.heap.size w12 wx))
              case first =>
                as_aux_lemma =>
                  by_cases hdc : dc = 0
                  case neg =>
                    have hB : (dc == 0) = false := by simp [hdc]
                    have HDC := hide hdc
                    clear hdc
                    go_wp2_with fail
                    go_meet
                    exact Z3.out
                  obtain ⟨v, rfl, hav, hvm, hw1, hfar⟩ := LD.out hdc
                  obtain ⟨⟨hn2, hn4⟩, hl40⟩ := addrs_len hav
                  have HAS := hide (show ∀ x ∈ ws, wordB 4 x = true ∧ x.size = (txt ws 0).size from fun x hx => by
                    obtain ⟨i, hi, rfl⟩ := List.mem_iff_getElem.1 hx
                    have := addrs_at hav (List.getElem?_eq_getElem hi)
                    exact ⟨wordB_mono hn4 this.1, this.2.1⟩)
                  have hz := allW_size hvm
                  have hz8 := txt0_size hav
                  have hvw : wordB 4 v = true := allW_wordB (by omega) (by
                    obtain ⟨b9, o9, s9, _, _, hs9, _⟩ := (FW.out _ Z3.out).at_ (j := 0) (by omega)
                    have h2 := (HAS.out s9 (List.mem_of_getElem? hs9))
                    have h3 := wordB_ge1 h2.1
                    omega) (by omega) hvm
                  have HDI := hide fun W (x : ByteArray) (hx : x ∈ ws) => (show Calls Tryd.prog 18 #[.string x, .string v] W fun e w' => e = .returned (.tuple #[.int .i64 (farB x v), .int .i64 0]) ∧ ∃ m, w' = W.drewN m from by
                    have h2 := HAS.out x hx
                    have h := distanceOf_any x v W (by omega) (by omega)
                    rw [dist_ok h2.1 hvw (by omega)] at h
                    exact h)
                  have HFR := hide hfar
                  clear LD LG FB FG2 hav hvm hfar hok
                  subst hdc
                  have HLV := hide (show (ws ++ [v])[ws.length]? = some v by simp)
                  obtain ⟨L2, hL2⟩ : ∃ q, q = (ws ++ [v]).length := ⟨_, rfl⟩
                  have hL3 : L2 = ws.length + 1 := by rw [hL2]; simp
                  rw [← hL2]
                  have HF2 := hide fun W (hW : Below w12.heap.size w12 W) => (FD2.out W hW).at_ (j := ws.length) (by rw [← hL2, hL3]; omega)
                  have HLW := hide (hL3.symm.trans hL2)
                  clear FD2 hL2
                  subst hL3
                  generalize ws ++ [v] = WV at *
                  go_wp2_with fail
                  go_loopg [34] ws.length (fun g i wr => ∃ k : Nat, k ≤ ws.length ∧ Hid (g = ws.length - k) ∧ i = .int .i64 k ∧ Hid (Below w12.heap.size w12 wr))
                  case atStart => exact ⟨0, by omega, by simp [Hid], rfl, Z3⟩
                  case round =>
                    obtain ⟨k, hk, hg, rfl, HBR⟩ := hrel
                    clear Z3
                    by_cases hkt : k < ws.length
                    case neg =>
                      go_wp2_with fail
                      rw [HLW.out]
                      go_meet
                      exact HBR.out
                    obtain ⟨b9, o9, s9, rfl, _, hs9, hc9⟩ := (FW.out _ HBR.out).at_ hkt
                    obtain ⟨b8, o8, s8, rfl, _, hs8, hc8⟩ := HF2.out _ HBR.out
                    obtain rfl : v = s8 := Option.some.inj (HLV.out.symm.trans hs8)
                    have HX := hide fun W => HDI.out W s9 (List.mem_of_getElem? hs9)
                    have hfr := HFR.out s9 (List.mem_of_getElem? hs9)
                    have hB2 : decide (farB s9 v < dw) = false := decide_eq_false (by omega)
                    have hki : (k : Int) < (ws.length : Int) := by omega
                    clear hs9 hs8 hfr
                    generalize farB s9 v = fd at *
                    go_wp2_with fail
                    go_quiet ((go_at_call 18; with_reducible exact qdn (HX.out _)))
                    have Z6 := hide (show Below w12.heap.size w12 (wr.drewN nq) from bdn HBR.out nq)
                    clear hc9 hc8 HBR
                    generalize wr.drewN nq = wq at *
                    go_wp2_with fail
                    go_roundg (ws.length - (k + 1))
                    case measure => have := hg.out; omega
                    case rel => exact ⟨k + 1, by omega, rfl, by go_num, Z6⟩
              case rest =>
                as_aux_lemma =>
                  have Z4 : Hid (Below w12.heap.size w12 wc) := hcut
                  clear Z3 hcut LD FW FD2
                  by_cases hgc : gc = 0
                  case neg =>
                    have hB : (gc != 0) = true := by simp [hgc]
                    have HGC := hide hgc
                    clear hgc
                    go_wp2_with fail
                    go_ret
                    exact ⟨rfl, FB.out _ Z4.out⟩
                  obtain ⟨⟨hpw, hmem, hone⟩, ⟨g1, g2⟩, ⟨g3, g4⟩, _, _⟩ := LG.out hgc
                  have HPW := hide (show ∀ (i k : Nat) (x y : ByteArray), k < i → GL[i]? = some x → GL[k]? = some y → d1 ≤ farB x y ∧ wordB 4 x = true ∧ wordB 4 y = true ∧ x.size = y.size ∧ x.size ≤ 8 from fun i k x y hki hx hy => by
                    obtain ⟨hi, rfl⟩ := List.getElem?_eq_some_iff.1 hx
                    obtain ⟨hk, rfl⟩ := List.getElem?_eq_some_iff.1 hy
                    have h1 := (List.pairwise_iff_getElem.1 hpw) k i hk hi hki
                    have hxm := hmem _ (List.getElem_mem hi)
                    have hym := hmem _ (List.getElem_mem hk)
                    have s1 := allW_size hxm
                    have s2 := allW_size hym
                    refine ⟨?_, allW_wordB (by omega) (by omega) (by omega) hxm, allW_wordB (by omega) (by omega) (by omega) hym, by rw [s1, s2], by omega⟩
                    rw [farB_sym (by rw [s1, s2])]
                    exact h1)
                  have HDI := hide fun W (i k : Nat) (x y : ByteArray) (hki : k < i) (hx : GL[i]? = some x) (hy : GL[k]? = some y) => (show Calls Tryd.prog 18 #[.string x, .string y] W fun e w' => e = .returned (.tuple #[.int .i64 (farB x y), .int .i64 0]) ∧ ∃ m, w' = W.drewN m from by
                    obtain ⟨_, hx4, hy4, hsz, h8⟩ := HPW.out i k x y hki hx hy
                    have h := distanceOf_any x y W (by omega) (by omega)
                    rw [dist_ok hx4 hy4 hsz] at h
                    exact h)
                  have HON := hide hone
                  clear LG hpw hmem hone g1 g2 g3 g4
                  subst hgc
                  go_wp2_with fail
                  go_loopg [37] GL.length (fun g i wr => ∃ k : Nat, k ≤ GL.length ∧ Hid (g = GL.length - k) ∧ i = .int .i64 k ∧ Hid (Below w12.heap.size w12 wr))
                  case atStart => exact ⟨0, by omega, by simp [Hid], rfl, Z4⟩
                  case round =>
                    obtain ⟨k, hk, hg, rfl, HBR⟩ := hrel
                    clear Z4
                    by_cases hkt : k < GL.length
                    case neg =>
                      have hBL : decide (0 < GL.length) = true := decide_eq_true (by have := HON.out; omega)
                      go_wp2_with fail
                      go_ret
                      exact ⟨rfl, FB.out _ HBR.out⟩
                    go_wp2_with fail
                    obtain ⟨wo, hwo⟩ : ∃ q : World, q = wr := ⟨_, rfl⟩
                    subst hwo
                    go_loopg [38] k (fun g j wr => ∃ m : Nat, m ≤ k ∧ Hid (g = k - m) ∧ j = .int .i64 m ∧ Hid (Below w12.heap.size w12 wr))
                    case atStart => exact ⟨0, by omega, by simp [Hid], rfl, HBR⟩
                    case round =>
                      obtain ⟨m, hm, hgm, rfl, HB2⟩ := hrel
                      by_cases hmk : m < k
                      case neg =>
                        go_wp2_with fail
                        go_roundg (GL.length - (k + 1))
                        case measure => have := hg.out; omega
                        case rel => exact ⟨k + 1, by omega, rfl, by go_num, HB2⟩
                      obtain ⟨b9, o9, s9, rfl, _, hs9, hc9⟩ := (FG2.out _ HB2.out).at_ hkt
                      obtain ⟨b8, o8, s8, hA8, _, hs8, hc8⟩ := (FG2.out _ HB2.out).at_ (j := m) (by omega)
                      obtain ⟨rfl, rfl⟩ : b9 = b8 ∧ o9 = o8 := by cases hA8; exact ⟨rfl, rfl⟩
                      have HX := hide fun W => HDI.out W k m s9 s8 hmk hs9 hs8
                      have hfr := (HPW.out k m s9 s8 hmk hs9 hs8).1
                      have hB2 : decide (farB s9 s8 < d1) = false := decide_eq_false (by omega)
                      have hki : (k : Int) < (GL.length : Int) := by omega
                      have hmi : (m : Int) < (GL.length : Int) := by omega
                      clear hs9 hs8 hA8 hfr
                      generalize farB s9 s8 = fd at *
                      go_wp2_with fail
                      go_quiet ((go_at_call 18; with_reducible exact qdn (HX.out _)))
                      have Z6 := hide (show Below w12.heap.size w12 (wr.drewN nq) from bdn HB2.out nq)
                      clear hc9 hc8 HB2
                      generalize wr.drewN nq = wq at *
                      go_wp2_with fail
                      go_roundg (k - (m + 1))
                      case measure => have := hgm.out; omega
                      case rel => exact ⟨m + 1, by omega, rfl, by go_num, Z6⟩
theorem fnCodes5_own : ownKnob Tryd.prog.godebug = none := by kernel_rfl
/-- The cells that a listed table has. -/
def litCell : Lit → Value
  | .int k n => .int k n
  | _ => undef
def datCells : DataW Unit → Array Value
  | .agg l => (l.map fun | .lit x => litCell x | _ => undef).toArray
  | _ => #[]
/-- One world that fits: each listed table as its initialiser lays it. -/
noncomputable def laidWorld (os : Os) : World :=
  let w0 := World.holding Tryd.prog os ⟨#[], #[], []⟩
  { w0 with heap := Rows.fnCodes5Row.laid.foldl (fun h x => match Tryd.prog.globalNamed x.1 with
      | some g => h.modify g fun
        | .cells _ t frozen => .cells (datCells x.2) t frozen
        | o => o
      | none => h) w0.heap }
theorem laidWorld_met (os : Os) (args : Array Value) : laidMet Tryd.prog Rows.fnCodes5Row.laid ((laidWorld os).forCall (fun _ _ => 0) ⟨#[], args, []⟩).memory :=
  laidMet_of_run' 8 (by kernel_rfl) (by kernel_rfl)
theorem fnCodes5_laid : laidOutB Tryd.prog = true := by kernel_rfl
set_option maxRecDepth 100000 in
theorem fnCodes5_lifted (os : Os) (started : os.Started) (H : Type) (enc : TypeId × Value → H) :
    ReturnsInHanded {} Tryd.checked os 3 .any (fun w args => (Rows.fnCodes5Spec.pre enc Tryd.prog Tryd.f3 Rows.fnCodes5Row.domain false w args ∧ laidMet Tryd.prog Rows.fnCodes5Row.laid w) ∧ sizedMet enc Tryd.prog Tryd.f3 (OpenSpec.ofChange Rows.fnCodes5Spec) false w args) (Rows.fnCodes5Spec.post enc Tryd.prog Tryd.f3 false true false false) := by
  refine returnsInHanded_of_change_and (C := Tryd.checked) (X := fun w _ => laidMet Tryd.prog Rows.fnCodes5Row.laid w) (fun _ _ _ hh h => h.of_heap hh) fnCodes5_own started (by kernel_rfl) Tryd.func3
    (ChangeSpec.witness_at (enc := enc) (C := Tryd.checked) (os := os) (X := fun w _ => laidMet Tryd.prog Rows.fnCodes5Row.laid w) false (laidWorld os) #[.slice none 0 0] 8 rfl (by kernel_rfl) (by kernel_rfl) (by kernel_rfl) (by kernel_rfl) (by kernel_rfl) (laidWorld_met os _)) ?_
  intro W base args ds gs before hval0 hW hcnd _ hL _
  have hval : ∀ (j : Nat) t v, Tryd.f3.params[j]? = some t → args[j]? = some v → Value.okWide Tryd.prog W .any base t v := hval0
  have hW' := hW
  obtain ⟨p, q, hA0, hV, rfl, hfz, hnd⟩ := hW
  have hA : DataW.TrodAll enc Tryd.prog W 0 (fun _ => true) true Tryd.f3.params.toList args.toList ds p := hA0
  rw [Tryd.params3] at hA hval
  obtain ⟨v0, vs0, d0, ds0, p0, q0, hargs, rfl, rfl, h0, r0⟩ := trodAll_cons hA
  obtain ⟨rfl, rfl, rfl⟩ := trodAll_nil r0
  obtain rfl : args = #[v0] := by cases args; simp_all
  obtain ⟨rfl, rfl⟩ := trodVars_none hV
  have k0 := h0
  have lt0 : ∀ x ∈ p0, x.block < W.heap.size := by obtain ⟨m, hm⟩ := k0; exact DataW.trod_lt m _ _ _ hm
  obtain ⟨A0, c0, zs0, rfl, rd0, len0, bd0⟩ := open_B Tryd.underlying22 Tryd.underlying5 (by kernel_rfl) (hval 0 22 v0 rfl rfl) h0
  clear hA0 hval0
  refine (lCodes5_walk zs0 (.slice A0 zs0.length c0) W ⟨A0, c0, rfl, rd0⟩ len0 bd0 hL).mono fun e W' ⟨he, bel⟩ => ?_
  subst he
  exact ⟨_, rfl, _, _, _, [], _, [], hW', trodAll_mk1 (shut_bool Tryd.underlying4 _), (trodAll_cons_mk (Below.trod fnCodes5_laid (by kernel_rfl) (of_decide_eq_true (by kernel_rfl)) k0 bel lt0) trodAll_mk0), rfl, bel.frame _, fun h => by cases h⟩
theorem fnCodes5_holds : Rows.FnCodes5Said :=
  OpenClaim.holds_of_wide 3 Tryd.f3 rfl rfl rfl rfl rfl rfl rfl ⟨rfl, rfl, rfl, rfl, rfl⟩ rfl rfl rfl rfl rfl (by kernel_rfl) Tryd.func3 (by kernel_rfl)
    (of_decide_eq_true (by kernel_rfl)) (by unfold Func.isWrapper; first | (rw [if_pos (by decide +kernel)]; kernel_rfl) | (rw [if_neg (by decide +kernel)]; exact ⟨rfl, rfl⟩))
    (fun os started H enc _ => fnCodes5_lifted os started H enc)
theorem fnCodes5_card_holds : Rows.FnCodes5CardSaid :=
  Claim7.holds_tied_plain_at .later [] [.data] true Rows.fnCodes5Card.stood.harness false
    fnCodes5_holds (fun _ h => by cases h) (by kernel_rfl) (fun _ h => by cases h) fnCodes5_row_tie rfl ⟨rfl, rfl⟩ (by kernel_rfl) rfl
    (fun f fn hf hfn => by
      obtain rfl : f = 3 := Option.some.inj ((show Tryd.prog.funcNamed Rows.fnCodes5Row.func = some 3 by kernel_rfl).symm.trans hf) |>.symm
      obtain rfl : fn = Tryd.f3 := (Option.some.inj (Tryd.func3.symm.trans hfn)).symm
      exact ⟨by kernel_rfl, fun j t ht => by
        rw [Tryd.params3] at ht
        have hm : t ∈ (Tryd.f3.params).toList := by
          rw [Tryd.params3]
          exact Array.mem_toList_iff.2 (Array.mem_of_getElem? ht)
        exact (of_decide_eq_true (by kernel_rfl) : ∀ t ∈ (Tryd.f3.params).toList, Tryd.prog.wantsStandIn t = false) t hm⟩)
    (by kernel_rfl)
#print axioms fnCodes5_card_holds
end Go.Proofs.YtaajkmjilcamgaaDoor
