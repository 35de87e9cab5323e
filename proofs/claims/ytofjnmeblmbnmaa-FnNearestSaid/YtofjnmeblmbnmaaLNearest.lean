/-
  The law FnNearest returns true for every input. No condition.
-/
import Derived.Test.YtofjnmeblmbnmaaNeaO
import Derived.Test.YtofjnmeblmbnmaaLawH
import Derived.Test.YtofjnmeblmbnmaaRows
import Derived.Test.YtofjnmeblmbnmaaOpenB
import Derived.ProofKit
import Derived.Deep.DeepCutAuto
import Derived.OpenShut
namespace Go.Proofs.Ytofjnmeblmbnmaa
open Go.ChangeShapes Go.WideShapes Go.ChangeAt Go.RowKit
def Fu (w : World) (P : World → Prop) : Prop := ∀ W, Below w.heap.size w W → P W
theorem Fu.step {w w2 : World} {P : World → Prop} (h : Fu w P) (b : Below w.heap.size w w2) : Fu w2 P := fun W hW => h W (b.trans (hW.mono b.size))
theorem Fu.now {w : World} {P : World → Prop} (h : Fu w P) : P w := h w (Below.refl _ _)
theorem fu_below {w0 w : World} (b : Below w0.heap.size w0 w) : Fu w (fun W => Below w0.heap.size w0 W) := fun _ hW => b.trans (hW.mono b.size)
theorem fu_I {w : World} {A : Option Addr} {xs : List Int} (h : RdI w w.heap.size A xs) : Fu w (fun W => RdI W W.heap.size A xs) := fun _ hW => (RdI.below h hW).more hW.size
theorem fu_B {w : World} {A : Option Addr} {xs : List Int} (h : RdB w w.heap.size A xs) : Fu w (fun W => RdB W W.heap.size A xs) := fun _ hW => (RdB.below h hW).more hW.size
theorem fu_S {w : World} {A : Option Addr} {xs : List ByteArray} (h : RdS w w.heap.size A xs) : Fu w (fun W => RdS W W.heap.size A xs) := fun _ hW => (RdS.below h hW).more hW.size
theorem to_below {P : Program} {f : FuncId} {args : Array Value} {w : World} {v : Ending} (h : Calls P f args w fun e w' => e = v ∧ ∃ m, w' = w.drewN m) : Calls P f args w fun e w' => e = v ∧ Below w.heap.size w w' :=
  h.mono fun _ _ ⟨he, m, hm⟩ => ⟨he, by rw [hm]; exact bdn (Below.refl _ _) m⟩
theorem to_below0 {P : Program} {f : FuncId} {args : Array Value} {w : World} {v : Ending} (h : Calls P f args w fun e w' => e = v ∧ w = w') : Calls P f args w fun e w' => e = v ∧ Below w.heap.size w w' :=
  h.mono fun _ _ ⟨he, hm⟩ => ⟨he, by rw [hm]; exact Below.refl _ _⟩
theorem lnBig_any (A : Option Addr) (n c : Nat) (w : World) (hn : ¬ n ≤ 4096) (hn2 : n ≤ 9223372036854775807) :
    Calls Try.prog 4 #[.slice A n c] w fun e w' => e = .returned (.bool true) ∧ w = w' := by
  have hD : decide ((4096 : Int) < (n : Int)) = true := decide_eq_true (by omega)
  go_enter Try.func4, Try.ntmps4
  go_wp2_with fail
  go_ret
  exact ⟨rfl, rfl⟩
theorem distR_sym (a b : ByteArray) : distR b a = distR a b := by
  unfold distR
  by_cases h1 : wordB 4 a = false ∨ wordB 4 b = false
  · rw [if_pos h1, if_pos (h1.symm)]
  · rw [if_neg h1, if_neg (fun e => h1 e.symm)]
    by_cases h2 : a.size = b.size
    · rw [if_pos h2, if_pos h2.symm, farB_sym h2]
    · rw [if_neg h2, if_neg (fun e => h2 e.symm)]
theorem distR_ok {a b : ByteArray} (ha : wordB 4 a = true) (hb : wordB 4 b = true) (h : a.size = b.size) : distR a b = (farB a b, 0) := by
  unfold distR
  rw [if_neg (by rw [ha, hb]; simp), if_pos h]
/-- What the law's two loops lean on. -/
structure NeaLaw (sg : Int) (ws : List ByteArray) (seen : ByteArray) (k far bad least one cor : Int) : Prop where
  only : bad = 0 → Near0 sg ws seen k far
  least : one = 0 → addrs sg ws = true ∧ 2 ≤ ws.length ∧ least = leastA farB ws ∧ cor = (leastA farB ws - 1).tdiv 2
theorem neaLaw (sg : Int) (ws : List ByteArray) (seen : ByteArray) : NeaLaw sg ws seen (nearR sg ws seen).1 (nearR sg ws seen).2.1 (nearR sg ws seen).2.2 (leastR sg ws).1 (leastR sg ws).2 (correctsR sg ws).1 := by
  refine ⟨near_only, fun h => ?_⟩
  have hp : pcode sg ws = 0 := by
    unfold leastR at h
    split at h
    · assumption
    · exact h
  obtain ⟨h1, h2⟩ := pcode_ok hp
  refine ⟨h1, h2, ?_, ?_⟩
  · unfold leastR; rw [if_pos hp]
  · unfold correctsR; rw [if_pos hp]
theorem code_same (sg : Int) (ws : List ByteArray) : (correctsR sg ws).2 = (leastR sg ws).2 := by
  unfold correctsR leastR
  split <;> rfl
theorem seen_far {sg : Int} {ws : List ByteArray} {seen : ByteArray} {a d : Int} (h : Near0 sg ws seen a d) {i : Nat} (hi : i < ws.length) : distR (txt ws i) seen = (farB (txt ws i) seen, 0) := by
  have h1 := addrs_at h.ok (txt_mem (ws := ws) hi)
  have h2 := (addrs_len h.ok).1
  exact distR_ok (wordB_mono h2.2 h1.1) (wordB_mono h2.2 h.word) (by rw [h1.2.1, h.size])
theorem pair_far {sg : Int} {ws : List ByteArray} (h : addrs sg ws = true) {i j : Nat} (hi : i < ws.length) (hj : j < ws.length) : distR (txt ws i) (txt ws j) = (farB (txt ws i) (txt ws j), 0) := by
  have h1 := addrs_at h (txt_mem (ws := ws) hi)
  have h3 := addrs_at h (txt_mem (ws := ws) hj)
  have h2 := (addrs_len h).1
  exact distR_ok (wordB_mono h2.2 h1.1) (wordB_mono h2.2 h3.1) (by rw [h1.2.1, h3.2.1])
theorem hasD_take {ws : List ByteArray} {i j : Nat} (x : Int) (L : List Int) (hj : j < ws.length) : hasD x (L ++ (ws.take (j + 1)).map (farB (txt ws i))) = (hasD x (L ++ (ws.take j).map (farB (txt ws i))) || decide (farB (txt ws i) (txt ws j) = x)) := by
  rw [List.take_add_one, txt_mem hj]
  simp [hasD]
  ac_rfl
set_option maxRecDepth 100000 in
set_option maxHeartbeats 16000000 in
theorem lNearest_walk (bs : List Int) (v : Value) (w : World) (r : ∃ A c, v = .slice A bs.length c ∧ RdB w w.heap.size A bs) (nx : bs.length ≤ 9223372036854775807) (fx : ∀ z ∈ bs, 0 ≤ z ∧ z ≤ 255) :
    Calls Try.prog 3 #[v] w fun e w' => e = .returned (.bool true) ∧ Below w.heap.size w w' := by
  obtain ⟨A, c, rfl, r⟩ := r
  by_cases hlong : bs.length ≤ 4096
  case neg =>
    have HB := hide (lnBig_any A bs.length c w hlong nx)
    clear hlong r nx fx
    go_enter Try.func3, Try.ntmps3
    go_wp2_with (go_at_call 4; refine (HB.out).mono ?_; rintro e w' ⟨rfl, rfl⟩)
    go_ret
    exact ⟨rfl, Below.refl _ _⟩
  have HB := hide (f6big_any A bs.length c w hlong)
  have HBO := hide (show BsOk bs from ⟨hlong, fx⟩)
  have FR := hide (fu_B r)
  have FB := hide (fu_below (Below.refl w.heap.size w))
  have HD := hide (drawNearest_any bs A c w HBO.out FR.out.now)
  clear r nx fx hlong
  go_enter Try.func3, Try.ntmps3
  go_upto_region 4 with (first | (go_at_call 4; refine (HB.out).mono ?_; rintro e w' ⟨rfl, rfl⟩) | (go_at_call 5; (with_reducible refine (HD.out).mono ?_); rintro e w1 ⟨sg, A1, c1, ws, seen, rfl, hok, hseen, hrs, b1⟩))
  replace FB := hide (FB.out.step b1)
  replace FR := hide (FR.out.step b1)
  have FS := hide (fu_S hrs)
  have HOK := hide hok
  obtain ⟨⟨hsg1, hsg2⟩, hl50, hsm, hcap1, hcap2⟩ := hok
  have HSM := hide (show ∀ s ∈ ws, s.size ≤ 1048576 from fun s hs => by have := hsm s hs; omega)
  have hlm : ws.length ≤ 1048576 := by omega
  have hsn : seen.size ≤ 1048576 := by omega
  clear hrs b1 HD HB hsm
  have HLAW := hide (neaLaw sg ws seen)
  have HCS := hide (code_same sg ws)
  have H4 := hide fun W (hW : Below w1.heap.size w1 W) => to_below (nearest_any sg ws seen A1 c1 W hcap1 hcap2 HSM.out hsn (FS.out W hW))
  have H5 := hide fun W (hW : Below w1.heap.size w1 W) => to_below (specNearest_any sg ws seen A1 c1 W hlm HSM.out hsn (FS.out W hW))
  have H6 := hide fun W (hW : Below w1.heap.size w1 W) => to_below (leastDist_any sg ws A1 c1 W hcap1 hcap2 HSM.out (FS.out W hW))
  have H7 := hide fun W (hW : Below w1.heap.size w1 W) => to_below (specLeastDist_any sg ws A1 c1 W hlm HSM.out (FS.out W hW))
  have H8 := hide fun W (hW : Below w1.heap.size w1 W) => to_below (corrects_any sg ws A1 c1 W hcap1 hcap2 HSM.out (FS.out W hW))
  have H9 := hide fun W (hW : Below w1.heap.size w1 W) => to_below (specCorrects_any sg ws A1 c1 W hlm HSM.out (FS.out W hW))
  have H17 := hide fun W (hW : Below w1.heap.size w1 W) => to_below (worst_any sg ws A1 c1 W hcap1 hcap2 HSM.out (FS.out W hW))
  have H18 := hide fun W (hW : Below w1.heap.size w1 W) => specWorst_any sg ws A1 c1 W hlm HSM.out (FS.out W hW)
  have HVI := hide fun W (hW : Below w1.heap.size w1 W) => to_below0 (validAddresses_any sg ws A1 c1 W hcap1 hcap2 HSM.out (FS.out W hW))
  have HVS := hide fun W (hW : Below w1.heap.size w1 W) => to_below (specValidAddr_any sg ws A1 c1 W hlm HSM.out (FS.out W hW))
  rw [HCS.out] at H8 H9
  generalize (nearR sg ws seen).1 = kk at *
  generalize (nearR sg ws seen).2.1 = far at *
  generalize (nearR sg ws seen).2.2 = bad at *
  generalize (leastR sg ws).1 = least at *
  generalize (leastR sg ws).2 = one at *
  generalize (correctsR sg ws).1 = cor at *
  generalize (worstR sg ws).1 = wr1 at *
  generalize (worstR sg ws).2 = wr2 at *
  clear HCS
  have Z := hide (Below.refl w1.heap.size w1)
  as_aux_lemma =>
    go_upto_region 5 with (go_at_call 6; (with_reducible refine (H4.out _ Z.out).mono ?_); rintro e w5 ⟨rfl, bz⟩)
    replace Z := hide (Z.out.trans (bz.mono Z.out.size))
    clear bz
    clear H4
    go_upto_region 6 with (go_at_call 7; (with_reducible refine (H5.out _ Z.out).mono ?_); rintro e w6 ⟨rfl, bz⟩)
    replace Z := hide (Z.out.trans (bz.mono Z.out.size))
    clear bz
    clear H5
    go_upto_region 7 with (go_at_call 8; (with_reducible refine (H6.out _ Z.out).mono ?_); rintro e w7 ⟨rfl, bz⟩)
    replace Z := hide (Z.out.trans (bz.mono Z.out.size))
    clear bz
    clear H6
    go_upto_region 8 with (go_at_call 9; (with_reducible refine (H7.out _ Z.out).mono ?_); rintro e w8 ⟨rfl, bz⟩)
    replace Z := hide (Z.out.trans (bz.mono Z.out.size))
    clear bz
    clear H7
    go_upto_region 9 with (go_at_call 10; (with_reducible refine (H8.out _ Z.out).mono ?_); rintro e w9 ⟨rfl, bz⟩)
    replace Z := hide (Z.out.trans (bz.mono Z.out.size))
    clear bz
    clear H8
    go_upto_region 10 with (go_at_call 11; (with_reducible refine (H9.out _ Z.out).mono ?_); rintro e w10 ⟨rfl, bz⟩)
    replace Z := hide (Z.out.trans (bz.mono Z.out.size))
    clear bz
    clear H9
    as_aux_lemma =>
      have HD := hide (drawDistance_any bs A c w10 HBO.out (FR.out w10 Z.out))
      go_upto_region 11 with (go_at_call 12; (with_reducible refine (HD.out).mono ?_); rintro e w11 ⟨da, db, rfl, hda, hdb, bz⟩)
      replace Z := hide (Z.out.trans (bz.mono Z.out.size))
      clear bz HD
      have H11 := hide fun W => to_below (distanceOf_any da db W (by omega) (by omega))
      have H12 := hide fun W => to_below (specDistanceOf_any da db W (by omega) (by omega))
      have H13 := hide fun W => to_below (distanceOf_any db da W (by omega) (by omega))
      rw [distR_sym da db] at H13
      generalize (distR da db).1 = dd at *
      generalize (distR da db).2 = dc at *
      go_upto_region 12 with (go_at_call 13; (with_reducible refine (H11.out _).mono ?_); rintro e w12 ⟨rfl, bz⟩)
      replace Z := hide (Z.out.trans (bz.mono Z.out.size))
      clear bz
      clear H11
      go_upto_region 13 with (go_at_call 14; (with_reducible refine (H12.out _).mono ?_); rintro e w13 ⟨rfl, bz⟩)
      replace Z := hide (Z.out.trans (bz.mono Z.out.size))
      clear bz
      clear H12
      go_upto_region 14 with (go_at_call 13; (with_reducible refine (H13.out _).mono ?_); rintro e w14 ⟨rfl, bz⟩)
      replace Z := hide (Z.out.trans (bz.mono Z.out.size))
      clear bz
      clear H13
      as_aux_lemma =>
        have HD := hide (drawMisread_any bs A c w14 HBO.out (FR.out w14 Z.out))
        go_upto_region 15 with (go_at_call 15; (with_reducible refine (HD.out).mono ?_); rintro e w15 ⟨sg2, A2, c2, ws2, k2, r2, rfl, hok2, hrs2, bz⟩)
        replace Z := hide (Z.out.trans (bz.mono Z.out.size))
        have FS2 := hide (fu_S hrs2)
        have HL2 := hide (show (misL sg2 ws2 k2 r2).length ≤ ws2.length from misL_len sg2 ws2 k2 r2)
        obtain ⟨⟨hsg3, hsg4⟩, hl502, hsm2, hcap3, hcap4⟩ := hok2
        have HSM2 := hide (show ∀ s ∈ ws2, s.size ≤ 1048576 from fun s hs => by have := hsm2 s hs; omega)
        have hlm2 : ws2.length ≤ 1048576 := by omega
        clear bz HD hrs2 hsm2
        have H15 := hide (misread_any sg2 ws2 k2 r2 A2 c2 w15 hcap3 hcap4 HSM2.out FS2.out.now)
        have H16 := hide fun W (hW : Below w15.heap.size w15 W) => specMisread_any sg2 ws2 k2 r2 A2 c2 W hlm2 HSM2.out (FS2.out W hW)
        generalize misCode sg2 ws2 k2 r2 = mc at *
        generalize misL sg2 ws2 k2 r2 = ml at *
        go_upto_region 16 with (go_at_call 16; (with_reducible refine (H15.out).mono ?_); rintro e w16 ⟨A5, c5, rfl, rd5, bz⟩)
        replace Z := hide (Z.out.trans (bz.mono Z.out.size))
        have ZZ := hide bz
        have F5 := hide (fu_I rd5)
        clear bz H15 rd5
        go_upto_region 17 with (go_at_call 17; (with_reducible refine (H16.out _ ZZ.out).mono ?_); rintro e w17 ⟨A6, c6, rfl, rd6, bz⟩)
        replace Z := hide (Z.out.trans (bz.mono Z.out.size))
        replace F5 := hide (F5.out.step bz)
        have F6 := hide (fu_I rd6)
        have ZY := hide (Below.refl w17.heap.size w17)
        clear bz H16 rd6 ZZ FS2 HSM2
        as_aux_lemma =>
          go_upto_region 18 with (go_at_call 18; (with_reducible refine (H17.out _ Z.out).mono ?_); rintro e w18 ⟨rfl, bz⟩)
          replace Z := hide (Z.out.trans (bz.mono Z.out.size))
          replace ZY := hide (ZY.out.trans (bz.mono ZY.out.size))
          clear bz H17
          go_upto_region 19 with (go_at_call 19; (with_reducible refine (H18.out _ Z.out).mono ?_); rintro e w19 ⟨rfl, bz⟩)
          replace Z := hide (Z.out.trans (bz.mono Z.out.size))
          replace ZY := hide (ZY.out.trans (bz.mono ZY.out.size))
          clear bz H18
          have hml : ml.length ≤ 9223372036854775807 := by have := HL2.out; omega
          have HF := hide (f6ints_any ml ml A5 A6 c5 c6 w19 hml hml (F5.out _ ZY.out) (F6.out _ ZY.out))
          rw [decide_eq_true (rfl : ml = ml)] at HF
          generalize addrs sg ws = av at HVI HVS
          go_upto_if 236 with (first | (go_at_call 20; (with_reducible refine (HF.out).mono ?_); rintro e w20 ⟨rfl, bz⟩; have Z2 := hide (Z.out.trans (bz.mono Z.out.size)); clear bz) | (go_at_call 21; (with_reducible refine (HVI.out _ Z2.out).mono ?_); rintro e w21 ⟨rfl, bz⟩; have Z3 := hide (Z2.out.trans (bz.mono Z2.out.size)); clear bz) | (go_at_call 22; (with_reducible refine (HVS.out _ Z3.out).mono ?_); rintro e w22 ⟨rfl, bz⟩; have Z4 := hide (Z3.out.trans (bz.mono Z3.out.size)); clear bz))
          clear HF F5 F6 ZY HVI HVS Z Z2 Z3 HL2 hml
          go_upto_region 21 with fail
          go_cut [251] (fun cc wx => ∃ vb : Bool, cc = .bool vb ∧ Hid (vb = true → bad = 0 ∧ one = 0) ∧ w22 = wx)
          case first =>
            as_aux_lemma =>
              by_cases hb1 : bad = 0
              case neg =>
                have hB : (bad == 0) = false := by simpa using hb1
                have HB1 := hide hb1
                clear hb1
                go_wp2_with fail
                go_meet
                exact ⟨false, rfl, hide (fun e => by cases e), rfl⟩
              have hB1 : (bad == 0) = true := by simpa using hb1
              have HB1 := hide hb1
              clear hb1
              by_cases hb2 : 0 < far
              case neg =>
                have hB : decide (0 < far) = false := decide_eq_false hb2
                clear hb2
                go_wp2_with fail
                go_meet
                exact ⟨false, rfl, hide (fun e => by cases e), rfl⟩
              have hB2 : decide (0 < far) = true := decide_eq_true hb2
              clear hb2
              by_cases hb3 : one = 0
              case neg =>
                have hB : (one == 0) = false := by simpa using hb3
                have HB3 := hide hb3
                clear hb3
                go_wp2_with fail
                go_meet
                exact ⟨false, rfl, hide (fun e => by cases e), rfl⟩
              have hB3 : (one == 0) = true := by simpa using hb3
              have HB3 := hide hb3
              clear hb3
              by_cases hb4 : far ≤ cor
              · have hB4 : decide (far ≤ cor) = true := decide_eq_true hb4
                clear hb4
                go_wp2_with fail
                go_meet
                exact ⟨true, rfl, hide (fun _ => ⟨HB1.out, HB3.out⟩), rfl⟩
              · have hB4 : decide (far ≤ cor) = false := decide_eq_false hb4
                clear hb4
                go_wp2_with fail
                go_meet
                exact ⟨false, rfl, hide (fun e => by cases e), rfl⟩
          case rest =>
            as_aux_lemma =>
              obtain ⟨vb, rfl, HVB, rfl⟩ := hcut
              go_upto_if 251 with fail
              go_cut [] (fun wx => Below w1.heap.size w1 wx)
              case first =>
                as_aux_lemma =>
                  cases vb
                  · go_wp2_with fail
                    go_meet
                    exact Z4.out
                  have HN := hide (HLAW.out.only (HVB.out rfl).1)
                  go_wp2_with fail
                  go_loopg [40] ws.length (fun g i wr => ∃ k : Nat, k ≤ ws.length ∧ Hid (g = ws.length - k) ∧ i = .int .i64 k ∧ Hid (Below w1.heap.size w1 wr))
                  case atStart => exact ⟨0, by omega, by simp [Hid], rfl, Z4⟩
                  case round =>
                    obtain ⟨k, hk, hg, rfl, HBR⟩ := hrel
                    clear Z4 HVB
                    by_cases hkt : k < ws.length
                    case neg =>
                      go_wp2_with fail
                      go_meet
                      exact HBR.out
                    obtain ⟨b9, o9, s9, rfl, _, hs9, hc9⟩ := (FS.out _ HBR.out).at_ hkt
                    have htx := txt_get hs9
                    have hs99 := HSM.out s9 (List.mem_of_getElem? hs9)
                    have HX := hide (show Calls Try.prog 13 #[.string s9, .string seen] wr fun e w' => e = .returned (.tuple #[.int .i64 (farB s9 seen), .int .i64 0]) ∧ Below wr.heap.size wr w' from by
                      have h := to_below (distanceOf_any s9 seen wr hs99 hsn)
                      have h2 := seen_far HN.out hkt
                      rw [htx] at h2
                      rw [h2] at h
                      exact h)
                    have HO := hide (show (k : Int) ≠ kk → far < farB s9 seen from fun e => by have := HN.out.only k hkt e; rwa [htx] at this)
                    clear hs9 htx hs99
                    generalize farB s9 seen = fd at *
                    by_cases hke : (k : Int) = kk
                    · have hB : ((k : Int) != kk) = false := by simp [hke]
                      have HKE := hide hke
                      clear hke
                      go_wp2_with (go_at_call 13; (with_reducible refine (HX.out).mono ?_); rintro e w23 ⟨rfl, bz⟩; have Z5 := hide (HBR.out.trans (bz.mono HBR.out.size)); clear bz)
                      go_roundg (ws.length - (k + 1))
                      case measure => have := hg.out; omega
                      case rel => exact ⟨k + 1, by omega, rfl, by go_num, Z5⟩
                    · have hB : ((k : Int) != kk) = true := by simp [hke]
                      have hlt := HO.out hke
                      have hB2 : decide (fd ≤ far) = false := decide_eq_false (by omega)
                      have HKE := hide hke
                      clear hke hlt
                      go_wp2_with (go_at_call 13; (with_reducible refine (HX.out).mono ?_); rintro e w23 ⟨rfl, bz⟩; have Z5 := hide (HBR.out.trans (bz.mono HBR.out.size)); clear bz)
                      go_roundg (ws.length - (k + 1))
                      case measure => have := hg.out; omega
                      case rel => exact ⟨k + 1, by omega, rfl, by go_num, Z5⟩
              case rest =>
                as_aux_lemma =>
                  have Z5 : Hid (Below w1.heap.size w1 wc) := hcut
                  clear Z4 hcut HVB
                  by_cases hone : one = 0
                  case neg =>
                    have hB : (one != 0) = true := by simp [hone]
                    have HON := hide hone
                    clear hone
                    go_wp2_with fail
                    go_ret
                    exact ⟨rfl, FB.out _ Z5.out⟩
                  obtain ⟨ha, h2, rfl, rfl⟩ := HLAW.out.least hone
                  have hl1 := least_ge1 ha h2
                  have hl2 := (leastA_bd ha).2
                  obtain ⟨hc1, hc2, hc3⟩ := corr_ok hl1
                  have HLE := hide (show ∀ k j, j < k → k < ws.length → leastA farB ws ≤ farB (txt ws k) (txt ws j) from fun k j h1 h2 => least_le h1 h2)
                  have HIN := hide (hasD_in (least_in h2))
                  have HA := hide ha
                  have h2i : 2 ≤ ws.length := h2
                  clear HLAW ha h2
                  subst hone
                  generalize (leastA farB ws - 1).tdiv 2 = cr at *
                  generalize leastA farB ws = L at *
                  as_aux_lemma =>
                    go_wp2_with fail
                    go_loopg [44, 43] ws.length (fun g i fv wr => ∃ k : Nat, k ≤ ws.length ∧ Hid (g = ws.length - k) ∧ i = .int .i64 k ∧ fv = .bool (hasD L (pairs ws 0 k)) ∧ Hid (Below w1.heap.size w1 wr))
                    case atStart => exact ⟨0, by omega, by simp [Hid], rfl, rfl, Z5⟩
                    case round =>
                      obtain ⟨k, hk, hg, rfl, rfl, HBR⟩ := hrel
                      clear Z5
                      by_cases hkt : k < ws.length
                      case neg =>
                        obtain rfl : k = ws.length := by omega
                        have hB1 : decide (2 * cr < L) = true := decide_eq_true hc1
                        have hB2 : decide (L ≤ 2 * cr + 2) = true := decide_eq_true hc2
                        rw [HIN.out]
                        go_wp2_with fail
                        go_ret
                        exact ⟨rfl, FB.out _ HBR.out⟩
                      go_wp2_with fail
                      obtain ⟨wo, hwo⟩ : ∃ q : World, q = wr := ⟨_, rfl⟩
                      subst hwo
                      go_loopg [45, 43] k (fun g j fv wr => ∃ m : Nat, m ≤ k ∧ Hid (g = k - m) ∧ j = .int .i64 m ∧ fv = .bool (hasD L (pairs ws 0 k ++ (ws.take m).map (farB (txt ws k)))) ∧ Hid (Below w1.heap.size w1 wr))
                      case atStart => exact ⟨0, by omega, by simp [Hid], rfl, by simp, HBR⟩
                      case round =>
                        obtain ⟨m, hm, hgm, rfl, rfl, HB2⟩ := hrel
                        by_cases hmk : m < k
                        case neg =>
                          obtain rfl : m = k := by omega
                          have HP := hide (show pairs ws 0 (m + 1) = pairs ws 0 m ++ (ws.take m).map (farB (txt ws m)) by rw [pairs_snoc, Nat.zero_add])
                          rw [← HP.out]
                          go_wp2_with fail
                          go_roundg (ws.length - (m + 1))
                          case measure => have := hg.out; omega
                          case rel => exact ⟨m + 1, by omega, rfl, by go_num, rfl, HB2⟩
                        obtain ⟨b9, o9, s9, rfl, _, hs9, hc9⟩ := (FS.out _ HB2.out).at_ hkt
                        obtain ⟨b8, o8, s8, hA8, _, hs8, hc8⟩ := (FS.out _ HB2.out).at_ (j := m) (by omega)
                        obtain ⟨rfl, rfl⟩ : b9 = b8 ∧ o9 = o8 := by cases hA8; exact ⟨rfl, rfl⟩
                        have htx := txt_get hs9
                        have htx8 := txt_get hs8
                        have hs99 := HSM.out s9 (List.mem_of_getElem? hs9)
                        have hs88 := HSM.out s8 (List.mem_of_getElem? hs8)
                        have HX := hide fun W => (show Calls Try.prog 13 #[.string s9, .string s8] W fun e w' => e = .returned (.tuple #[.int .i64 (farB s9 s8), .int .i64 0]) ∧ ∃ m, w' = W.drewN m from by
                          have h := distanceOf_any s9 s8 W hs99 hs88
                          have h2 := pair_far HA.out hkt (show m < ws.length by omega)
                          rw [htx, htx8] at h2
                          rw [h2] at h
                          exact h)
                        have hle := HLE.out k m hmk hkt
                        rw [htx, htx8] at hle
                        have hB1 : decide (farB s9 s8 < L) = false := decide_eq_false (by omega)
                        have HT := hide (hasD_take (ws := ws) (i := k) L (pairs ws 0 k) (show m < ws.length by omega))
                        rw [htx8, htx] at HT
                        rw [htx]
                        have HTX := hide htx
                        have hki : (k : Int) < (ws.length : Int) := by omega
                        have hmi : (m : Int) < (ws.length : Int) := by omega
                        clear hs9 hs8 htx htx8 hs99 hs88 hA8 hle
                        generalize farB s9 s8 = fd at *
                        generalize hasD L (pairs ws 0 k ++ List.map (farB s9) (List.take m ws)) = fb at *
                        go_wp2_with fail
                        go_quiet ((go_at_call 13; with_reducible exact qdn (HX.out _)))
                        have Z6 := hide (show Below w1.heap.size w1 (wr.drewN nq) from bdn HB2.out nq)
                        clear hc9 hc8 HB2
                        generalize wr.drewN nq = wq at *
                        by_cases hfl : fd = L
                        · have hB2 : (fd == L) = true := by simp [hfl]
                          rw [decide_eq_true hfl, Bool.or_true] at HT
                          have HFL := hide hfl
                          clear hfl
                          cases fb
                          · skip
                            as_aux_lemma =>
                              go_wp2_with fail
                              go_roundg (k - (m + 1))
                              case measure => have := hgm.out; omega
                              case rel => exact ⟨m + 1, by omega, rfl, by go_num, by rw [HTX.out, HT.out], Z6⟩
                          · skip
                            as_aux_lemma =>
                              go_wp2_with fail
                              go_roundg (k - (m + 1))
                              case measure => have := hgm.out; omega
                              case rel => exact ⟨m + 1, by omega, rfl, by go_num, by rw [HTX.out, HT.out], Z6⟩
                        · have hB2 : (fd == L) = false := by simp [hfl]
                          rw [decide_eq_false hfl, Bool.or_false] at HT
                          have HFL := hide hfl
                          clear hfl
                          cases fb
                          · skip
                            as_aux_lemma =>
                              go_wp2_with fail
                              go_roundg (k - (m + 1))
                              case measure => have := hgm.out; omega
                              case rel => exact ⟨m + 1, by omega, rfl, by go_num, by rw [HTX.out, HT.out], Z6⟩
                          · skip
                            as_aux_lemma =>
                              go_wp2_with fail
                              go_roundg (k - (m + 1))
                              case measure => have := hgm.out; omega
                              case rel => exact ⟨m + 1, by omega, rfl, by go_num, by rw [HTX.out, HT.out], Z6⟩
theorem fnNearest_own : ownKnob Try.prog.godebug = none := by kernel_rfl
theorem fnNearest_laid : laidOutB Try.prog = true := by kernel_rfl
set_option maxRecDepth 100000 in
theorem fnNearest_lifted (os : Os) (started : os.Started) (H : Type) (enc : TypeId × Value → H) :
    ReturnsInHanded {} Try.checked os 3 .any (Rows.fnNearestSpec.pre6 enc Try.prog Try.f3 Rows.fnNearestRow.domain false) (Rows.fnNearestSpec.post enc Try.prog Try.f3 false true false false) := by
  refine returnsInHanded_of_change (C := Try.checked) fnNearest_own started (by kernel_rfl) Try.func3
    (ChangeSpec.witness6 (enc := enc) (C := Try.checked) false ⟨#[], #[.slice none 0 0], []⟩ 8 (by kernel_rfl) (by kernel_rfl) (by kernel_rfl) (by kernel_rfl)) ?_
  intro W base args ds gs before hval0 hW hcnd _
  have hval : ∀ (j : Nat) t v, Try.f3.params[j]? = some t → args[j]? = some v → Value.okWide Try.prog W .any base t v := hval0
  have hW' := hW
  obtain ⟨p, q, hA0, hV, rfl, hfz, hnd⟩ := hW
  have hA : DataW.TrodAll enc Try.prog W 0 (fun _ => true) true Try.f3.params.toList args.toList ds p := hA0
  rw [Try.params3] at hA hval
  obtain ⟨v0, vs0, d0, ds0, p0, q0, hargs, rfl, rfl, h0, r0⟩ := trodAll_cons hA
  obtain ⟨rfl, rfl, rfl⟩ := trodAll_nil r0
  obtain rfl : args = #[v0] := by cases args; simp_all
  obtain ⟨rfl, rfl⟩ := trodVars_none hV
  have k0 := h0
  have lt0 : ∀ x ∈ p0, x.block < W.heap.size := by obtain ⟨m, hm⟩ := k0; exact DataW.trod_lt m _ _ _ hm
  obtain ⟨A0, c0, zs0, rfl, rd0, len0, bd0⟩ := open_B Try.underlying22 Try.underlying5 (by kernel_rfl) (hval 0 22 v0 rfl rfl) h0
  clear hA0 hval0
  refine (lNearest_walk zs0 (.slice A0 zs0.length c0) W ⟨A0, c0, rfl, rd0⟩ len0 bd0).mono fun e W' ⟨he, bel⟩ => ?_
  subst he
  exact ⟨_, rfl, _, _, _, [], _, [], hW', trodAll_mk1 (shut_bool Try.underlying4 _), (trodAll_cons_mk (Below.trod fnNearest_laid (by kernel_rfl) (of_decide_eq_true (by kernel_rfl)) k0 bel lt0) trodAll_mk0), rfl, bel.frame _, fun h => by cases h⟩
theorem fnNearest_holds : Rows.FnNearestSaid :=
  OpenClaim.holds_of_wide 3 Try.f3 rfl rfl rfl rfl rfl rfl rfl ⟨rfl, rfl, rfl, rfl, rfl⟩ rfl rfl rfl rfl rfl (by kernel_rfl) Try.func3 (by kernel_rfl)
    (of_decide_eq_true (by kernel_rfl)) (by unfold Func.isWrapper; first | (rw [if_pos (by decide +kernel)]; kernel_rfl) | (rw [if_neg (by decide +kernel)]; exact ⟨rfl, rfl⟩))
    (fun os started H enc _ => fnNearest_lifted os started H enc)
#print axioms fnNearest_holds
end Go.Proofs.Ytofjnmeblmbnmaa
