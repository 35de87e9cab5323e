/-
  AddAddress, in both packages. Printed by gen_code.py.
-/
import Derived.Test.YtaajkmjilcamgaaDoorQCodes58
namespace Go.Proofs.YtaajkmjilcamgaaDoor
open Go.RowKit
/-- The first word that is far from all of some. -/
def findF (d : Int) (ws : List ByteArray) : List ByteArray → Option ByteArray
  | [] => none
  | v :: l => if nearL d ws v then findF d ws l else some v
def addF (n : Int) (ws : List ByteArray) (d : Int) : Option ByteArray := findF d ws (allW n.toNat (txt ws 0).size)
def addE (ws : List ByteArray) : Option ByteArray → List ByteArray × Int
  | none => ([], 3)
  | some v => (ws ++ [v], 0)
def addR (n : Int) (ws : List ByteArray) (d : Int) : List ByteArray × Int :=
  if addrs n ws = false then ([], 1) else if ¬ (1 ≤ d ∧ d ≤ 8) then ([], 2) else if ws.length = 0 then ([], 6) else if ws.length = 40 ∨ 300 < powI n ((txt ws 0).size : Int) then ([], 5) else addE ws (addF n ws d)
theorem find_none {d : Int} {ws all : List ByteArray} {k : Nat} {v : ByteArray} {R : Option ByteArray} (h : all[k]? = some v) (e : R = findF d ws (all.drop k)) :
    (nearL d ws v = true → R = findF d ws (all.drop (k + 1))) ∧ (nearL d ws v = false → R = some v) := by
  rw [drop_cons h, findF] at e
  exact ⟨fun q => by rw [e, if_pos q], fun q => by rw [e, if_neg (by rw [q]; decide)]⟩
theorem to_below0 {P : Program} {f : FuncId} {args : Array Value} {w : World} {v : Ending} (h : Calls P f args w fun e w' => e = v ∧ w = w') : Calls P f args w fun e w' => e = v ∧ Below w.heap.size w w' :=
  h.mono fun _ _ ⟨he, hm⟩ => ⟨he, by rw [← hm]; exact Below.refl _ _⟩
set_option maxRecDepth 100000 in
set_option maxHeartbeats 1000000 in
theorem cloneS_any (xs : List ByteArray) (A : Option Addr) (c : Nat) (w : World) (hx : xs.length ≤ 1048576) (h1 : RdS w w.heap.size A xs) :
    Calls Tryd.prog 39 #[.slice A xs.length c] w fun e w' => ∃ A' c', e = .returned (.slice A' xs.length c') ∧ w'.ownsRow w.heap.size 9 1 (.slice A' xs.length c') xs.length (xs.map Value.string) ∧ Below w.heap.size w w' := by
  have hinfo : (Tryd.prog.info? 9).map (fun i => (i.zero, i.size, i.bytes)) = some (some (.string ByteArray.empty), 1, 16) := by kernel_rfl
  obtain ⟨i0, hi0, hz0, hs0, hb0⟩ := info_parts hinfo
  clear hinfo
  have hnil := fun (W : World) (A : Option Addr) (n c : Nat) => Lib.run_eql_slice_nil (P := Tryd.prog) W 26 9 A n c 0 0 Tryd.underlying26
  cases A with
  | none =>
    have hn : xs = [] := by
      rcases xs with _ | ⟨x, xs⟩
      · rfl
      · exact absurd (h1 (by simp)) (by rintro ⟨b, o, h, _⟩; cases h)
    subst hn
    clear h1
    go_enter Tryd.func39, Tryd.ntmps39
    go_wp2_with fail
    go_ret
    exact ⟨none, 0, rfl, World.ownsRow_nil _ _ _ _, Below.refl _ _⟩
  | some ad =>
    have HX := hide h1; clear h1
    go_enter Tryd.func39, Tryd.ntmps39
    have ho0 := own_new0 w w.heap.size 9 1 (Nat.le_refl _)
    have hb1 : Below w.heap.size w (w.alloc (.cells #[] 9)) := (Below.refl _ _).alloc (Nat.le_refl _) _
    have HR := hide (Rd.below HX.out hb1)
    go_wp2_with (at_builtin; go_must (refine wp_app _ rfl _ _ 26 rfl w.heap.size 9 i0 (.string ByteArray.empty) 1 16 Tryd.underlying26 hi0 hz0 hs0 hb0 rfl (by decide) _ _ _ rfl ho0 _ _ xs.length c _ rfl (by simp) HR.out (strs_one _) (by omega) (by decide) (by simp) ?_); intro v' w1 hown' hgrow hat)
    go_ret
    simp only [Nat.zero_add, List.nil_append] at hown'
    obtain ⟨A', c', rfl, _⟩ := own_shape hown'
    exact ⟨A', c', rfl, hown', app_below hb1 ho0 hgrow (Nat.le_refl _) (by simp)⟩
theorem wordB_ge1 {n : Int} {s : ByteArray} (h : wordB n s = true) : 1 ≤ s.size := by
  unfold wordB at h
  rw [Bool.and_eq_true, decide_eq_true_eq] at h
  exact h.2.1
theorem ret_add {ws : List ByteArray} {v : ByteArray} {A : Option Addr} {c : Nat} : Ending.returned (.tuple #[.slice A (ws.length + 1) c, .int .i64 0]) = .returned (.tuple #[.slice A (addE ws (some v)).1.length c, .int .i64 (addE ws (some v)).2]) := by
  show _ = Ending.returned (.tuple #[.slice A (ws ++ [v]).length c, .int .i64 0])
  rw [List.length_append]
  rfl
theorem rd_one {w w' : World} {B g : Nat} {v : Value} (hb : w'.heap[g]? = w.heap[g]?) (h : Rd w B (some ⟨g, 0, none⟩) [v]) : Rd w' (g + 1) (some ⟨g, 0, none⟩) [v] := fun hn => by
  obtain ⟨b', o', hA, _, hc⟩ := h hn
  cases hA
  exact ⟨g, 0, rfl, Nat.lt_succ_self _, fun j u hj => (World.cell?_of_block (a := ⟨g, 0 + j, none⟩) hb).trans (hc j u hj)⟩
set_option maxRecDepth 100000 in
set_option maxHeartbeats 8000000 in
theorem P_AddAddress (n : Int) (ws : List ByteArray) (d : Int) (A : Option Addr) (c : Nat) (w : World) (hl : ws.length ≤ 50) (hcap : ws.length ≤ c) (hcap2 : c ≤ 9223372036854775807) (hsm : ∀ s ∈ ws, s.size ≤ 1048576) (hr : RdS w w.heap.size A ws) :
    Calls Tryd.prog 15 #[.int .i64 n, .slice A ws.length c, .int .i64 d] w fun e w' => ∃ (A' : Option Addr) (c' : Nat), e = .returned (.tuple #[.slice A' (addR n ws d).1.length c', .int .i64 (addR n ws d).2]) ∧ RdS w' w'.heap.size A' (addR n ws d).1 ∧ Below w.heap.size w w' := by
  obtain ⟨i0, hi0, hz0, hs0, hb0⟩ := info_parts string_inf
  have HV := hide (to_below0 (validAddresses_any n ws A c w hcap hcap2 hsm hr))
  cases ha : addrs n ws
  · have hR : addR n ws d = ([], 1) := by unfold addR; rw [if_pos ha]
    rw [hR]
    rw [ha] at HV
    clear ha hr hsm hR
    go_enter Tryd.func15, Tryd.ntmps15
    go_wp2_with (go_at_call 36; (with_reducible refine (HV.out).mono ?_); rintro e w1 ⟨rfl, b1⟩)
    go_ret2
    exact ⟨none, 0, rfl, Rd.nil _ _ _, b1⟩
  rw [ha] at HV
  by_cases hd : 1 ≤ d ∧ d ≤ 8
  case neg =>
    have hR : addR n ws d = ([], 2) := by unfold addR; rw [if_neg (by rw [ha]; decide), if_pos hd]
    rw [hR]
    clear ha hr hsm hR
    go_enter Tryd.func15, Tryd.ntmps15
    go_wp2_with (first | (go_at_call 36; (with_reducible refine (HV.out).mono ?_); rintro e w1 ⟨rfl, b1⟩) | (go_at_call 37; first | (refine (within_t _ _ _ _ (by omega)).mono ?_; rintro e w' ⟨rfl, rfl⟩) | (refine (within_f _ _ _ _ (by omega)).mono ?_; rintro e w' ⟨rfl, rfl⟩)))
    go_ret2
    exact ⟨none, 0, rfl, Rd.nil _ _ _, b1⟩
  by_cases h0 : ws.length = 0
  · have hR : addR n ws d = ([], 6) := by unfold addR; rw [if_neg (by rw [ha]; decide), if_neg (by simpa using hd), if_pos h0]
    rw [hR]
    have hB : ((ws.length : Int) == 0) = true := by simp [h0]
    have H0 := hide h0
    clear ha hr hsm hR h0
    go_enter Tryd.func15, Tryd.ntmps15
    go_wp2_with (first | (go_at_call 36; (with_reducible refine (HV.out).mono ?_); rintro e w1 ⟨rfl, b1⟩) | (go_at_call 37; first | (refine (within_t _ _ _ _ (by omega)).mono ?_; rintro e w' ⟨rfl, rfl⟩) | (refine (within_f _ _ _ _ (by omega)).mono ?_; rintro e w' ⟨rfl, rfl⟩)))
    go_ret2
    exact ⟨none, 0, rfl, Rd.nil _ _ _, b1⟩
  have hB0 : ((ws.length : Int) == 0) = false := by simpa using h0
  have hn0 : 0 < ws.length := by omega
  have hn0i : (0 : Int) < (ws.length : Int) := by omega
  obtain ⟨⟨hn2, hn4⟩, hl40⟩ := addrs_len ha
  have hz8 := txt0_size ha
  have HSZ := hide fun s hs => addrs_size ha s hs
  obtain ⟨N, rfl⟩ : ∃ N : Nat, n = N := ⟨n.toNat, by omega⟩
  obtain ⟨b, o, s0, rfl, hb, hg0, hc0⟩ := RdS.at_ hr (j := 0) (by omega)
  have ht0 : txt ws 0 = s0 := txt_get hg0
  have hz1 : 1 ≤ (txt ws 0).size := by
    have h := (addrs_at ha hg0).1
    rw [← ht0] at h
    exact wordB_ge1 h
  have HPW := hide (show powI (N : Int) ((txt ws 0).size : Int) = ((N ^ (txt ws 0).size : Nat) : Int) by unfold powI; rw [Int.toNat_natCast, Int.toNat_natCast])
  have HR1 := hide (show ∀ q : List ByteArray × Int, q = (if ws.length = 40 ∨ 300 < powI (N : Int) ((txt ws 0).size : Int) then ([], 5) else addE ws (addF N ws d)) → addR N ws d = q from fun q e => by
    rw [e]
    unfold addR
    rw [if_neg (by rw [ha]; decide), if_neg (by simpa using hd), if_neg h0])
  have HRS := hide hr
  rw [Nat.add_zero] at hc0
  have HCT := hide fun W => (show Calls Tryd.prog 38 #[.int .i64 (N : Int), .int .i64 ((txt ws 0).size : Int), .int .i64 300] W fun e w' => e = .returned (.int .i64 ((min (N ^ (txt ws 0).size) 301 : Nat) : Int)) ∧ W = w' from count_any N (txt ws 0).size 300 W (by omega) (by omega) (by omega) (by omega))
  clear hr hsm hg0 ha h0
  by_cases h40 : ws.length = 40
  · have hR : addR N ws d = ([], 5) := HR1.out _ (by rw [if_pos (.inl h40)])
    rw [hR]
    have hB4 : ((ws.length : Int) == 40) = true := by simp [h40]
    have hB5 : decide (40 ≤ (ws.length : Int)) = true := decide_eq_true (by omega)
    have H4 := hide h40
    have HC0 := hide hc0
    rw [ht0] at HCT HPW HSZ hz8 hz1
    clear hR h40 hc0 HR1
    go_enter Tryd.func15, Tryd.ntmps15
    go_wp2_with (first | (go_at_call 36; (with_reducible refine (HV.out).mono ?_); rintro e w1 ⟨rfl, b1⟩; have hc1 := (b1.cell (p := ⟨b, o, none⟩) hb).trans HC0.out) | (go_at_call 37; first | (refine (within_t _ _ _ _ (by omega)).mono ?_; rintro e w' ⟨rfl, rfl⟩) | (refine (within_f _ _ _ _ (by omega)).mono ?_; rintro e w' ⟨rfl, rfl⟩)))
    go_ret2
    exact ⟨none, 0, rfl, Rd.nil _ _ _, b1⟩
  have hB4 : ((ws.length : Int) == 40) = false := by simp; omega
  have hB5 : decide (40 ≤ (ws.length : Int)) = false := decide_eq_false (by omega)
  by_cases hp : 300 < N ^ (txt ws 0).size
  · have hR : addR N ws d = ([], 5) := HR1.out _ (by rw [if_pos (.inr (by rw [HPW.out]; omega))])
    rw [hR]
    have hlm : 300 < min (N ^ (txt ws 0).size) 301 := by omega
    have hq1 : decide ((300 : Int) < ((min (N ^ (txt ws 0).size) 301 : Nat) : Int)) = true := decide_eq_true (by omega)
    generalize min (N ^ (txt ws 0).size) 301 = m at *
    have HC0 := hide hc0
    have HP := hide hp
    rw [ht0] at HCT HPW HSZ hz8 hz1
    clear hR hc0 hp HR1
    go_enter Tryd.func15, Tryd.ntmps15
    go_wp2_with (first | (go_at_call 36; (with_reducible refine (HV.out).mono ?_); rintro e w1 ⟨rfl, b1⟩; have hc1 := (b1.cell (p := ⟨b, o, none⟩) hb).trans HC0.out) | (go_at_call 37; first | (refine (within_t _ _ _ _ (by omega)).mono ?_; rintro e w' ⟨rfl, rfl⟩) | (refine (within_f _ _ _ _ (by omega)).mono ?_; rintro e w' ⟨rfl, rfl⟩)) | (go_at_call 38; refine (HCT.out _).mono ?_; rintro e w' ⟨rfl, rfl⟩))
    go_ret2
    exact ⟨none, 0, rfl, Rd.nil _ _ _, b1⟩
  have HR2 := hide (HR1.out (addE ws (addF N ws d)) (by rw [if_neg]; rintro (q | q); exact h40 q; rw [HPW.out] at q; omega))
  unfold addF at HR2
  rw [Int.toNat_natCast] at HR2
  rw [HR2.out]
  have HA := hide fun W => allWords_any N (txt ws 0).size W (by omega) (by omega) (by omega) (by omega)
  have HLN := hide (show (allW N (txt ws 0).size).length ≤ 300 by rw [allW_len]; omega)
  have HVZ := hide fun v (hv : v ∈ allW N (txt ws 0).size) => allW_size hv
  obtain ⟨F, hF⟩ : ∃ F, F = findF d ws (allW N (txt ws 0).size) := ⟨_, rfl⟩
  rw [← hF]
  have HF := hide hF
  have hlm : ¬ 300 < min (N ^ (txt ws 0).size) 301 := by omega
  have hq1 : decide ((300 : Int) < ((min (N ^ (txt ws 0).size) 301 : Nat) : Int)) = false := decide_eq_false (by omega)
  generalize min (N ^ (txt ws 0).size) 301 = m at *
  generalize allW N (txt ws 0).size = L at *
  rw [ht0] at HCT HPW HSZ hz8 hz1 HA HVZ
  have HC0 := hide hc0
  have HP := hide hp
  clear hF hc0 hp HR1 HR2 h40
  go_enter Tryd.func15, Tryd.ntmps15
  go_wp2_with (first | (go_at_call 36; (with_reducible refine (HV.out).mono ?_); rintro e w1 ⟨rfl, b1⟩; have hc1 := (b1.cell (p := ⟨b, o, none⟩) hb).trans HC0.out) | (go_at_call 37; first | (refine (within_t _ _ _ _ (by omega)).mono ?_; rintro e w' ⟨rfl, rfl⟩) | (refine (within_f _ _ _ _ (by omega)).mono ?_; rintro e w' ⟨rfl, rfl⟩)) | (go_at_call 38; refine (HCT.out _).mono ?_; rintro e w' ⟨rfl, rfl⟩) | (go_at_call 21; (with_reducible refine (HA.out _).mono ?_); rintro e w2 ⟨A2, c2, rfl, ho2, b2⟩))
  have HRL := hide (RdS.of_own ho2)
  have HB2 := hide (b1.trans (b2.mono b1.size))
  clear hc1 ho2 b1 b2 HV HA HCT HC0
  have hLN := HLN.out
  go_loopg [41] L.length (fun g i wr => ∃ k : Nat, k ≤ L.length ∧ Hid (g = L.length - k) ∧ i = .int .i64 k ∧ Hid (F = findF d ws (L.drop k)) ∧ Hid (Below w2.heap.size w2 wr))
  case atStart => exact ⟨0, by omega, by simp [Hid], rfl, HF, hide (Below.refl _ _)⟩
  case round =>
    obtain ⟨k, hk, hg, rfl, HE, HB⟩ := hrel
    clear HF
    have HBW := hide (HB2.out.trans (HB.out.mono HB2.out.size))
    by_cases hlt : k < L.length
    case neg =>
      have he := HE.out
      rw [List.drop_eq_nil_of_le (by omega), findF] at he
      subst he
      go_wp2_with fail
      go_ret2
      exact ⟨none, 0, rfl, Rd.nil _ _ _, HBW.out⟩
    have hrl := (RdS.below HRL.out HB.out).more HB.out.size
    obtain ⟨b5, o5, v, rfl, hb5, hv, hcv⟩ := hrl.at_ hlt
    have hvz := HVZ.out v (List.mem_of_getElem? hv)
    obtain ⟨hs1, hs2⟩ := find_none (d := d) hv HE.out
    have HS1 := hide hs1
    have HS2 := hide hs2
    have hki : (k : Int) < (L.length : Int) := by omega
    have HRW := hide ((RdS.below HRS.out HBW.out).more HBW.out.size)
    clear hs1 hs2 hv hrl
    have HFA := hide (isFar_any ws v d (some ⟨b, o, none⟩) c wr (by omega) (fun x hx => by rw [(HSZ.out x hx).1, hvz]) (by omega) HRW.out)
    have HVL := hide hvz
    clear hvz
    cases hn : nearL d ws v
    · rw [hn] at HFA
      have he := HS2.out hn
      subst he
      clear hn HS1 HS2
      have HCL := hide fun W (hW : Below wr.heap.size wr W) => cloneS_any ws (some ⟨b, o, none⟩) c W (by omega) ((RdS.below HRW.out hW).more hW.size)
      go_wp2_with (first | (go_at_call 22; (with_reducible refine (HFA.out).mono ?_); rintro e w3 ⟨rfl, b3⟩) | (go_at_call 39; (with_reducible refine (HCL.out _ b3).mono ?_); rintro e w4 ⟨A4, c4, rfl, ho4, b4⟩) | (at_builtin; refine Hid.out ?_))
      refine hide ?_
      have hoF := ho4.alloc (.cells #[.string v] 9)
      have b34 := b3.trans (b4.mono b3.size)
      have b5' : Below wr.heap.size wr (w4.alloc (.cells #[.string v] 9)) := b34.alloc b34.size _
      have hz34 := b4.size
      refine wp_app _ rfl _ _ 26 rfl w3.heap.size 9 i0 (.string ByteArray.empty) 1 16 Tryd.underlying26 hi0 hz0 hs0 hb0 rfl (by decide) (.slice A4 ws.length c4) ws.length (ws.map Value.string) rfl hoF _ _ 1 1 [.string v] rfl rfl (rd_new _ _ _ _ ?c1) (str_one _) ?c2 (by decide) ?c3 ?_
      case c1 => simp
      case c2 => omega
      case c3 => simp; omega
      intro v9 w9 hown9 hgrow9 hat9
      have b9 := app_below b5' hoF hgrow9 b3.size b5'.size
      obtain ⟨A9, c9, rfl, _⟩ := own_shape hown9
      have HR9 := hide (show RdS w9 w9.heap.size A9 (ws ++ [v]) from RdS.of_own (xs := ws ++ [v]) (by rw [List.map_append]; exact hown9))
      have HL9 := hide (show (ws ++ [v]).length = ws.length + 1 by simp)
      clear hown9 hgrow9 hat9 hoF b34 b5'
      go_wp2_with fail
      go_ret2
      exact ⟨A9, c9, ret_add, HR9.out, HBW.out.trans (b9.mono HBW.out.size)⟩
    · rw [hn] at HFA
      have HS := hide (HS1.out hn)
      clear hn HS1 HS2
      go_wp2_with (go_at_call 22; (with_reducible refine (HFA.out).mono ?_); rintro e w3 ⟨rfl, b3⟩)
      go_roundg (L.length - (k + 1))
      case measure => have := hg.out; omega
      case rel => exact ⟨k + 1, by omega, rfl, by go_num, HS, hide (HB.out.trans (b3.mono HB.out.size))⟩
set_option maxRecDepth 100000 in
set_option maxHeartbeats 8000000 in
theorem S_AddAddress (n : Int) (ws : List ByteArray) (d : Int) (A : Option Addr) (c : Nat) (w : World) (hl : ws.length ≤ 50) (hcap : ws.length ≤ c) (hcap2 : c ≤ 9223372036854775807) (hsm : ∀ s ∈ ws, s.size ≤ 1048576) (hr : RdS w w.heap.size A ws) :
    Calls Tryd.prog 16 #[.int .i64 n, .slice A ws.length c, .int .i64 d] w fun e w' => ∃ (A' : Option Addr) (c' : Nat), e = .returned (.tuple #[.slice A' (addR n ws d).1.length c', .int .i64 (addR n ws d).2]) ∧ RdS w' w'.heap.size A' (addR n ws d).1 ∧ Below w.heap.size w w' := by
  obtain ⟨i0, hi0, hz0, hs0, hb0⟩ := info_parts string_inf
  have HV := hide (to_below (l05Ok_any n ws A c w (by omega) hsm hr))
  cases ha : addrs n ws
  · have hR : addR n ws d = ([], 1) := by unfold addR; rw [if_pos ha]
    rw [hR]
    rw [ha] at HV
    clear ha hr hsm hR
    go_enter Tryd.func16, Tryd.ntmps16
    go_wp2_with (go_at_call 40; (with_reducible refine (HV.out).mono ?_); rintro e w1 ⟨rfl, b1⟩)
    go_ret2
    exact ⟨none, 0, rfl, Rd.nil _ _ _, b1⟩
  rw [ha] at HV
  by_cases hd : 1 ≤ d ∧ d ≤ 8
  case neg =>
    have hR : addR n ws d = ([], 2) := by unfold addR; rw [if_neg (by rw [ha]; decide), if_pos hd]
    rw [hR]
    clear ha hr hsm hR
    go_enter Tryd.func16, Tryd.ntmps16
    go_wp2_with (first | (go_at_call 40; (with_reducible refine (HV.out).mono ?_); rintro e w1 ⟨rfl, b1⟩) | (go_at_call 41; first | (refine (l00In_t _ _ _ _ (by omega)).mono ?_; rintro e w' ⟨rfl, rfl⟩) | (refine (l00In_f _ _ _ _ (by omega)).mono ?_; rintro e w' ⟨rfl, rfl⟩)))
    go_ret2
    exact ⟨none, 0, rfl, Rd.nil _ _ _, b1⟩
  by_cases h0 : ws.length = 0
  · have hR : addR n ws d = ([], 6) := by unfold addR; rw [if_neg (by rw [ha]; decide), if_neg (by simpa using hd), if_pos h0]
    rw [hR]
    have hB : ((ws.length : Int) == 0) = true := by simp [h0]
    have H0 := hide h0
    clear ha hr hsm hR h0
    go_enter Tryd.func16, Tryd.ntmps16
    go_wp2_with (first | (go_at_call 40; (with_reducible refine (HV.out).mono ?_); rintro e w1 ⟨rfl, b1⟩) | (go_at_call 41; first | (refine (l00In_t _ _ _ _ (by omega)).mono ?_; rintro e w' ⟨rfl, rfl⟩) | (refine (l00In_f _ _ _ _ (by omega)).mono ?_; rintro e w' ⟨rfl, rfl⟩)))
    go_ret2
    exact ⟨none, 0, rfl, Rd.nil _ _ _, b1⟩
  have hB0 : ((ws.length : Int) == 0) = false := by simpa using h0
  have hn0 : 0 < ws.length := by omega
  have hn0i : (0 : Int) < (ws.length : Int) := by omega
  obtain ⟨⟨hn2, hn4⟩, hl40⟩ := addrs_len ha
  have hz8 := txt0_size ha
  have HSZ := hide fun s hs => addrs_size ha s hs
  obtain ⟨N, rfl⟩ : ∃ N : Nat, n = N := ⟨n.toNat, by omega⟩
  obtain ⟨b, o, s0, rfl, hb, hg0, hc0⟩ := RdS.at_ hr (j := 0) (by omega)
  have ht0 : txt ws 0 = s0 := txt_get hg0
  have hz1 : 1 ≤ (txt ws 0).size := by
    have h := (addrs_at ha hg0).1
    rw [← ht0] at h
    exact wordB_ge1 h
  have HPW := hide (show powI (N : Int) ((txt ws 0).size : Int) = ((N ^ (txt ws 0).size : Nat) : Int) by unfold powI; rw [Int.toNat_natCast, Int.toNat_natCast])
  have HR1 := hide (show ∀ q : List ByteArray × Int, q = (if ws.length = 40 ∨ 300 < powI (N : Int) ((txt ws 0).size : Int) then ([], 5) else addE ws (addF N ws d)) → addR N ws d = q from fun q e => by
    rw [e]
    unfold addR
    rw [if_neg (by rw [ha]; decide), if_neg (by simpa using hd), if_neg h0])
  have HRS := hide hr
  rw [Nat.add_zero] at hc0
  have HCT := hide fun W => l05Whole_any (N : Int) ((txt ws 0).size : Int) W
  clear hr hsm hg0 ha h0
  by_cases h40 : ws.length = 40
  · have hR : addR N ws d = ([], 5) := HR1.out _ (by rw [if_pos (.inl h40)])
    rw [hR]
    have hB4 : ((ws.length : Int) == 40) = true := by simp [h40]
    have hB5 : decide (40 ≤ (ws.length : Int)) = true := decide_eq_true (by omega)
    have H4 := hide h40
    have HC0 := hide hc0
    rw [ht0] at HCT HPW HSZ hz8 hz1
    clear hR h40 hc0 HR1
    go_enter Tryd.func16, Tryd.ntmps16
    go_wp2_with (first | (go_at_call 40; (with_reducible refine (HV.out).mono ?_); rintro e w1 ⟨rfl, b1⟩; have hc1 := (b1.cell (p := ⟨b, o, none⟩) hb).trans HC0.out) | (go_at_call 41; first | (refine (l00In_t _ _ _ _ (by omega)).mono ?_; rintro e w' ⟨rfl, rfl⟩) | (refine (l00In_f _ _ _ _ (by omega)).mono ?_; rintro e w' ⟨rfl, rfl⟩)))
    go_ret2
    exact ⟨none, 0, rfl, Rd.nil _ _ _, b1⟩
  have hB4 : ((ws.length : Int) == 40) = false := by simp; omega
  have hB5 : decide (40 ≤ (ws.length : Int)) = false := decide_eq_false (by omega)
  by_cases hp : 300 < N ^ (txt ws 0).size
  · have hR : addR N ws d = ([], 5) := HR1.out _ (by rw [if_pos (.inr (by rw [HPW.out]; omega))])
    rw [hR]
    have HCW := hide (show codeW (N : Int) ((txt ws 0).size : Int) 1 300 = 5 by unfold codeW; rw [if_pos ⟨by omega, by omega, by omega⟩, HPW.out, if_neg (by omega)])
    rw [HCW.out] at HCT
    have HC0 := hide hc0
    have HP := hide hp
    rw [ht0] at HCT HPW HSZ hz8 hz1
    clear hR hc0 hp HR1
    go_enter Tryd.func16, Tryd.ntmps16
    go_wp2_with (first | (go_at_call 40; (with_reducible refine (HV.out).mono ?_); rintro e w1 ⟨rfl, b1⟩; have hc1 := (b1.cell (p := ⟨b, o, none⟩) hb).trans HC0.out) | (go_at_call 41; first | (refine (l00In_t _ _ _ _ (by omega)).mono ?_; rintro e w' ⟨rfl, rfl⟩) | (refine (l00In_f _ _ _ _ (by omega)).mono ?_; rintro e w' ⟨rfl, rfl⟩)) | (go_at_call 30; refine (HCT.out _).mono ?_; rintro e w' ⟨rfl, rfl⟩))
    go_ret2
    exact ⟨none, 0, rfl, Rd.nil _ _ _, b1⟩
  have HR2 := hide (HR1.out (addE ws (addF N ws d)) (by rw [if_neg]; rintro (q | q); exact h40 q; rw [HPW.out] at q; omega))
  unfold addF at HR2
  rw [Int.toNat_natCast] at HR2
  rw [HR2.out]
  have HA := hide fun W => l05All_any N (txt ws 0).size W (by omega) (by omega) (by omega) (by omega)
  have HLN := hide (show (allW N (txt ws 0).size).length ≤ 300 by rw [allW_len]; omega)
  have HVZ := hide fun v (hv : v ∈ allW N (txt ws 0).size) => allW_size hv
  obtain ⟨F, hF⟩ : ∃ F, F = findF d ws (allW N (txt ws 0).size) := ⟨_, rfl⟩
  rw [← hF]
  have HF := hide hF
  have HCW := hide (show codeW (N : Int) ((txt ws 0).size : Int) 1 300 = 0 by unfold codeW; rw [if_pos ⟨by omega, by omega, by omega⟩, HPW.out, if_pos (by omega)])
  rw [HCW.out] at HCT
  generalize allW N (txt ws 0).size = L at *
  rw [ht0] at HCT HPW HSZ hz8 hz1 HA HVZ
  have HC0 := hide hc0
  have HP := hide hp
  clear hF hc0 hp HR1 HR2 h40
  go_enter Tryd.func16, Tryd.ntmps16
  go_wp2_with (first | (go_at_call 40; (with_reducible refine (HV.out).mono ?_); rintro e w1 ⟨rfl, b1⟩; have hc1 := (b1.cell (p := ⟨b, o, none⟩) hb).trans HC0.out) | (go_at_call 41; first | (refine (l00In_t _ _ _ _ (by omega)).mono ?_; rintro e w' ⟨rfl, rfl⟩) | (refine (l00In_f _ _ _ _ (by omega)).mono ?_; rintro e w' ⟨rfl, rfl⟩)) | (go_at_call 30; refine (HCT.out _).mono ?_; rintro e w' ⟨rfl, rfl⟩) | (go_at_call 24; (with_reducible refine (HA.out _).mono ?_); rintro e w2 ⟨A2, c2, rfl, ho2, b2⟩))
  have HRL := hide (RdS.of_own ho2)
  have HB2 := hide (b1.trans (b2.mono b1.size))
  clear hc1 ho2 b1 b2 HV HA HCT HC0
  have hLN := HLN.out
  go_loopg [9] L.length (fun g i wr => ∃ k : Nat, k ≤ L.length ∧ Hid (g = L.length - k) ∧ i = .int .i64 k ∧ Hid (F = findF d ws (L.drop k)) ∧ Hid (Below w2.heap.size w2 wr))
  case atStart => exact ⟨0, by omega, by simp [Hid], rfl, HF, hide (Below.refl _ _)⟩
  case round =>
    obtain ⟨k, hk, hg, rfl, HE, HB⟩ := hrel
    clear HF
    have HBW := hide (HB2.out.trans (HB.out.mono HB2.out.size))
    by_cases hlt : k < L.length
    case neg =>
      have he := HE.out
      rw [List.drop_eq_nil_of_le (by omega), findF] at he
      subst he
      go_wp2_with fail
      go_ret2
      exact ⟨none, 0, rfl, Rd.nil _ _ _, HBW.out⟩
    have hrl := (RdS.below HRL.out HB.out).more HB.out.size
    obtain ⟨b5, o5, v, rfl, hb5, hv, hcv⟩ := hrl.at_ hlt
    have hvz := HVZ.out v (List.mem_of_getElem? hv)
    obtain ⟨hs1, hs2⟩ := find_none (d := d) hv HE.out
    have HS1 := hide hs1
    have HS2 := hide hs2
    have hki : (k : Int) < (L.length : Int) := by omega
    have HRW := hide ((RdS.below HRS.out HBW.out).more HBW.out.size)
    clear hs1 hs2 hv hrl
    have HFA := hide (to_below (l05Near_any ws v d (some ⟨b, o, none⟩) c wr (by omega) (fun x hx => by rw [(HSZ.out x hx).1, hvz]) (by omega) HRW.out))
    have HVL := hide hvz
    clear hvz
    cases hn : nearL d ws v
    · rw [hn] at HFA
      have he := HS2.out hn
      subst he
      clear hn HS1 HS2
      go_upto_region 14 with (go_at_call 25; (with_reducible refine (HFA.out).mono ?_); rintro e w3 ⟨rfl, b3⟩)
      have bd : Below wr.heap.size wr w3.drew := b3.drew
      have e0 : w3.drew.cell? ⟨b5, o5 + k, none⟩ = some (.string v) := (bd.cell (p := ⟨b5, o5 + k, none⟩) hb5).trans hcv
      have HK := hide fun W (hW : Below wr.heap.size wr W) => (hW.cell (p := ⟨b5, o5 + k, none⟩) hb5).trans hcv
      have HRWW := hide fun W (hW : Below wr.heap.size wr W) => (RdS.below HRW.out hW).more hW.size
      clear b3 hcv
      refine wp_region_held_drew (S := fun W => W.cell? ⟨b5, o5 + k, none⟩ = some (.string v)) (by kernel_rfl) (e0) (fun hHeld => ?_)
      generalize w3.drew = e1 at *
      have z1 := bd.size
      refine wpAnyH_take (i := 1) (v := ?_) rfl (by kernel_rfl) (by kernel_rfl) (by kernel_rfl) (fun _ _ _ h => h) (Or.inl ⟨by rfl, ?_⟩) (by assumption) ?_
      rotate_left 1
      · (intro w hSw; (try dsimp only at hSw); go_simp; try with_reducible rfl)
      try simp only [Act.put, List.getElem_toArray, List.getElem_cons_succ, List.getElem_cons_zero, List.setIfInBounds_toArray, List.set_cons_zero, List.set_cons_succ]
      refine wpAnyH_take (i := 3) (v := ?_) rfl (by kernel_rfl) (by kernel_rfl) (by kernel_rfl) (fun _ _ _ h => h) (Or.inl ⟨by rfl, ?_⟩) (by assumption) ?_
      rotate_left 1
      · (intro w hSw; (try dsimp only at hSw); go_simp; try with_reducible rfl)
      try simp only [Act.put, List.getElem_toArray, List.getElem_cons_succ, List.getElem_cons_zero, List.setIfInBounds_toArray, List.set_cons_zero, List.set_cons_succ]
      refine wpAnyH_take (i := 4) (v := ?_) rfl (by kernel_rfl) (by kernel_rfl) (by kernel_rfl) (fun _ _ _ h => h) (Or.inl ⟨by rfl, ?_⟩) (by assumption) ?_
      rotate_left 1
      · (intro w hSw; (try dsimp only at hSw); go_simp; try with_reducible rfl)
      try simp only [Act.put, List.getElem_toArray, List.getElem_cons_succ, List.getElem_cons_zero, List.setIfInBounds_toArray, List.set_cons_zero, List.set_cons_succ]
      refine wpAnyH_take (i := 5) (v := ?_) rfl (by kernel_rfl) (by kernel_rfl) (by kernel_rfl) (fun _ _ _ h => h) (Or.inl ⟨by rfl, ?_⟩) (by assumption) ?_
      rotate_left 1
      · (intro w hSw; (try dsimp only at hSw); go_simp; try with_reducible rfl)
      try simp only [Act.put, List.getElem_toArray, List.getElem_cons_succ, List.getElem_cons_zero, List.setIfInBounds_toArray, List.set_cons_zero, List.set_cons_succ]
      refine wpAnyH_take (i := 6) (v := ?_) rfl (by kernel_rfl) (by kernel_rfl) (by kernel_rfl) (fun _ _ _ h => h) (Or.inl ⟨by rfl, ?_⟩) (by assumption) ?_
      rotate_left 1
      · (intro w hSw; (try dsimp only at hSw); go_simp; try with_reducible rfl)
      try simp only [Act.put, List.getElem_toArray, List.getElem_cons_succ, List.getElem_cons_zero, List.setIfInBounds_toArray, List.set_cons_zero, List.set_cons_succ]
      refine wpAnyH_ready (rs := [0, 7]) (by kernel_rfl) (by simp) ?_
      refine AllReadyH.cons rfl (fun K hK => ?_) (AllReadyH.cons rfl (fun K hK => ?_) AllReadyH.nil)
      · try simp only [Act.put, List.getElem_toArray, List.getElem_cons_succ, List.getElem_cons_zero, List.setIfInBounds_toArray, List.set_cons_zero, List.set_cons_succ]
        go_simp
        have hb2 : Below wr.heap.size wr (e1.alloc (.cells #[] 9)) := bd.alloc bd.size _
        have ro3 := own_new0 e1 wr.heap.size 9 1 bd.size
        have k4 := HK.out _ hb2
        refine hK.out _ _ (k4) (fun hHeld => ?_)
        clear hK K
        try simp only [Act.put, List.getElem_toArray, List.getElem_cons_succ, List.getElem_cons_zero, List.setIfInBounds_toArray, List.set_cons_zero, List.set_cons_succ]
        refine wpAnyH_ready (rs := [2, 7]) (by kernel_rfl) (by simp) ?_
        refine AllReadyH.cons rfl (fun K hK => ?_) (AllReadyH.cons rfl (fun K hK => ?_) AllReadyH.nil)
        · try simp only [Act.put, List.getElem_toArray, List.getElem_cons_succ, List.getElem_cons_zero, List.setIfInBounds_toArray, List.set_cons_zero, List.set_cons_succ]
          rw [if_pos (by rfl)]
          have rr5 := HRWW.out _ hb2
          refine op_app _ _ _ 26 rfl wr.heap.size 9 i0 (.string ByteArray.empty) 1 16 Tryd.underlying26 hi0 hz0 hs0 hb0 rfl (by decide) _ _ _ rfl ro3 _ _ ws.length c (ws.map Value.string) rfl (by simp) rr5 (strs_one ws) (by omega) (by decide) hb2.size ?_
          intro v6 e7 ho8 hg9 ha10
          rw [Nat.zero_add, List.nil_append] at ho8
          have hb11 := app_below hb2 ro3 hg9 (Nat.le_refl _) hb2.size
          have k12 := HK.out _ hb11
          dsimp only
          refine hK.out _ _ (k12) (fun hHeld => ?_)
          clear hK K
          try simp only [Act.put, List.getElem_toArray, List.getElem_cons_succ, List.getElem_cons_zero, List.setIfInBounds_toArray, List.set_cons_zero, List.set_cons_succ]
          refine wpAnyH_ready (rs := [7]) (by kernel_rfl) (by simp) ?_
          refine AllReadyH.cons rfl (fun K hK => ?_) AllReadyH.nil
          try simp only [Act.put, List.getElem_toArray, List.getElem_cons_succ, List.getElem_cons_zero, List.setIfInBounds_toArray, List.set_cons_zero, List.set_cons_succ]
          go_simp
          have hb14 : Below wr.heap.size wr (e7.alloc (.cells #[.string v] 9)) := hb11.alloc hb11.size _
          have li15 := rd_new e7 [.string v] 9 _ rfl
          have gl16 : e7.heap.size < (e7.alloc (.cells #[.string v] 9)).heap.size := by simp
          have ro17 := ho8.alloc (.cells #[.string v] 9)
          have ne18 := ho8.lt
          have k19 := HK.out _ hb14
          refine hK.out _ _ (k19) (fun hHeld => ?_)
          clear hK K
          try simp only [Act.put, List.getElem_toArray, List.getElem_cons_succ, List.getElem_cons_zero, List.setIfInBounds_toArray, List.set_cons_zero, List.set_cons_succ]
          refine wpAnyH_ready (rs := [8]) (by kernel_rfl) (by simp) ?_
          refine AllReadyH.cons rfl (fun K hK => ?_) AllReadyH.nil
          try simp only [Act.put, List.getElem_toArray, List.getElem_cons_succ, List.getElem_cons_zero, List.setIfInBounds_toArray, List.set_cons_zero, List.set_cons_succ]
          rw [if_pos (by rfl)]
          refine op_app _ _ _ 26 rfl wr.heap.size 9 i0 (.string ByteArray.empty) 1 16 Tryd.underlying26 hi0 hz0 hs0 hb0 rfl (by decide) _ _ _ rfl ro17 _ _ 1 1 [.string v] rfl rfl li15 (str_one _) (by omega) (by decide) hb14.size ?_
          intro v9 w9 hown9 hgrow9 hat9
          have b9 := app_below hb14 ro17 hgrow9 (Nat.le_refl _) hb14.size
          obtain ⟨A9, c9, rfl, _⟩ := own_shape hown9
          have k9 := HK.out _ b9
          dsimp only
          refine hK.out _ _ (k9) (fun hHeld => ?_)
          clear hK K
          try simp only [Act.put, List.getElem_toArray, List.getElem_cons_succ, List.getElem_cons_zero, List.setIfInBounds_toArray, List.set_cons_zero, List.set_cons_succ]
          refine wpAnyH_take (i := 9) (v := ?_) rfl (by kernel_rfl) (by kernel_rfl) (by kernel_rfl) (fun _ _ _ h => h) (Or.inl ⟨by rfl, ?_⟩) (by assumption) ?_
          rotate_left 1
          · (intro w hSw; (try dsimp only at hSw); go_simp; try with_reducible rfl)
          try simp only [Act.put, List.getElem_toArray, List.getElem_cons_succ, List.getElem_cons_zero, List.setIfInBounds_toArray, List.set_cons_zero, List.set_cons_succ]
          refine wpAnyH_take (i := 10) (v := ?_) rfl (by kernel_rfl) (by kernel_rfl) (by kernel_rfl) (fun _ _ _ h => h) (Or.inl ⟨by rfl, ?_⟩) (by assumption) ?_
          rotate_left 1
          · (intro w hSw; (try dsimp only at hSw); go_simp; try with_reducible rfl)
          try simp only [Act.put, List.getElem_toArray, List.getElem_cons_succ, List.getElem_cons_zero, List.setIfInBounds_toArray, List.set_cons_zero, List.set_cons_succ]
          refine wpAnyH_done (by kernel_rfl) ?_ _
          go_wp2_with fail
          go_ret2
          exact ⟨A9, c9, ret_add, RdS.of_own (xs := ws ++ [v]) (by rw [List.map_append]; exact hown9), HBW.out.trans (b9.mono HBW.out.size)⟩
        · try simp only [Act.put, List.getElem_toArray, List.getElem_cons_succ, List.getElem_cons_zero, List.setIfInBounds_toArray, List.set_cons_zero, List.set_cons_succ]
          go_simp
          have hb21 : Below wr.heap.size wr ((e1.alloc (.cells #[] 9)).alloc (.cells #[.string v] 9)) := hb2.alloc hb2.size _
          have li22 := rd_new (e1.alloc (.cells #[] 9)) [.string v] 9 _ rfl
          rw [show (e1.alloc (.cells #[] 9)).heap.size = e1.heap.size + 1 by simp] at li22
          have gl23 : (e1.heap.size + 1) < ((e1.alloc (.cells #[] 9)).alloc (.cells #[.string v] 9)).heap.size := by simp
          have ro24 := ro3.alloc (.cells #[.string v] 9)
          have ne25 := ro3.lt
          have k26 := HK.out _ hb21
          refine hK.out _ _ (k26) (fun hHeld => ?_)
          clear hK K
          try simp only [Act.put, List.getElem_toArray, List.getElem_cons_succ, List.getElem_cons_zero, List.setIfInBounds_toArray, List.set_cons_zero, List.set_cons_succ]
          refine wpAnyH_ready (rs := [2]) (by kernel_rfl) (by simp) ?_
          refine AllReadyH.cons rfl (fun K hK => ?_) AllReadyH.nil
          try simp only [Act.put, List.getElem_toArray, List.getElem_cons_succ, List.getElem_cons_zero, List.setIfInBounds_toArray, List.set_cons_zero, List.set_cons_succ]
          rw [if_pos (by rfl)]
          have rr27 := HRWW.out _ hb21
          refine op_app _ _ _ 26 rfl wr.heap.size 9 i0 (.string ByteArray.empty) 1 16 Tryd.underlying26 hi0 hz0 hs0 hb0 rfl (by decide) _ _ _ rfl ro24 _ _ ws.length c (ws.map Value.string) rfl (by simp) rr27 (strs_one ws) (by omega) (by decide) hb21.size ?_
          intro v28 e29 ho30 hg31 ha32
          rw [Nat.zero_add, List.nil_append] at ho30
          have hb33 := app_below hb21 ro24 hg31 (Nat.le_refl _) hb21.size
          have li34 : Rd e29 ((e1.heap.size + 1) + 1) (some ⟨(e1.heap.size + 1), 0, none⟩) [.string v] := rd_one (hg31.block _ gl23 (fun e => by have := Option.some.inj e; simp at this)) li22
          have gl35 : (e1.heap.size + 1) < e29.heap.size := Nat.lt_of_lt_of_le gl23 hg31.size
          have k36 := HK.out _ hb33
          dsimp only
          refine hK.out _ _ (k36) (fun hHeld => ?_)
          clear hK K
          try simp only [Act.put, List.getElem_toArray, List.getElem_cons_succ, List.getElem_cons_zero, List.setIfInBounds_toArray, List.set_cons_zero, List.set_cons_succ]
          refine wpAnyH_ready (rs := [8]) (by kernel_rfl) (by simp) ?_
          refine AllReadyH.cons rfl (fun K hK => ?_) AllReadyH.nil
          try simp only [Act.put, List.getElem_toArray, List.getElem_cons_succ, List.getElem_cons_zero, List.setIfInBounds_toArray, List.set_cons_zero, List.set_cons_succ]
          rw [if_pos (by rfl)]
          refine op_app _ _ _ 26 rfl wr.heap.size 9 i0 (.string ByteArray.empty) 1 16 Tryd.underlying26 hi0 hz0 hs0 hb0 rfl (by decide) _ _ _ rfl ho30 _ _ 1 1 [.string v] rfl rfl li34 (str_one _) (by omega) (by decide) hb33.size ?_
          intro v9 w9 hown9 hgrow9 hat9
          have b9 := app_below hb33 ho30 hgrow9 (Nat.le_refl _) hb33.size
          obtain ⟨A9, c9, rfl, _⟩ := own_shape hown9
          have k9 := HK.out _ b9
          dsimp only
          refine hK.out _ _ (k9) (fun hHeld => ?_)
          clear hK K
          try simp only [Act.put, List.getElem_toArray, List.getElem_cons_succ, List.getElem_cons_zero, List.setIfInBounds_toArray, List.set_cons_zero, List.set_cons_succ]
          refine wpAnyH_take (i := 9) (v := ?_) rfl (by kernel_rfl) (by kernel_rfl) (by kernel_rfl) (fun _ _ _ h => h) (Or.inl ⟨by rfl, ?_⟩) (by assumption) ?_
          rotate_left 1
          · (intro w hSw; (try dsimp only at hSw); go_simp; try with_reducible rfl)
          try simp only [Act.put, List.getElem_toArray, List.getElem_cons_succ, List.getElem_cons_zero, List.setIfInBounds_toArray, List.set_cons_zero, List.set_cons_succ]
          refine wpAnyH_take (i := 10) (v := ?_) rfl (by kernel_rfl) (by kernel_rfl) (by kernel_rfl) (fun _ _ _ h => h) (Or.inl ⟨by rfl, ?_⟩) (by assumption) ?_
          rotate_left 1
          · (intro w hSw; (try dsimp only at hSw); go_simp; try with_reducible rfl)
          try simp only [Act.put, List.getElem_toArray, List.getElem_cons_succ, List.getElem_cons_zero, List.setIfInBounds_toArray, List.set_cons_zero, List.set_cons_succ]
          refine wpAnyH_done (by kernel_rfl) ?_ _
          go_wp2_with fail
          go_ret2
          exact ⟨A9, c9, ret_add, RdS.of_own (xs := ws ++ [v]) (by rw [List.map_append]; exact hown9), HBW.out.trans (b9.mono HBW.out.size)⟩
      · try simp only [Act.put, List.getElem_toArray, List.getElem_cons_succ, List.getElem_cons_zero, List.setIfInBounds_toArray, List.set_cons_zero, List.set_cons_succ]
        go_simp
        have hb38 : Below wr.heap.size wr (e1.alloc (.cells #[.string v] 9)) := bd.alloc bd.size _
        have li39 := rd_new e1 [.string v] 9 _ rfl
        have gl40 : e1.heap.size < (e1.alloc (.cells #[.string v] 9)).heap.size := by simp
        have k41 := HK.out _ hb38
        refine hK.out _ _ (k41) (fun hHeld => ?_)
        clear hK K
        try simp only [Act.put, List.getElem_toArray, List.getElem_cons_succ, List.getElem_cons_zero, List.setIfInBounds_toArray, List.set_cons_zero, List.set_cons_succ]
        refine wpAnyH_ready (rs := [0]) (by kernel_rfl) (by simp) ?_
        refine AllReadyH.cons rfl (fun K hK => ?_) AllReadyH.nil
        try simp only [Act.put, List.getElem_toArray, List.getElem_cons_succ, List.getElem_cons_zero, List.setIfInBounds_toArray, List.set_cons_zero, List.set_cons_succ]
        go_simp
        have hb43 : Below wr.heap.size wr ((e1.alloc (.cells #[.string v] 9)).alloc (.cells #[] 9)) := hb38.alloc hb38.size _
        have ro44 := own_new0 (e1.alloc (.cells #[.string v] 9)) wr.heap.size 9 1 hb38.size
        rw [show (e1.alloc (.cells #[.string v] 9)).heap.size = e1.heap.size + 1 by simp] at ro44
        have li45 := li39.below (((Below.refl (e1.alloc (.cells #[.string v] 9)).heap.size (e1.alloc (.cells #[.string v] 9))).alloc (Nat.le_refl _) (.cells #[] 9)).mono (by simp))
        have lt46 : e1.heap.size < (e1.alloc (.cells #[.string v] 9)).heap.size := gl40
        have gl47 : e1.heap.size < ((e1.alloc (.cells #[.string v] 9)).alloc (.cells #[] 9)).heap.size := Nat.lt_of_lt_of_le gl40 (by simp)
        have k48 := HK.out _ hb43
        refine hK.out _ _ (k48) (fun hHeld => ?_)
        clear hK K
        try simp only [Act.put, List.getElem_toArray, List.getElem_cons_succ, List.getElem_cons_zero, List.setIfInBounds_toArray, List.set_cons_zero, List.set_cons_succ]
        refine wpAnyH_ready (rs := [2]) (by kernel_rfl) (by simp) ?_
        refine AllReadyH.cons rfl (fun K hK => ?_) AllReadyH.nil
        try simp only [Act.put, List.getElem_toArray, List.getElem_cons_succ, List.getElem_cons_zero, List.setIfInBounds_toArray, List.set_cons_zero, List.set_cons_succ]
        rw [if_pos (by rfl)]
        have rr49 := HRWW.out _ hb43
        refine op_app _ _ _ 26 rfl wr.heap.size 9 i0 (.string ByteArray.empty) 1 16 Tryd.underlying26 hi0 hz0 hs0 hb0 rfl (by decide) _ _ _ rfl ro44 _ _ ws.length c (ws.map Value.string) rfl (by simp) rr49 (strs_one ws) (by omega) (by decide) hb43.size ?_
        intro v50 e51 ho52 hg53 ha54
        rw [Nat.zero_add, List.nil_append] at ho52
        have hb55 := app_below hb43 ro44 hg53 (Nat.le_refl _) hb43.size
        have li56 : Rd e51 (e1.heap.size + 1) (some ⟨e1.heap.size, 0, none⟩) [.string v] := rd_one (hg53.block _ gl47 (fun e => by have := Option.some.inj e; simp at this)) li45
        have gl57 : e1.heap.size < e51.heap.size := Nat.lt_of_lt_of_le gl47 hg53.size
        have k58 := HK.out _ hb55
        dsimp only
        refine hK.out _ _ (k58) (fun hHeld => ?_)
        clear hK K
        try simp only [Act.put, List.getElem_toArray, List.getElem_cons_succ, List.getElem_cons_zero, List.setIfInBounds_toArray, List.set_cons_zero, List.set_cons_succ]
        refine wpAnyH_ready (rs := [8]) (by kernel_rfl) (by simp) ?_
        refine AllReadyH.cons rfl (fun K hK => ?_) AllReadyH.nil
        try simp only [Act.put, List.getElem_toArray, List.getElem_cons_succ, List.getElem_cons_zero, List.setIfInBounds_toArray, List.set_cons_zero, List.set_cons_succ]
        rw [if_pos (by rfl)]
        refine op_app _ _ _ 26 rfl wr.heap.size 9 i0 (.string ByteArray.empty) 1 16 Tryd.underlying26 hi0 hz0 hs0 hb0 rfl (by decide) _ _ _ rfl ho52 _ _ 1 1 [.string v] rfl rfl li56 (str_one _) (by omega) (by decide) hb55.size ?_
        intro v9 w9 hown9 hgrow9 hat9
        have b9 := app_below hb55 ho52 hgrow9 (Nat.le_refl _) hb55.size
        obtain ⟨A9, c9, rfl, _⟩ := own_shape hown9
        have k9 := HK.out _ b9
        dsimp only
        refine hK.out _ _ (k9) (fun hHeld => ?_)
        clear hK K
        try simp only [Act.put, List.getElem_toArray, List.getElem_cons_succ, List.getElem_cons_zero, List.setIfInBounds_toArray, List.set_cons_zero, List.set_cons_succ]
        refine wpAnyH_take (i := 9) (v := ?_) rfl (by kernel_rfl) (by kernel_rfl) (by kernel_rfl) (fun _ _ _ h => h) (Or.inl ⟨by rfl, ?_⟩) (by assumption) ?_
        rotate_left 1
        · (intro w hSw; (try dsimp only at hSw); go_simp; try with_reducible rfl)
        try simp only [Act.put, List.getElem_toArray, List.getElem_cons_succ, List.getElem_cons_zero, List.setIfInBounds_toArray, List.set_cons_zero, List.set_cons_succ]
        refine wpAnyH_take (i := 10) (v := ?_) rfl (by kernel_rfl) (by kernel_rfl) (by kernel_rfl) (fun _ _ _ h => h) (Or.inl ⟨by rfl, ?_⟩) (by assumption) ?_
        rotate_left 1
        · (intro w hSw; (try dsimp only at hSw); go_simp; try with_reducible rfl)
        try simp only [Act.put, List.getElem_toArray, List.getElem_cons_succ, List.getElem_cons_zero, List.setIfInBounds_toArray, List.set_cons_zero, List.set_cons_succ]
        refine wpAnyH_done (by kernel_rfl) ?_ _
        go_wp2_with fail
        go_ret2
        exact ⟨A9, c9, ret_add, RdS.of_own (xs := ws ++ [v]) (by rw [List.map_append]; exact hown9), HBW.out.trans (b9.mono HBW.out.size)⟩
    · rw [hn] at HFA
      have HS := hide (HS1.out hn)
      clear hn HS1 HS2
      go_wp2_with (go_at_call 25; (with_reducible refine (HFA.out).mono ?_); rintro e w3 ⟨rfl, b3⟩)
      go_roundg (L.length - (k + 1))
      case measure => have := hg.out; omega
      case rel => exact ⟨k + 1, by omega, rfl, by go_num, HS, hide (HB.out.trans (b3.mono HB.out.size))⟩
end Go.Proofs.YtaajkmjilcamgaaDoor
