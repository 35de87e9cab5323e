/-
  All simple ways, by the program's function that calls itself.
-/
import Derived.Test.YtlkccijlbeibjaaQTurns7
import Derived.Test.YtlkccijlbeibjaaQTurns11
import Derived.Test.YtlkccijlbeibjaaQTurns10
import Derived.Test.YtlkccijlbeibjaaQTurns8
import Derived.Test.YtlkccijlbeibjaaQTurns5
namespace Go.Proofs.Ytlkccijlbeibjaa
open Go.RowKit
/-- A row of the call's own with its bounds. -/
structure OR (w : World) (lo hi : Nat) (v : Value) (x : List Int) : Prop where
  own : w.ownsRow lo 2 1 v x.length (x.map (Value.int .i64))
  top : ∀ g, v.ownBlock = some g → g < hi
theorem OR.of {w : World} {lo : Nat} {v : Value} {x : List Int} (h : w.ownsRow lo 2 1 v x.length (x.map (Value.int .i64))) : OR w lo w.heap.size v x := ⟨h, fun g hg => (h.lt g hg).2⟩
theorem OR.only {w w' : World} {lo hi lo' hi' : Nat} {v : Value} {x : List Int} (h : OR w lo hi v x) (k : Only lo' hi' w w') (hd : hi ≤ lo' ∨ hi' ≤ lo) : OR w' lo hi v x := by
  refine ⟨⟨h.own.1, ?_⟩, h.top⟩
  rcases h.own.2 with h0 | ⟨g, cap, cur, rfl, hb, hg, rest⟩
  · exact .inl h0
  · refine .inr ⟨g, cap, cur, rfl, hb, ?_, rest⟩
    have := h.top g rfl
    rw [k.2.2.2.2 g (lt_of_block hg) (by omega)]; exact hg
theorem OR.below {w w' : World} {lo hi B : Nat} {v : Value} {x : List Int} (h : OR w lo hi v x) (k : Below B w w') (hd : hi ≤ B) : OR w' lo hi v x := by
  refine ⟨⟨h.own.1, ?_⟩, h.top⟩
  rcases h.own.2 with h0 | ⟨g, cap, cur, rfl, hb, hg, rest⟩
  · exact .inl h0
  · refine .inr ⟨g, cap, cur, rfl, hb, ?_, rest⟩
    have := h.top g rfl
    rw [k.block g (by omega)]; exact hg
theorem OR.grow {w w' : World} {lo hi : Nat} {v : Value} {x : List Int} (h : OR w lo hi v x) (hg : w.grownBy w' v.ownBlock) : Only lo hi w w' := only_row hg fun g e => ⟨(h.own.lt g e).1, h.top g e⟩
theorem OR.o {w : World} {lo hi lo' : Nat} {v : Value} {x : List Int} (h : OR w lo hi v x) (hl : lo' ≤ lo) (hh : hi ≤ w.heap.size) (hn : x.length ≤ 1048576) : O_Int64S w lo' w.heap.size v x := by
  unfold O_Int64S
  have := OwnV.of_row (own_base h.own hl) hn
  exact this
theorem box_rd {w : World} {g : Nat} {z : Int} (h : BoxN w g #[.int .i64 z] 2) : Rd w w.heap.size (some ⟨g, 0, none⟩) [.int .i64 z] := fun _ => ⟨g, 0, rfl, h.lt, fun j u hj => by
  match j, hj with
  | 0, hj => simp at hj; subst hj; exact h.cell 0
  | j + 1, hj => simp at hj⟩
theorem rd3_only {w w' : World} {pb hi : Nat} {A : Option Addr} {tb : List T3} (h : Rd3 w pb A tb) (k : Only pb hi w w') (hp : pb ≤ w.heap.size) : Rd3 w' pb A tb := h.below (k.below (Nat.le_refl _) hp)
/-- The ways behind one tube. -/
def nextW (tb : List T3) (m : Nat) (P S : List Int) (a t i : Int) : List (List Int) := if hasI S (tubeAt tb i).b = false ∧ (tubeAt tb i).b ≠ a then sWays tb (m - 1) (P ++ [i]) (S ++ [a]) (tubeAt tb i).b t else []
theorem sWays_step {n : Nat} {tb : List T3} (hok : OkTubes n tb) {m : Nat} {P S : List Int} {a t : Int} (hat : ¬ a = t) (hm : m + S.length + 1 = n) (hnd : (S ++ [a]).Nodup) (hin : ∀ x ∈ S ++ [a], 0 ≤ x ∧ x < n) : sWays tb m P S a t = (tubesL tb a).flatMap (nextW tb m P S a t) := by
  cases m with
  | zero =>
    rw [sWays, if_neg hat]
    symm
    rw [List.flatMap_eq_nil_iff]
    intro i hi
    obtain ⟨j, x, rfl, hx, hxa⟩ := tubesL_mem.1 hi
    have ht : tubeAt tb (j : Int) = x := tubeAt_get (by simpa using hx)
    unfold nextW
    rw [ht, if_neg]
    rintro ⟨h1, h2⟩
    have hx2 := hok x (List.mem_of_getElem? hx)
    have h3 : ((S ++ [a]) ++ [x.b]).Nodup := by
      rw [List.nodup_append]
      refine ⟨hnd, by simp, fun y hy z hz e => ?_⟩
      rw [List.mem_singleton] at hz; subst hz; subst e
      rcases List.mem_append.1 hy with hy | hy
      · exact hasI_false.1 h1 hy
      · rw [List.mem_singleton] at hy; exact h2 hy
    have h4 := nodup_len (n := n) h3 (fun y hy => by
      rcases List.mem_append.1 hy with hy | hy
      · exact hin y hy
      · rw [List.mem_singleton] at hy; subst hy; exact hx2.2.1)
    simp at h4
    omega
  | succ m =>
    rw [sWays, if_neg hat]
    rfl
theorem sWays_room {n : Nat} {tb : List T3} {m : Nat} {S : List Int} {a b : Int} (hm : m + S.length + 1 = n) (hnd : (S ++ [a]).Nodup) (hin : ∀ x ∈ S ++ [a], 0 ≤ x ∧ x < n) (h1 : hasI S b = false) (h2 : b ≠ a) (hb : 0 ≤ b ∧ b < n) : 1 ≤ m ∧ ((S ++ [a]) ++ [b]).Nodup := by
  have h3 : ((S ++ [a]) ++ [b]).Nodup := by
    rw [List.nodup_append]
    refine ⟨hnd, by simp, fun y hy z hz e => ?_⟩
    rw [List.mem_singleton] at hz; subst hz; subst e
    rcases List.mem_append.1 hy with hy | hy
    · exact hasI_false.1 h1 hy
    · rw [List.mem_singleton] at hy; exact h2 hy
  have h4 := nodup_len (n := n) h3 (fun y hy => by
    rcases List.mem_append.1 hy with hy | hy
    · exact hin y hy
    · rw [List.mem_singleton] at hy; subst hy; exact hb)
  simp at h4
  exact ⟨by omega, h3⟩
theorem sWays_here (tb : List T3) (m : Nat) (P S : List Int) (a : Int) : sWays tb m P S a a = [P] := by cases m <;> rw [sWays, if_pos rfl]
set_option maxRecDepth 100000 in
set_option maxHeartbeats 16000000 in
theorem simpleWays_any (n : Nat) (tb : List T3) (A : Option Addr) (c : Nat) (v td : Nat) (tn ln : List Int → Int) (F : FuncId) (cap : Array Value) (pb : Nat) (W0 : World) (hok : OkNet n tb) (hr0 : Rd3 W0 pb A tb) (hpb0 : pb ≤ W0.heap.size)
    (Inv : List Int × Int × Int → World → Prop) (hInv : ∀ s W W', Inv s W → Below W.heap.size W W' → Inv s W')
    (hy : ∀ q s W Aq cq, Simple tb q v td → Only pb (pb + 3) W0 W → pb + 3 ≤ W.heap.size → Inv s W → RdI W W.heap.size Aq q → Calls Try.prog F (#[.slice Aq q.length cq] ++ cap) W fun e w' => e = .returned (.tuple #[]) ∧ Inv (best3 tn ln s q) w' ∧ Only pb (pb + 3) W w')
    (hcf : ∀ args w, (callFunc F args).run Try.prog w = .ok (.enter F args) w) :
    ∀ (m : Nat) (P S : List Int) (a : Nat) (s : List Int × Int × Int) (wo : World) (Ap : Option Addr) (cp : Nat) (As : Option Addr) (cs : Nat), m + S.length + 1 = n → a < n → wk tb (-1) P v a → begins tb P = S → (S ++ [(a : Int)]).Nodup → Only pb (pb + 3) W0 wo → pb + 3 ≤ wo.heap.size → Inv s wo → O_Int64S wo (pb + 3) wo.heap.size (.slice Ap P.length cp) P → O_Int64S wo (pb + 3) wo.heap.size (.slice As S.length cs) S →
    Calls Try.prog 84 #[.agg #[.int .i64 n, .slice A tb.length c], .slice Ap P.length cp, .slice As S.length cs, .int .i64 a, .int .i64 td, .func (.func F) #[] cap] wo fun e w' => e = .returned (.tuple #[]) ∧ Inv ((sWays tb m P S a td).foldl (best3 tn ln) s) w' ∧ Only pb (pb + 3) wo w' := by
  intro m
  induction m using Nat.strongRecOn with
  | ind m ih =>
  intro P S a s wo Ap cp As cs hm han hw hbg hnd ho hpb hi hp hs
  obtain ⟨i0, hi0, hz0, hs0, hb0⟩ := info_parts int64_info
  have hokt := ok_tubes hok
  have hl24 := hok.2.1
  have hn10 := hok.1.2
  have hin : ∀ x ∈ S ++ [(a : Int)], 0 ≤ x ∧ x < n := fun x hx => by
    rcases List.mem_append.1 hx with hx | hx
    · rw [← hbg] at hx; exact begins_in hokt hw x hx
    · rw [List.mem_singleton] at hx; omega
  have hpS : P.length = S.length := by rw [← hbg, begins, List.length_map]
  have b0 : Below wo.heap.size wo (wo.alloc (.cells #[.int .i64 n, .slice A tb.length c] 44)) := (by repeat (first | exact Below.refl _ _ | assumption | (refine Below.alloc ?_ (by simp <;> omega) _) | refine Below.drew ?_ | refine bdn ?_ _))
  have X0 := hide (BoxN.new wo #[.int .i64 n, .slice A tb.length c] 44)
  have z0 := X0.out.lt
  have hz0b := b0.size
  have B0 := hide b0
  have I0 := hide (hInv _ _ _ hi b0)
  have O0 := hide (only_trans ho (only_of_below b0))
  have P0 := hide (own_tob hp b0 (Nat.le_refl _) b0.size)
  have S0 := hide (own_tob hs b0 (Nat.le_refl _) b0.size)
  have hpb1 := Nat.le_trans hpb b0.size
  by_cases hat : a = td
  · subst hat
    have HE := hide (sWays_here tb m P S (a : Int))
    have HC := hide (hy P s _ Ap cp ⟨hw, by rw [hbg]; exact hnd⟩ O0.out hpb1 I0.out (own_rdI P0.out))
    clear hy ih hi hp hs hnd hbg hin hInv hr0 ho b0 hpS
    go_enter Try.func84, Try.ntmps84
    go_upto_region 1 with fail
    generalize wo.alloc (.cells #[.int .i64 n, .slice A tb.length c] 44) = w1 at *
    go_wp2_with (refine (HC.out).mono ?_; rintro e w2 ⟨rfl, hi2, ho2⟩)
    refine bodyPost_ret (v := .tuple #[]) (results_none rfl _ _ _) rfl ?_
    exact ⟨rfl, by rw [HE.out]; exact hi2, only_trans (only_of_below B0.out) ho2⟩
  have hB : ((a : Int) == (td : Int)) = false := by simp; omega
  have HST := hide (sWays_step hokt (P := P) (t := (td : Int)) (show ¬ (a : Int) = (td : Int) by omega) hm hnd hin)
  have HOK := hide hokt
  have HR0 := hide hr0
  have HTF := hide (tubesFrom_any n tb (a : Int) A c (wo.alloc (.cells #[.int .i64 n, .slice A tb.length c] 44)) hl24 ((rd3_only hr0 O0.out hpb0).more (by omega)))
  have IH := hide ih
  have HINV := hide hInv
  have HWK := hide hw
  have HBG := hide hbg
  have HND := hide hnd
  have HIN := hide hin
  have HM := hide hm
  have HAT := hide hat
  have HTL := hide (show (tubesL tb (a : Int)).length ≤ 24 from by
    unfold tubesL
    exact Nat.le_trans (idxFrom_len _ tb 0) hl24)
  have hS10 : S.length < n := by omega
  have hP10 : P.length < n := by omega
  have HPS := hide hpS
  clear hy ih hi hp hs hnd hbg hin hInv hr0 ho b0 hokt hw hm hok hat hpS
  go_enter Try.func84, Try.ntmps84
  go_upto_region 1 with fail
  generalize wo.alloc (.cells #[.int .i64 n, .slice A tb.length c] 44) = w1 at *
  have k0 := X0.out.cell 0
  have k1 := X0.out.cell 1
  go_wp2_with (go_at_call 145; (with_reducible refine (HTF.out).mono ?_); rintro e w2 ⟨A3, c3, rfl, ho3, b2⟩)
  have z2 := b2.size
  have X2 := hide (X0.out.below b2 z0)
  have I2 := hide (HINV.out _ _ _ I0.out b2)
  have O2 := hide (only_trans O0.out (only_of_below b2))
  have P2 := hide (own_tob P0.out b2 (Nat.le_refl _) b2.size)
  have S2 := hide (own_tob S0.out b2 (Nat.le_refl _) b2.size)
  have T2 := hide ((OR.of ho3).o (lo' := pb + 3) (by omega) (Nat.le_refl _) (by have := HTL.out; omega))
  have B2 := hide (B0.out.trans (b2.mono hz0b))
  clear k0 k1 ho3 b2
  have htl := HTL.out
  generalize hts : tubesL tb (a : Int) = ts at *
  have HTS := hide hts
  clear hts
  go_loopg [25] ts.length (fun g i wr => ∃ (k : Nat) (s' : List Int × Int × Int), k ≤ ts.length ∧ Hid (g = ts.length - k) ∧ i = .int .i64 k ∧ Hid ((sWays tb m P S a td).foldl (best3 tn ln) s = ((ts.drop k).flatMap (nextW tb m P S a td)).foldl (best3 tn ln) s') ∧ Hid (Inv s' wr) ∧ Hid (Only pb (pb + 3) w2 wr))
  case atStart => exact ⟨0, s, by omega, by simp [Hid], rfl, hide (by rw [HST.out, List.drop_zero]), I2, hide (only_of_below (Below.refl _ _))⟩
  case round =>
    obtain ⟨k, s', hk, hgk, rfl, HQ, HI, HO⟩ := hrel
    have zr := HO.out.size
    by_cases hlt : k < ts.length
    case neg =>
      have hq := HQ.out
      rw [List.drop_eq_nil_of_le (by omega)] at hq
      have HE := hide (show (sWays tb m P S a td).foldl (best3 tn ln) s = s' from hq)
      clear hq
      go_wp2_with fail
      refine bodyPost_end (results_none rfl _ _ _) rfl ?_
      exact ⟨rfl, by rw [HE.out]; exact HI.out, only_trans (only_of_below B2.out) HO.out⟩
    have Pr := hide (own_to P2.out HO.out (Nat.le_refl _) zr)
    have Sr := hide (own_to S2.out HO.out (Nat.le_refl _) zr)
    have Tr := own_rdI (own_to T2.out HO.out (Nat.le_refl _) zr)
    obtain ⟨b3, o3, i, rfl, _, hik, hci⟩ := Tr.at_ hlt
    have hmem : i ∈ tubesL tb (a : Int) := by rw [HTS.out]; exact List.mem_of_getElem? hik
    obtain ⟨j, x, rfl, hx, hxa⟩ := tubesL_mem.1 hmem
    have htx : tubeAt tb (j : Int) = x := tubeAt_get (by simpa using hx)
    have hjt : j < tb.length := lt_of_get hx
    have hxo := HOK.out x (List.mem_of_getElem? hx)
    obtain ⟨b4, o4, x', hA4, _, hx', c0, c1, c2⟩ := (rd3_only (rd3_only HR0.out O2.out hpb0) HO.out (by omega)).at_ hjt
    subst hA4
    obtain rfl := Option.some.inj (hx.symm.trans hx')
    obtain ⟨bn, hbn⟩ : ∃ q : Nat, x.b = (q : Int) := ⟨x.b.toNat, by omega⟩
    have hbn2 : bn < n := by omega
    have X3 := hide (X2.out.only HO.out (.inr (by omega)))
    have x0 : wr.cell? ⟨wo.heap.size, 0, none⟩ = some (.int .i64 n) := X3.out.cell 0
    have x1 : wr.cell? ⟨wo.heap.size, 1, none⟩ = some (.slice (some ⟨b4, o4, none⟩) tb.length c) := X3.out.cell 1
    rw [hbn] at c1
    have hq := HQ.out
    rw [drop_cons hik, List.flatMap_cons, List.foldl_append] at hq
    have hnx : nextW tb m P S a td (j : Int) = if hasI S (bn : Int) = false ∧ (bn : Int) ≠ (a : Int) then sWays tb (m - 1) (P ++ [(j : Int)]) (S ++ [(a : Int)]) (bn : Int) td else [] := by unfold nextW; rw [htx, hbn]
    rw [hnx] at hq
    have HTX := hide hx
    have HXA := hide hxa
    have HXB := hide hbn
    have HC := hide (containsI_any S (bn : Int) As cs wr (by omega) (own_rdI Sr.out))
    have hji : (j : Int) < (tb.length : Int) := by omega
    have hki : (k : Int) < (ts.length : Int) := by omega
    clear hx' hx hxa hbn hik hmem htx hxo c0 c2 Tr hnx HQ
    cases hh : hasI S (bn : Int)
    case true =>
      rw [hh] at hq HC
      rw [if_neg (fun e => by cases e.1), List.foldl_nil] at hq
      have HQ2 := hide hq
      clear hq hh
      go_wp2_with (go_at_call 146; refine (HC.out).mono ?_; rintro e w3 ⟨rfl, bc⟩)
      go_roundg (ts.length - (k + 1))
      case measure => have := hgk.out; omega
      case rel => exact ⟨k + 1, s', by omega, rfl, by go_num, HQ2, hide (HINV.out _ _ _ HI.out bc), hide (only_trans HO.out (only_of_below bc))⟩
    by_cases hba : bn = a
    · rw [hh] at hq HC
      rw [if_neg (fun e => e.2 (by rw [hba])), List.foldl_nil] at hq
      have HQ2 := hide hq
      have hB2 : ((bn : Int) != (a : Int)) = false := by simp; omega
      clear hq hh hba
      go_wp2_with (go_at_call 146; refine (HC.out).mono ?_; rintro e w3 ⟨rfl, bc⟩)
      go_roundg (ts.length - (k + 1))
      case measure => have := hgk.out; omega
      case rel => exact ⟨k + 1, s', by omega, rfl, by go_num, HQ2, hide (HINV.out _ _ _ HI.out bc), hide (only_trans HO.out (only_of_below bc))⟩
    have hB2 : ((bn : Int) != (a : Int)) = true := by simp; omega
    have hrm := sWays_room (tb := tb) HM.out HND.out HIN.out hh (show (bn : Int) ≠ (a : Int) by omega) (by omega)
    rw [hh] at hq HC
    rw [if_pos ⟨rfl, by omega⟩] at hq
    have HQ2 := hide hq
    have HRM := hide hrm
    have HBA := hide hba
    clear hq hh hba hrm
    go_upto_region 8 with (go_at_call 146; refine (HC.out).mono ?_; rintro e w3 ⟨rfl, bc⟩)
    have z3 := bc.size
    have X4 := hide (X3.out.below bc (by omega))
    have I4 := hide (HINV.out _ _ _ HI.out bc)
    have O4 := hide (only_trans HO.out (only_of_below bc))
    have P4 := hide (own_tob Pr.out bc (Nat.le_refl _) bc.size)
    have S4 := hide (own_tob Sr.out bc (Nat.le_refl _) bc.size)
    clear HC bc x0 x1 hci c1
    have HREC := hide fun (W : World) (A6 : Option Addr) (c6 : Nat) (A7 : Option Addr) (c7 : Nat) (hW : Below w3.heap.size w3 W) (h6 : O_Int64S W (pb + 3) W.heap.size (.slice A6 (P ++ [(j : Int)]).length c6) (P ++ [(j : Int)])) (h7 : O_Int64S W (pb + 3) W.heap.size (.slice A7 (S ++ [(a : Int)]).length c7) (S ++ [(a : Int)])) => IH.out (m - 1) (by have := HRM.out.1; omega) (P ++ [(j : Int)]) (S ++ [(a : Int)]) bn s' W A6 c6 A7 c7 (by have h1 := HRM.out.1; have h2 := HM.out; rw [List.length_append, List.length_singleton]; omega) hbn2 (wk_append.2 ⟨(a : Int), HWK.out, by omega, by omega, x, by simpa using HTX.out, HXA.out, HXB.out⟩) (by rw [begins_append, HBG.out]; show S ++ [(tubeAt tb (j : Int)).a] = _; rw [tubeAt_get (t := x) (by simpa using HTX.out), HXA.out]) HRM.out.2 (only_trans (only_trans O2.out O4.out) (only_of_below hW)) (by have := hW.size; omega) (HINV.out _ _ _ I4.out hW) h6 h7
    have hl6 : (P ++ [(j : Int)]).length = P.length + 1 := by simp
    have hl7 : (S ++ [(a : Int)]).length = S.length + 1 := by simp
    rw [hl6, hl7] at HREC
    have HL6 := hide hl6
    have HL7 := hide hl7
    have HC1 := hide fun W (hW : Below w3.heap.size w3 W) => cloneI_any P Ap cp W (by omega) ((own_rdI P4.out).below hW |>.more hW.size)
    have HC2 := hide fun W (hW : Below w3.heap.size w3 W) => cloneI_any S As cs W (by omega) ((own_rdI S4.out).below hW |>.more hW.size)
    clear hl6 hl7
    have XD := hide (X4.out.below (Below.refl _ _).drew X4.out.lt)
    have BD : Hid (Below w3.heap.size w3 w3.drew) := (Below.refl _ _).drew
    have zD : w3.heap.size ≤ w3.drew.heap.size := Nat.le_refl _
    refine wp_region_held_drew (S := fun W => W.cell? ⟨wo.heap.size, 0, none⟩ = some (.int .i64 n) ∧ W.cell? ⟨wo.heap.size, 1, none⟩ = some (.slice (some ⟨b4, o4, none⟩) tb.length c)) (by kernel_rfl) (⟨XD.out.cell 0, XD.out.cell 1⟩) (fun hHeld => ?_)
    generalize w3.drew = wd at *
    refine wpAnyH_take (i := 0) (v := ?_) rfl (by kernel_rfl) (by kernel_rfl) (by kernel_rfl) (fun _ _ _ h => h) (Or.inl ⟨by rfl, ?_⟩) (by assumption) ?_
    rotate_left 1
    · (intro w hSw; (try dsimp only at hSw); go_simp; try with_reducible rfl)
    try simp only [Act.put, List.getElem_toArray, List.getElem_cons_succ, List.getElem_cons_zero, List.setIfInBounds_toArray, List.set_cons_zero, List.set_cons_succ]
    refine wpAnyH_take (i := 1) (v := ?_) rfl (by kernel_rfl) (by kernel_rfl) (by kernel_rfl) (fun _ _ _ h => h) (Or.inl ⟨by rfl, ?_⟩) (by assumption) ?_
    rotate_left 1
    · (intro w hSw; (try dsimp only at hSw); go_simp; try with_reducible rfl)
    try simp only [Act.put, List.getElem_toArray, List.getElem_cons_succ, List.getElem_cons_zero, List.setIfInBounds_toArray, List.set_cons_zero, List.set_cons_succ]
    refine wpAnyH_take (i := 3) (v := ?_) rfl (by kernel_rfl) (by kernel_rfl) (by kernel_rfl) (fun _ _ _ h => h) (Or.inl ⟨by rfl, ?_⟩) (by assumption) ?_
    rotate_left 1
    · (intro w hSw; (try dsimp only at hSw); go_simp; try with_reducible rfl)
    try simp only [Act.put, List.getElem_toArray, List.getElem_cons_succ, List.getElem_cons_zero, List.setIfInBounds_toArray, List.set_cons_zero, List.set_cons_succ]
    refine wpAnyH_take (i := 6) (v := ?_) rfl (by kernel_rfl) (by kernel_rfl) (by kernel_rfl) (fun _ _ _ h => h) (Or.inl ⟨by rfl, ?_⟩) (by assumption) ?_
    rotate_left 1
    · (intro w hSw; (try dsimp only at hSw); go_simp; try with_reducible rfl)
    try simp only [Act.put, List.getElem_toArray, List.getElem_cons_succ, List.getElem_cons_zero, List.setIfInBounds_toArray, List.set_cons_zero, List.set_cons_succ]
    refine wpAnyH_take (i := 8) (v := ?_) rfl (by kernel_rfl) (by kernel_rfl) (by kernel_rfl) (fun _ _ _ h => h) (Or.inl ⟨by rfl, ?_⟩) (by assumption) ?_
    rotate_left 1
    · (intro w hSw; (try dsimp only at hSw); go_simp; try with_reducible rfl)
    try simp only [Act.put, List.getElem_toArray, List.getElem_cons_succ, List.getElem_cons_zero, List.setIfInBounds_toArray, List.set_cons_zero, List.set_cons_succ]
    refine wpAnyH_take (i := 11) (v := ?_) rfl (by kernel_rfl) (by kernel_rfl) (by kernel_rfl) (fun _ _ _ h => h) (Or.inl ⟨by rfl, ?_⟩) (by assumption) ?_
    rotate_left 1
    · (intro w hSw; (try dsimp only at hSw); go_simp; try with_reducible rfl)
    try simp only [Act.put, List.getElem_toArray, List.getElem_cons_succ, List.getElem_cons_zero, List.setIfInBounds_toArray, List.set_cons_zero, List.set_cons_succ]
    refine wpAnyH_take (i := 12) (v := ?_) rfl (by kernel_rfl) (by kernel_rfl) (by kernel_rfl) (fun _ _ _ h => h) (Or.inl ⟨by rfl, ?_⟩) (by assumption) ?_
    rotate_left 1
    · (intro w hSw; (try dsimp only at hSw); go_simp; try with_reducible rfl)
    try simp only [Act.put, List.getElem_toArray, List.getElem_cons_succ, List.getElem_cons_zero, List.setIfInBounds_toArray, List.set_cons_zero, List.set_cons_succ]
    refine wpAnyH_take (i := 13) (v := ?_) rfl (by kernel_rfl) (by kernel_rfl) (by kernel_rfl) (fun _ _ _ h => h) (Or.inl ⟨by rfl, ?_⟩) (by assumption) ?_
    rotate_left 1
    · (intro w hSw; (try dsimp only at hSw); go_simp; try with_reducible rfl)
    try simp only [Act.put, List.getElem_toArray, List.getElem_cons_succ, List.getElem_cons_zero, List.setIfInBounds_toArray, List.set_cons_zero, List.set_cons_succ]
    refine wpAnyH_ready (rs := [2, 4, 9]) (by kernel_rfl) (by simp) ?_
    refine AllReadyH.cons rfl (fun K hK => ?_) (AllReadyH.cons rfl (fun K hK => ?_) (AllReadyH.cons rfl (fun K hK => ?_) AllReadyH.nil))
    · try simp only [Act.put, List.getElem_toArray, List.getElem_cons_succ, List.getElem_cons_zero, List.setIfInBounds_toArray, List.set_cons_zero, List.set_cons_succ]
      go_simp
      go_at_call 71
      refine (HC1.out _ BD.out).mono ?_
      rintro e e1 ⟨A51, c51, rfl, oo1, s1⟩
      have z1 := s1.size
      have X_1 := hide (XD.out.below s1 (by have := XD.out.lt; omega))
      have O1_1 := hide ((OR.of oo1 : OR e1 wd.heap.size e1.heap.size _ P))
      clear oo1
      have B_1 := hide (BD.out.trans (s1.mono (by have := BD.out.size; omega)))
      dsimp only
      refine hK.out _ _ (⟨X_1.out.cell 0, X_1.out.cell 1⟩) (fun hHeld => ?_)
      clear hK K
      try simp only [Act.put, List.getElem_toArray, List.getElem_cons_succ, List.getElem_cons_zero, List.setIfInBounds_toArray, List.set_cons_zero, List.set_cons_succ]
      refine wpAnyH_ready (rs := [4, 9]) (by kernel_rfl) (by simp) ?_
      refine AllReadyH.cons rfl (fun K hK => ?_) (AllReadyH.cons rfl (fun K hK => ?_) AllReadyH.nil)
      · try simp only [Act.put, List.getElem_toArray, List.getElem_cons_succ, List.getElem_cons_zero, List.setIfInBounds_toArray, List.set_cons_zero, List.set_cons_succ]
        go_simp
        have s2 : Below e1.heap.size e1 (e1.alloc (.cells #[.int .i64 (j : Int)] 2)) := (Below.refl _ _).alloc (Nat.le_refl _) _
        have z2 : e1.heap.size + 1 = (e1.alloc (.cells #[.int .i64 (j : Int)] 2)).heap.size := by simp
        have O1_2 := hide (O1_1.out.below s2 (by omega))
        have X_2 := hide (X_1.out.below s2 (by have := X_1.out.lt; omega))
        have G1_2 := hide (BoxN.new e1 #[.int .i64 (j : Int)] 2)
        have B_2 := hide (B_1.out.trans (s2.mono (by have := B_1.out.size; omega)))
        refine hK.out _ _ (⟨X_2.out.cell 0, X_2.out.cell 1⟩) (fun hHeld => ?_)
        clear hK K
        try simp only [Act.put, List.getElem_toArray, List.getElem_cons_succ, List.getElem_cons_zero, List.setIfInBounds_toArray, List.set_cons_zero, List.set_cons_succ]
        generalize (e1.alloc (.cells #[.int .i64 (j : Int)] 2)) = e2 at *
        refine wpAnyH_ready (rs := [5, 9]) (by kernel_rfl) (by simp) ?_
        refine AllReadyH.cons rfl (fun K hK => ?_) (AllReadyH.cons rfl (fun K hK => ?_) AllReadyH.nil)
        · try simp only [Act.put, List.getElem_toArray, List.getElem_cons_succ, List.getElem_cons_zero, List.setIfInBounds_toArray, List.set_cons_zero, List.set_cons_succ]
          rw [if_pos (by rfl)]
          have zb3 := B_2.out.size
          have own3 := O1_2.out.own
          have rd3 := box_rd G1_2.out
          refine op_app' _ _ _ 22 rfl (wd.heap.size) 2 i0 (.int .i64 0) 1 8 Try.underlying22 hi0 hz0 hs0 hb0 rfl (by decide) _ P.length (P.map (Value.int .i64)) rfl own3 _ _ 1 1 [.int .i64 (j : Int)] rfl rfl rd3 (int_one _) (by omega) (by decide) (by omega) ?_
          intro v3 e3 oo3 gg3 _
          have on3 := O1_2.out.grow gg3
          have z3 := on3.size
          have B_3 := hide (B_2.out.trans ((on3.below (B := wd.heap.size) (Nat.le_refl _) (by omega)).mono (by omega)))
          have X_3 := hide (X_2.out.only on3 (by omega))
          obtain ⟨A53, c53, rfl, _⟩ := own_shape oo3
          have O1_3 : Hid (OR e3 (wd.heap.size) e3.heap.size (.slice A53 (P.length + 1) c53) (P ++ [(j : Int)])) := by
            refine ⟨?_, fun g hg => (oo3.lt g hg).2⟩
            rw [HL6.out, List.map_append]; exact oo3
          clear oo3 own3 rd3
          dsimp only
          refine hK.out _ _ (⟨X_3.out.cell 0, X_3.out.cell 1⟩) (fun hHeld => ?_)
          clear hK K
          try simp only [Act.put, List.getElem_toArray, List.getElem_cons_succ, List.getElem_cons_zero, List.setIfInBounds_toArray, List.set_cons_zero, List.set_cons_succ]
          refine wpAnyH_ready (rs := [7, 9]) (by kernel_rfl) (by simp) ?_
          refine AllReadyH.cons rfl (fun K hK => ?_) (AllReadyH.cons rfl (fun K hK => ?_) AllReadyH.nil)
          · try simp only [Act.put, List.getElem_toArray, List.getElem_cons_succ, List.getElem_cons_zero, List.setIfInBounds_toArray, List.set_cons_zero, List.set_cons_succ]
            go_simp
            go_at_call 71
            refine (HC2.out _ B_3.out).mono ?_
            rintro e e4 ⟨A54, c54, rfl, oo4, s4⟩
            have z4 := s4.size
            have O1_4 := hide (O1_3.out.below s4 (by omega))
            have X_4 := hide (X_3.out.below s4 (by have := X_3.out.lt; omega))
            have O2_4 := hide ((OR.of oo4 : OR e4 e3.heap.size e4.heap.size _ S))
            clear oo4
            have B_4 := hide (B_3.out.trans (s4.mono (by have := B_3.out.size; omega)))
            dsimp only
            refine hK.out _ _ (⟨X_4.out.cell 0, X_4.out.cell 1⟩) (fun hHeld => ?_)
            clear hK K
            try simp only [Act.put, List.getElem_toArray, List.getElem_cons_succ, List.getElem_cons_zero, List.setIfInBounds_toArray, List.set_cons_zero, List.set_cons_succ]
            refine wpAnyH_ready (rs := [9]) (by kernel_rfl) (by simp) ?_
            refine AllReadyH.cons rfl (fun K hK => ?_) AllReadyH.nil
            try simp only [Act.put, List.getElem_toArray, List.getElem_cons_succ, List.getElem_cons_zero, List.setIfInBounds_toArray, List.set_cons_zero, List.set_cons_succ]
            go_simp
            have s5 : Below e4.heap.size e4 (e4.alloc (.cells #[.int .i64 (a : Int)] 2)) := (Below.refl _ _).alloc (Nat.le_refl _) _
            have z5 : e4.heap.size + 1 = (e4.alloc (.cells #[.int .i64 (a : Int)] 2)).heap.size := by simp
            have O1_5 := hide (O1_4.out.below s5 (by omega))
            have O2_5 := hide (O2_4.out.below s5 (by omega))
            have X_5 := hide (X_4.out.below s5 (by have := X_4.out.lt; omega))
            have G2_5 := hide (BoxN.new e4 #[.int .i64 (a : Int)] 2)
            have B_5 := hide (B_4.out.trans (s5.mono (by have := B_4.out.size; omega)))
            refine hK.out _ _ (⟨X_5.out.cell 0, X_5.out.cell 1⟩) (fun hHeld => ?_)
            clear hK K
            try simp only [Act.put, List.getElem_toArray, List.getElem_cons_succ, List.getElem_cons_zero, List.setIfInBounds_toArray, List.set_cons_zero, List.set_cons_succ]
            generalize (e4.alloc (.cells #[.int .i64 (a : Int)] 2)) = e5 at *
            refine wpAnyH_ready (rs := [10]) (by kernel_rfl) (by simp) ?_
            refine AllReadyH.cons rfl (fun K hK => ?_) AllReadyH.nil
            try simp only [Act.put, List.getElem_toArray, List.getElem_cons_succ, List.getElem_cons_zero, List.setIfInBounds_toArray, List.set_cons_zero, List.set_cons_succ]
            rw [if_pos (by rfl)]
            have zb6 := B_5.out.size
            have own6 := O2_5.out.own
            have rd6 := box_rd G2_5.out
            refine op_app' _ _ _ 22 rfl (e3.heap.size) 2 i0 (.int .i64 0) 1 8 Try.underlying22 hi0 hz0 hs0 hb0 rfl (by decide) _ S.length (S.map (Value.int .i64)) rfl own6 _ _ 1 1 [.int .i64 (a : Int)] rfl rfl rd6 (int_one _) (by omega) (by decide) (by omega) ?_
            intro v6 e6 oo6 gg6 _
            have on6 := O2_5.out.grow gg6
            have z6 := on6.size
            have B_6 := hide (B_5.out.trans ((on6.below (B := e3.heap.size) (Nat.le_refl _) (by omega)).mono (by omega)))
            have O1_6 := hide (O1_5.out.only on6 (by omega))
            have X_6 := hide (X_5.out.only on6 (by omega))
            obtain ⟨A56, c56, rfl, _⟩ := own_shape oo6
            have O2_6 : Hid (OR e6 (e3.heap.size) e6.heap.size (.slice A56 (S.length + 1) c56) (S ++ [(a : Int)])) := by
              refine ⟨?_, fun g hg => (oo6.lt g hg).2⟩
              rw [HL7.out, List.map_append]; exact oo6
            clear oo6 own6 rd6
            dsimp only
            refine hK.out _ _ (⟨X_6.out.cell 0, X_6.out.cell 1⟩) (fun hHeld => ?_)
            clear hK K
            try simp only [Act.put, List.getElem_toArray, List.getElem_cons_succ, List.getElem_cons_zero, List.setIfInBounds_toArray, List.set_cons_zero, List.set_cons_succ]
            refine wpAnyH_ready (rs := [14]) (by kernel_rfl) (by simp) ?_
            refine AllReadyH.cons rfl (fun K hK => ?_) AllReadyH.nil
            try simp only [Act.put, List.getElem_toArray, List.getElem_cons_succ, List.getElem_cons_zero, List.setIfInBounds_toArray, List.set_cons_zero, List.set_cons_succ]
            go_simp
            have zb7 := B_6.out.size
            go_at_call 84
            refine (HREC.out e6 A53 c53 A56 c56 B_6.out (by have h := O1_6.out.o (lo' := pb + 3) (by omega) (by omega) (by rw [HL6.out]; omega); exact h) (by have h := O2_6.out.o (lo' := pb + 3) (by omega) (by omega) (by rw [HL7.out]; omega); exact h)).mono ?_
            rintro e e7 ⟨rfl, ii7, on7⟩
            have X_7 := hide (X_6.out.only on7 (.inr (by omega)))
            dsimp only
            refine hK.out _ _ (⟨X_7.out.cell 0, X_7.out.cell 1⟩) (fun hHeld => ?_)
            clear hK K
            try simp only [Act.put, List.getElem_toArray, List.getElem_cons_succ, List.getElem_cons_zero, List.setIfInBounds_toArray, List.set_cons_zero, List.set_cons_succ]
            refine wpAnyH_done (by kernel_rfl) ?_ _
            go_wp2_with fail
            go_roundg (ts.length - (k + 1))
            case measure => have := hgk.out; omega
            case rel => exact ⟨k + 1, _, by omega, rfl, by go_num, HQ2, hide ii7, hide (only_trans O4.out (only_trans (only_of_below B_6.out) on7))⟩
          · try simp only [Act.put, List.getElem_toArray, List.getElem_cons_succ, List.getElem_cons_zero, List.setIfInBounds_toArray, List.set_cons_zero, List.set_cons_succ]
            go_simp
            have s8 : Below e3.heap.size e3 (e3.alloc (.cells #[.int .i64 (a : Int)] 2)) := (Below.refl _ _).alloc (Nat.le_refl _) _
            have z8 : e3.heap.size + 1 = (e3.alloc (.cells #[.int .i64 (a : Int)] 2)).heap.size := by simp
            have O1_8 := hide (O1_3.out.below s8 (by omega))
            have X_8 := hide (X_3.out.below s8 (by have := X_3.out.lt; omega))
            have G2_8 := hide (BoxN.new e3 #[.int .i64 (a : Int)] 2)
            have B_8 := hide (B_3.out.trans (s8.mono (by have := B_3.out.size; omega)))
            refine hK.out _ _ (⟨X_8.out.cell 0, X_8.out.cell 1⟩) (fun hHeld => ?_)
            clear hK K
            try simp only [Act.put, List.getElem_toArray, List.getElem_cons_succ, List.getElem_cons_zero, List.setIfInBounds_toArray, List.set_cons_zero, List.set_cons_succ]
            generalize (e3.alloc (.cells #[.int .i64 (a : Int)] 2)) = e8 at *
            refine wpAnyH_ready (rs := [7]) (by kernel_rfl) (by simp) ?_
            refine AllReadyH.cons rfl (fun K hK => ?_) AllReadyH.nil
            try simp only [Act.put, List.getElem_toArray, List.getElem_cons_succ, List.getElem_cons_zero, List.setIfInBounds_toArray, List.set_cons_zero, List.set_cons_succ]
            go_simp
            go_at_call 71
            refine (HC2.out _ B_8.out).mono ?_
            rintro e e9 ⟨A59, c59, rfl, oo9, s9⟩
            have z9 := s9.size
            have O1_9 := hide (O1_8.out.below s9 (by omega))
            have G2_9 := hide (G2_8.out.below s9 (by have := G2_8.out.lt; omega))
            have X_9 := hide (X_8.out.below s9 (by have := X_8.out.lt; omega))
            have O2_9 := hide ((OR.of oo9 : OR e9 e8.heap.size e9.heap.size _ S))
            clear oo9
            have B_9 := hide (B_8.out.trans (s9.mono (by have := B_8.out.size; omega)))
            dsimp only
            refine hK.out _ _ (⟨X_9.out.cell 0, X_9.out.cell 1⟩) (fun hHeld => ?_)
            clear hK K
            try simp only [Act.put, List.getElem_toArray, List.getElem_cons_succ, List.getElem_cons_zero, List.setIfInBounds_toArray, List.set_cons_zero, List.set_cons_succ]
            refine wpAnyH_ready (rs := [10]) (by kernel_rfl) (by simp) ?_
            refine AllReadyH.cons rfl (fun K hK => ?_) AllReadyH.nil
            try simp only [Act.put, List.getElem_toArray, List.getElem_cons_succ, List.getElem_cons_zero, List.setIfInBounds_toArray, List.set_cons_zero, List.set_cons_succ]
            rw [if_pos (by rfl)]
            have zb10 := B_9.out.size
            have own10 := O2_9.out.own
            have rd10 := box_rd G2_9.out
            refine op_app' _ _ _ 22 rfl (e8.heap.size) 2 i0 (.int .i64 0) 1 8 Try.underlying22 hi0 hz0 hs0 hb0 rfl (by decide) _ S.length (S.map (Value.int .i64)) rfl own10 _ _ 1 1 [.int .i64 (a : Int)] rfl rfl rd10 (int_one _) (by omega) (by decide) (by omega) ?_
            intro v10 e10 oo10 gg10 _
            have on10 := O2_9.out.grow gg10
            have z10 := on10.size
            have B_10 := hide (B_9.out.trans ((on10.below (B := e8.heap.size) (Nat.le_refl _) (by omega)).mono (by omega)))
            have O1_10 := hide (O1_9.out.only on10 (by omega))
            have X_10 := hide (X_9.out.only on10 (by omega))
            obtain ⟨A60, c60, rfl, _⟩ := own_shape oo10
            have O2_10 : Hid (OR e10 (e8.heap.size) e10.heap.size (.slice A60 (S.length + 1) c60) (S ++ [(a : Int)])) := by
              refine ⟨?_, fun g hg => (oo10.lt g hg).2⟩
              rw [HL7.out, List.map_append]; exact oo10
            clear oo10 own10 rd10
            dsimp only
            refine hK.out _ _ (⟨X_10.out.cell 0, X_10.out.cell 1⟩) (fun hHeld => ?_)
            clear hK K
            try simp only [Act.put, List.getElem_toArray, List.getElem_cons_succ, List.getElem_cons_zero, List.setIfInBounds_toArray, List.set_cons_zero, List.set_cons_succ]
            refine wpAnyH_ready (rs := [14]) (by kernel_rfl) (by simp) ?_
            refine AllReadyH.cons rfl (fun K hK => ?_) AllReadyH.nil
            try simp only [Act.put, List.getElem_toArray, List.getElem_cons_succ, List.getElem_cons_zero, List.setIfInBounds_toArray, List.set_cons_zero, List.set_cons_succ]
            go_simp
            have zb11 := B_10.out.size
            go_at_call 84
            refine (HREC.out e10 A53 c53 A60 c60 B_10.out (by have h := O1_10.out.o (lo' := pb + 3) (by omega) (by omega) (by rw [HL6.out]; omega); exact h) (by have h := O2_10.out.o (lo' := pb + 3) (by omega) (by omega) (by rw [HL7.out]; omega); exact h)).mono ?_
            rintro e e11 ⟨rfl, ii11, on11⟩
            have X_11 := hide (X_10.out.only on11 (.inr (by omega)))
            dsimp only
            refine hK.out _ _ (⟨X_11.out.cell 0, X_11.out.cell 1⟩) (fun hHeld => ?_)
            clear hK K
            try simp only [Act.put, List.getElem_toArray, List.getElem_cons_succ, List.getElem_cons_zero, List.setIfInBounds_toArray, List.set_cons_zero, List.set_cons_succ]
            refine wpAnyH_done (by kernel_rfl) ?_ _
            go_wp2_with fail
            go_roundg (ts.length - (k + 1))
            case measure => have := hgk.out; omega
            case rel => exact ⟨k + 1, _, by omega, rfl, by go_num, HQ2, hide ii11, hide (only_trans O4.out (only_trans (only_of_below B_10.out) on11))⟩
        · try simp only [Act.put, List.getElem_toArray, List.getElem_cons_succ, List.getElem_cons_zero, List.setIfInBounds_toArray, List.set_cons_zero, List.set_cons_succ]
          go_simp
          have s12 : Below e2.heap.size e2 (e2.alloc (.cells #[.int .i64 (a : Int)] 2)) := (Below.refl _ _).alloc (Nat.le_refl _) _
          have z12 : e2.heap.size + 1 = (e2.alloc (.cells #[.int .i64 (a : Int)] 2)).heap.size := by simp
          have G1_12 := hide (G1_2.out.below s12 (by have := G1_2.out.lt; omega))
          have O1_12 := hide (O1_2.out.below s12 (by omega))
          have X_12 := hide (X_2.out.below s12 (by have := X_2.out.lt; omega))
          have G2_12 := hide (BoxN.new e2 #[.int .i64 (a : Int)] 2)
          have B_12 := hide (B_2.out.trans (s12.mono (by have := B_2.out.size; omega)))
          refine hK.out _ _ (⟨X_12.out.cell 0, X_12.out.cell 1⟩) (fun hHeld => ?_)
          clear hK K
          try simp only [Act.put, List.getElem_toArray, List.getElem_cons_succ, List.getElem_cons_zero, List.setIfInBounds_toArray, List.set_cons_zero, List.set_cons_succ]
          generalize (e2.alloc (.cells #[.int .i64 (a : Int)] 2)) = e12 at *
          refine wpAnyH_ready (rs := [5]) (by kernel_rfl) (by simp) ?_
          refine AllReadyH.cons rfl (fun K hK => ?_) AllReadyH.nil
          try simp only [Act.put, List.getElem_toArray, List.getElem_cons_succ, List.getElem_cons_zero, List.setIfInBounds_toArray, List.set_cons_zero, List.set_cons_succ]
          rw [if_pos (by rfl)]
          have zb13 := B_12.out.size
          have own13 := O1_12.out.own
          have rd13 := box_rd G1_12.out
          refine op_app' _ _ _ 22 rfl (wd.heap.size) 2 i0 (.int .i64 0) 1 8 Try.underlying22 hi0 hz0 hs0 hb0 rfl (by decide) _ P.length (P.map (Value.int .i64)) rfl own13 _ _ 1 1 [.int .i64 (j : Int)] rfl rfl rd13 (int_one _) (by omega) (by decide) (by omega) ?_
          intro v13 e13 oo13 gg13 _
          have on13 := O1_12.out.grow gg13
          have z13 := on13.size
          have B_13 := hide (B_12.out.trans ((on13.below (B := wd.heap.size) (Nat.le_refl _) (by omega)).mono (by omega)))
          have G2_13 := hide (G2_12.out.only on13 (by omega))
          have X_13 := hide (X_12.out.only on13 (by omega))
          obtain ⟨A63, c63, rfl, _⟩ := own_shape oo13
          have O1_13 : Hid (OR e13 (wd.heap.size) e13.heap.size (.slice A63 (P.length + 1) c63) (P ++ [(j : Int)])) := by
            refine ⟨?_, fun g hg => (oo13.lt g hg).2⟩
            rw [HL6.out, List.map_append]; exact oo13
          clear oo13 own13 rd13
          dsimp only
          refine hK.out _ _ (⟨X_13.out.cell 0, X_13.out.cell 1⟩) (fun hHeld => ?_)
          clear hK K
          try simp only [Act.put, List.getElem_toArray, List.getElem_cons_succ, List.getElem_cons_zero, List.setIfInBounds_toArray, List.set_cons_zero, List.set_cons_succ]
          refine wpAnyH_ready (rs := [7]) (by kernel_rfl) (by simp) ?_
          refine AllReadyH.cons rfl (fun K hK => ?_) AllReadyH.nil
          try simp only [Act.put, List.getElem_toArray, List.getElem_cons_succ, List.getElem_cons_zero, List.setIfInBounds_toArray, List.set_cons_zero, List.set_cons_succ]
          go_simp
          go_at_call 71
          refine (HC2.out _ B_13.out).mono ?_
          rintro e e14 ⟨A64, c64, rfl, oo14, s14⟩
          have z14 := s14.size
          have O1_14 := hide (O1_13.out.below s14 (by omega))
          have G2_14 := hide (G2_13.out.below s14 (by have := G2_13.out.lt; omega))
          have X_14 := hide (X_13.out.below s14 (by have := X_13.out.lt; omega))
          have O2_14 := hide ((OR.of oo14 : OR e14 e13.heap.size e14.heap.size _ S))
          clear oo14
          have B_14 := hide (B_13.out.trans (s14.mono (by have := B_13.out.size; omega)))
          dsimp only
          refine hK.out _ _ (⟨X_14.out.cell 0, X_14.out.cell 1⟩) (fun hHeld => ?_)
          clear hK K
          try simp only [Act.put, List.getElem_toArray, List.getElem_cons_succ, List.getElem_cons_zero, List.setIfInBounds_toArray, List.set_cons_zero, List.set_cons_succ]
          refine wpAnyH_ready (rs := [10]) (by kernel_rfl) (by simp) ?_
          refine AllReadyH.cons rfl (fun K hK => ?_) AllReadyH.nil
          try simp only [Act.put, List.getElem_toArray, List.getElem_cons_succ, List.getElem_cons_zero, List.setIfInBounds_toArray, List.set_cons_zero, List.set_cons_succ]
          rw [if_pos (by rfl)]
          have zb15 := B_14.out.size
          have own15 := O2_14.out.own
          have rd15 := box_rd G2_14.out
          refine op_app' _ _ _ 22 rfl (e13.heap.size) 2 i0 (.int .i64 0) 1 8 Try.underlying22 hi0 hz0 hs0 hb0 rfl (by decide) _ S.length (S.map (Value.int .i64)) rfl own15 _ _ 1 1 [.int .i64 (a : Int)] rfl rfl rd15 (int_one _) (by omega) (by decide) (by omega) ?_
          intro v15 e15 oo15 gg15 _
          have on15 := O2_14.out.grow gg15
          have z15 := on15.size
          have B_15 := hide (B_14.out.trans ((on15.below (B := e13.heap.size) (Nat.le_refl _) (by omega)).mono (by omega)))
          have O1_15 := hide (O1_14.out.only on15 (by omega))
          have X_15 := hide (X_14.out.only on15 (by omega))
          obtain ⟨A65, c65, rfl, _⟩ := own_shape oo15
          have O2_15 : Hid (OR e15 (e13.heap.size) e15.heap.size (.slice A65 (S.length + 1) c65) (S ++ [(a : Int)])) := by
            refine ⟨?_, fun g hg => (oo15.lt g hg).2⟩
            rw [HL7.out, List.map_append]; exact oo15
          clear oo15 own15 rd15
          dsimp only
          refine hK.out _ _ (⟨X_15.out.cell 0, X_15.out.cell 1⟩) (fun hHeld => ?_)
          clear hK K
          try simp only [Act.put, List.getElem_toArray, List.getElem_cons_succ, List.getElem_cons_zero, List.setIfInBounds_toArray, List.set_cons_zero, List.set_cons_succ]
          refine wpAnyH_ready (rs := [14]) (by kernel_rfl) (by simp) ?_
          refine AllReadyH.cons rfl (fun K hK => ?_) AllReadyH.nil
          try simp only [Act.put, List.getElem_toArray, List.getElem_cons_succ, List.getElem_cons_zero, List.setIfInBounds_toArray, List.set_cons_zero, List.set_cons_succ]
          go_simp
          have zb16 := B_15.out.size
          go_at_call 84
          refine (HREC.out e15 A63 c63 A65 c65 B_15.out (by have h := O1_15.out.o (lo' := pb + 3) (by omega) (by omega) (by rw [HL6.out]; omega); exact h) (by have h := O2_15.out.o (lo' := pb + 3) (by omega) (by omega) (by rw [HL7.out]; omega); exact h)).mono ?_
          rintro e e16 ⟨rfl, ii16, on16⟩
          have X_16 := hide (X_15.out.only on16 (.inr (by omega)))
          dsimp only
          refine hK.out _ _ (⟨X_16.out.cell 0, X_16.out.cell 1⟩) (fun hHeld => ?_)
          clear hK K
          try simp only [Act.put, List.getElem_toArray, List.getElem_cons_succ, List.getElem_cons_zero, List.setIfInBounds_toArray, List.set_cons_zero, List.set_cons_succ]
          refine wpAnyH_done (by kernel_rfl) ?_ _
          go_wp2_with fail
          go_roundg (ts.length - (k + 1))
          case measure => have := hgk.out; omega
          case rel => exact ⟨k + 1, _, by omega, rfl, by go_num, HQ2, hide ii16, hide (only_trans O4.out (only_trans (only_of_below B_15.out) on16))⟩
      · try simp only [Act.put, List.getElem_toArray, List.getElem_cons_succ, List.getElem_cons_zero, List.setIfInBounds_toArray, List.set_cons_zero, List.set_cons_succ]
        go_simp
        have s17 : Below e1.heap.size e1 (e1.alloc (.cells #[.int .i64 (a : Int)] 2)) := (Below.refl _ _).alloc (Nat.le_refl _) _
        have z17 : e1.heap.size + 1 = (e1.alloc (.cells #[.int .i64 (a : Int)] 2)).heap.size := by simp
        have O1_17 := hide (O1_1.out.below s17 (by omega))
        have X_17 := hide (X_1.out.below s17 (by have := X_1.out.lt; omega))
        have G2_17 := hide (BoxN.new e1 #[.int .i64 (a : Int)] 2)
        have B_17 := hide (B_1.out.trans (s17.mono (by have := B_1.out.size; omega)))
        refine hK.out _ _ (⟨X_17.out.cell 0, X_17.out.cell 1⟩) (fun hHeld => ?_)
        clear hK K
        try simp only [Act.put, List.getElem_toArray, List.getElem_cons_succ, List.getElem_cons_zero, List.setIfInBounds_toArray, List.set_cons_zero, List.set_cons_succ]
        generalize (e1.alloc (.cells #[.int .i64 (a : Int)] 2)) = e17 at *
        refine wpAnyH_ready (rs := [4]) (by kernel_rfl) (by simp) ?_
        refine AllReadyH.cons rfl (fun K hK => ?_) AllReadyH.nil
        try simp only [Act.put, List.getElem_toArray, List.getElem_cons_succ, List.getElem_cons_zero, List.setIfInBounds_toArray, List.set_cons_zero, List.set_cons_succ]
        go_simp
        have s18 : Below e17.heap.size e17 (e17.alloc (.cells #[.int .i64 (j : Int)] 2)) := (Below.refl _ _).alloc (Nat.le_refl _) _
        have z18 : e17.heap.size + 1 = (e17.alloc (.cells #[.int .i64 (j : Int)] 2)).heap.size := by simp
        have O1_18 := hide (O1_17.out.below s18 (by omega))
        have G2_18 := hide (G2_17.out.below s18 (by have := G2_17.out.lt; omega))
        have X_18 := hide (X_17.out.below s18 (by have := X_17.out.lt; omega))
        have G1_18 := hide (BoxN.new e17 #[.int .i64 (j : Int)] 2)
        have B_18 := hide (B_17.out.trans (s18.mono (by have := B_17.out.size; omega)))
        refine hK.out _ _ (⟨X_18.out.cell 0, X_18.out.cell 1⟩) (fun hHeld => ?_)
        clear hK K
        try simp only [Act.put, List.getElem_toArray, List.getElem_cons_succ, List.getElem_cons_zero, List.setIfInBounds_toArray, List.set_cons_zero, List.set_cons_succ]
        generalize (e17.alloc (.cells #[.int .i64 (j : Int)] 2)) = e18 at *
        refine wpAnyH_ready (rs := [5]) (by kernel_rfl) (by simp) ?_
        refine AllReadyH.cons rfl (fun K hK => ?_) AllReadyH.nil
        try simp only [Act.put, List.getElem_toArray, List.getElem_cons_succ, List.getElem_cons_zero, List.setIfInBounds_toArray, List.set_cons_zero, List.set_cons_succ]
        rw [if_pos (by rfl)]
        have zb19 := B_18.out.size
        have own19 := O1_18.out.own
        have rd19 := box_rd G1_18.out
        refine op_app' _ _ _ 22 rfl (wd.heap.size) 2 i0 (.int .i64 0) 1 8 Try.underlying22 hi0 hz0 hs0 hb0 rfl (by decide) _ P.length (P.map (Value.int .i64)) rfl own19 _ _ 1 1 [.int .i64 (j : Int)] rfl rfl rd19 (int_one _) (by omega) (by decide) (by omega) ?_
        intro v19 e19 oo19 gg19 _
        have on19 := O1_18.out.grow gg19
        have z19 := on19.size
        have B_19 := hide (B_18.out.trans ((on19.below (B := wd.heap.size) (Nat.le_refl _) (by omega)).mono (by omega)))
        have G2_19 := hide (G2_18.out.only on19 (by omega))
        have X_19 := hide (X_18.out.only on19 (by omega))
        obtain ⟨A69, c69, rfl, _⟩ := own_shape oo19
        have O1_19 : Hid (OR e19 (wd.heap.size) e19.heap.size (.slice A69 (P.length + 1) c69) (P ++ [(j : Int)])) := by
          refine ⟨?_, fun g hg => (oo19.lt g hg).2⟩
          rw [HL6.out, List.map_append]; exact oo19
        clear oo19 own19 rd19
        dsimp only
        refine hK.out _ _ (⟨X_19.out.cell 0, X_19.out.cell 1⟩) (fun hHeld => ?_)
        clear hK K
        try simp only [Act.put, List.getElem_toArray, List.getElem_cons_succ, List.getElem_cons_zero, List.setIfInBounds_toArray, List.set_cons_zero, List.set_cons_succ]
        refine wpAnyH_ready (rs := [7]) (by kernel_rfl) (by simp) ?_
        refine AllReadyH.cons rfl (fun K hK => ?_) AllReadyH.nil
        try simp only [Act.put, List.getElem_toArray, List.getElem_cons_succ, List.getElem_cons_zero, List.setIfInBounds_toArray, List.set_cons_zero, List.set_cons_succ]
        go_simp
        go_at_call 71
        refine (HC2.out _ B_19.out).mono ?_
        rintro e e20 ⟨A70, c70, rfl, oo20, s20⟩
        have z20 := s20.size
        have O1_20 := hide (O1_19.out.below s20 (by omega))
        have G2_20 := hide (G2_19.out.below s20 (by have := G2_19.out.lt; omega))
        have X_20 := hide (X_19.out.below s20 (by have := X_19.out.lt; omega))
        have O2_20 := hide ((OR.of oo20 : OR e20 e19.heap.size e20.heap.size _ S))
        clear oo20
        have B_20 := hide (B_19.out.trans (s20.mono (by have := B_19.out.size; omega)))
        dsimp only
        refine hK.out _ _ (⟨X_20.out.cell 0, X_20.out.cell 1⟩) (fun hHeld => ?_)
        clear hK K
        try simp only [Act.put, List.getElem_toArray, List.getElem_cons_succ, List.getElem_cons_zero, List.setIfInBounds_toArray, List.set_cons_zero, List.set_cons_succ]
        refine wpAnyH_ready (rs := [10]) (by kernel_rfl) (by simp) ?_
        refine AllReadyH.cons rfl (fun K hK => ?_) AllReadyH.nil
        try simp only [Act.put, List.getElem_toArray, List.getElem_cons_succ, List.getElem_cons_zero, List.setIfInBounds_toArray, List.set_cons_zero, List.set_cons_succ]
        rw [if_pos (by rfl)]
        have zb21 := B_20.out.size
        have own21 := O2_20.out.own
        have rd21 := box_rd G2_20.out
        refine op_app' _ _ _ 22 rfl (e19.heap.size) 2 i0 (.int .i64 0) 1 8 Try.underlying22 hi0 hz0 hs0 hb0 rfl (by decide) _ S.length (S.map (Value.int .i64)) rfl own21 _ _ 1 1 [.int .i64 (a : Int)] rfl rfl rd21 (int_one _) (by omega) (by decide) (by omega) ?_
        intro v21 e21 oo21 gg21 _
        have on21 := O2_20.out.grow gg21
        have z21 := on21.size
        have B_21 := hide (B_20.out.trans ((on21.below (B := e19.heap.size) (Nat.le_refl _) (by omega)).mono (by omega)))
        have O1_21 := hide (O1_20.out.only on21 (by omega))
        have X_21 := hide (X_20.out.only on21 (by omega))
        obtain ⟨A71, c71, rfl, _⟩ := own_shape oo21
        have O2_21 : Hid (OR e21 (e19.heap.size) e21.heap.size (.slice A71 (S.length + 1) c71) (S ++ [(a : Int)])) := by
          refine ⟨?_, fun g hg => (oo21.lt g hg).2⟩
          rw [HL7.out, List.map_append]; exact oo21
        clear oo21 own21 rd21
        dsimp only
        refine hK.out _ _ (⟨X_21.out.cell 0, X_21.out.cell 1⟩) (fun hHeld => ?_)
        clear hK K
        try simp only [Act.put, List.getElem_toArray, List.getElem_cons_succ, List.getElem_cons_zero, List.setIfInBounds_toArray, List.set_cons_zero, List.set_cons_succ]
        refine wpAnyH_ready (rs := [14]) (by kernel_rfl) (by simp) ?_
        refine AllReadyH.cons rfl (fun K hK => ?_) AllReadyH.nil
        try simp only [Act.put, List.getElem_toArray, List.getElem_cons_succ, List.getElem_cons_zero, List.setIfInBounds_toArray, List.set_cons_zero, List.set_cons_succ]
        go_simp
        have zb22 := B_21.out.size
        go_at_call 84
        refine (HREC.out e21 A69 c69 A71 c71 B_21.out (by have h := O1_21.out.o (lo' := pb + 3) (by omega) (by omega) (by rw [HL6.out]; omega); exact h) (by have h := O2_21.out.o (lo' := pb + 3) (by omega) (by omega) (by rw [HL7.out]; omega); exact h)).mono ?_
        rintro e e22 ⟨rfl, ii22, on22⟩
        have X_22 := hide (X_21.out.only on22 (.inr (by omega)))
        dsimp only
        refine hK.out _ _ (⟨X_22.out.cell 0, X_22.out.cell 1⟩) (fun hHeld => ?_)
        clear hK K
        try simp only [Act.put, List.getElem_toArray, List.getElem_cons_succ, List.getElem_cons_zero, List.setIfInBounds_toArray, List.set_cons_zero, List.set_cons_succ]
        refine wpAnyH_done (by kernel_rfl) ?_ _
        go_wp2_with fail
        go_roundg (ts.length - (k + 1))
        case measure => have := hgk.out; omega
        case rel => exact ⟨k + 1, _, by omega, rfl, by go_num, HQ2, hide ii22, hide (only_trans O4.out (only_trans (only_of_below B_21.out) on22))⟩
    · try simp only [Act.put, List.getElem_toArray, List.getElem_cons_succ, List.getElem_cons_zero, List.setIfInBounds_toArray, List.set_cons_zero, List.set_cons_succ]
      go_simp
      have s23 : Below wd.heap.size wd (wd.alloc (.cells #[.int .i64 (j : Int)] 2)) := (Below.refl _ _).alloc (Nat.le_refl _) _
      have z23 : wd.heap.size + 1 = (wd.alloc (.cells #[.int .i64 (j : Int)] 2)).heap.size := by simp
      have X_23 := hide (XD.out.below s23 (by have := XD.out.lt; omega))
      have G1_23 := hide (BoxN.new wd #[.int .i64 (j : Int)] 2)
      have B_23 := hide (BD.out.trans (s23.mono (by have := BD.out.size; omega)))
      refine hK.out _ _ (⟨X_23.out.cell 0, X_23.out.cell 1⟩) (fun hHeld => ?_)
      clear hK K
      try simp only [Act.put, List.getElem_toArray, List.getElem_cons_succ, List.getElem_cons_zero, List.setIfInBounds_toArray, List.set_cons_zero, List.set_cons_succ]
      generalize (wd.alloc (.cells #[.int .i64 (j : Int)] 2)) = e23 at *
      refine wpAnyH_ready (rs := [2, 9]) (by kernel_rfl) (by simp) ?_
      refine AllReadyH.cons rfl (fun K hK => ?_) (AllReadyH.cons rfl (fun K hK => ?_) AllReadyH.nil)
      · try simp only [Act.put, List.getElem_toArray, List.getElem_cons_succ, List.getElem_cons_zero, List.setIfInBounds_toArray, List.set_cons_zero, List.set_cons_succ]
        go_simp
        go_at_call 71
        refine (HC1.out _ B_23.out).mono ?_
        rintro e e24 ⟨A74, c74, rfl, oo24, s24⟩
        have z24 := s24.size
        have G1_24 := hide (G1_23.out.below s24 (by have := G1_23.out.lt; omega))
        have X_24 := hide (X_23.out.below s24 (by have := X_23.out.lt; omega))
        have O1_24 := hide ((OR.of oo24 : OR e24 e23.heap.size e24.heap.size _ P))
        clear oo24
        have B_24 := hide (B_23.out.trans (s24.mono (by have := B_23.out.size; omega)))
        dsimp only
        refine hK.out _ _ (⟨X_24.out.cell 0, X_24.out.cell 1⟩) (fun hHeld => ?_)
        clear hK K
        try simp only [Act.put, List.getElem_toArray, List.getElem_cons_succ, List.getElem_cons_zero, List.setIfInBounds_toArray, List.set_cons_zero, List.set_cons_succ]
        refine wpAnyH_ready (rs := [5, 9]) (by kernel_rfl) (by simp) ?_
        refine AllReadyH.cons rfl (fun K hK => ?_) (AllReadyH.cons rfl (fun K hK => ?_) AllReadyH.nil)
        · try simp only [Act.put, List.getElem_toArray, List.getElem_cons_succ, List.getElem_cons_zero, List.setIfInBounds_toArray, List.set_cons_zero, List.set_cons_succ]
          rw [if_pos (by rfl)]
          have zb25 := B_24.out.size
          have own25 := O1_24.out.own
          have rd25 := box_rd G1_24.out
          refine op_app' _ _ _ 22 rfl (e23.heap.size) 2 i0 (.int .i64 0) 1 8 Try.underlying22 hi0 hz0 hs0 hb0 rfl (by decide) _ P.length (P.map (Value.int .i64)) rfl own25 _ _ 1 1 [.int .i64 (j : Int)] rfl rfl rd25 (int_one _) (by omega) (by decide) (by omega) ?_
          intro v25 e25 oo25 gg25 _
          have on25 := O1_24.out.grow gg25
          have z25 := on25.size
          have B_25 := hide (B_24.out.trans ((on25.below (B := e23.heap.size) (Nat.le_refl _) (by omega)).mono (by omega)))
          have X_25 := hide (X_24.out.only on25 (by omega))
          obtain ⟨A75, c75, rfl, _⟩ := own_shape oo25
          have O1_25 : Hid (OR e25 (e23.heap.size) e25.heap.size (.slice A75 (P.length + 1) c75) (P ++ [(j : Int)])) := by
            refine ⟨?_, fun g hg => (oo25.lt g hg).2⟩
            rw [HL6.out, List.map_append]; exact oo25
          clear oo25 own25 rd25
          dsimp only
          refine hK.out _ _ (⟨X_25.out.cell 0, X_25.out.cell 1⟩) (fun hHeld => ?_)
          clear hK K
          try simp only [Act.put, List.getElem_toArray, List.getElem_cons_succ, List.getElem_cons_zero, List.setIfInBounds_toArray, List.set_cons_zero, List.set_cons_succ]
          refine wpAnyH_ready (rs := [7, 9]) (by kernel_rfl) (by simp) ?_
          refine AllReadyH.cons rfl (fun K hK => ?_) (AllReadyH.cons rfl (fun K hK => ?_) AllReadyH.nil)
          · try simp only [Act.put, List.getElem_toArray, List.getElem_cons_succ, List.getElem_cons_zero, List.setIfInBounds_toArray, List.set_cons_zero, List.set_cons_succ]
            go_simp
            go_at_call 71
            refine (HC2.out _ B_25.out).mono ?_
            rintro e e26 ⟨A76, c76, rfl, oo26, s26⟩
            have z26 := s26.size
            have O1_26 := hide (O1_25.out.below s26 (by omega))
            have X_26 := hide (X_25.out.below s26 (by have := X_25.out.lt; omega))
            have O2_26 := hide ((OR.of oo26 : OR e26 e25.heap.size e26.heap.size _ S))
            clear oo26
            have B_26 := hide (B_25.out.trans (s26.mono (by have := B_25.out.size; omega)))
            dsimp only
            refine hK.out _ _ (⟨X_26.out.cell 0, X_26.out.cell 1⟩) (fun hHeld => ?_)
            clear hK K
            try simp only [Act.put, List.getElem_toArray, List.getElem_cons_succ, List.getElem_cons_zero, List.setIfInBounds_toArray, List.set_cons_zero, List.set_cons_succ]
            refine wpAnyH_ready (rs := [9]) (by kernel_rfl) (by simp) ?_
            refine AllReadyH.cons rfl (fun K hK => ?_) AllReadyH.nil
            try simp only [Act.put, List.getElem_toArray, List.getElem_cons_succ, List.getElem_cons_zero, List.setIfInBounds_toArray, List.set_cons_zero, List.set_cons_succ]
            go_simp
            have s27 : Below e26.heap.size e26 (e26.alloc (.cells #[.int .i64 (a : Int)] 2)) := (Below.refl _ _).alloc (Nat.le_refl _) _
            have z27 : e26.heap.size + 1 = (e26.alloc (.cells #[.int .i64 (a : Int)] 2)).heap.size := by simp
            have O1_27 := hide (O1_26.out.below s27 (by omega))
            have O2_27 := hide (O2_26.out.below s27 (by omega))
            have X_27 := hide (X_26.out.below s27 (by have := X_26.out.lt; omega))
            have G2_27 := hide (BoxN.new e26 #[.int .i64 (a : Int)] 2)
            have B_27 := hide (B_26.out.trans (s27.mono (by have := B_26.out.size; omega)))
            refine hK.out _ _ (⟨X_27.out.cell 0, X_27.out.cell 1⟩) (fun hHeld => ?_)
            clear hK K
            try simp only [Act.put, List.getElem_toArray, List.getElem_cons_succ, List.getElem_cons_zero, List.setIfInBounds_toArray, List.set_cons_zero, List.set_cons_succ]
            generalize (e26.alloc (.cells #[.int .i64 (a : Int)] 2)) = e27 at *
            refine wpAnyH_ready (rs := [10]) (by kernel_rfl) (by simp) ?_
            refine AllReadyH.cons rfl (fun K hK => ?_) AllReadyH.nil
            try simp only [Act.put, List.getElem_toArray, List.getElem_cons_succ, List.getElem_cons_zero, List.setIfInBounds_toArray, List.set_cons_zero, List.set_cons_succ]
            rw [if_pos (by rfl)]
            have zb28 := B_27.out.size
            have own28 := O2_27.out.own
            have rd28 := box_rd G2_27.out
            refine op_app' _ _ _ 22 rfl (e25.heap.size) 2 i0 (.int .i64 0) 1 8 Try.underlying22 hi0 hz0 hs0 hb0 rfl (by decide) _ S.length (S.map (Value.int .i64)) rfl own28 _ _ 1 1 [.int .i64 (a : Int)] rfl rfl rd28 (int_one _) (by omega) (by decide) (by omega) ?_
            intro v28 e28 oo28 gg28 _
            have on28 := O2_27.out.grow gg28
            have z28 := on28.size
            have B_28 := hide (B_27.out.trans ((on28.below (B := e25.heap.size) (Nat.le_refl _) (by omega)).mono (by omega)))
            have O1_28 := hide (O1_27.out.only on28 (by omega))
            have X_28 := hide (X_27.out.only on28 (by omega))
            obtain ⟨A78, c78, rfl, _⟩ := own_shape oo28
            have O2_28 : Hid (OR e28 (e25.heap.size) e28.heap.size (.slice A78 (S.length + 1) c78) (S ++ [(a : Int)])) := by
              refine ⟨?_, fun g hg => (oo28.lt g hg).2⟩
              rw [HL7.out, List.map_append]; exact oo28
            clear oo28 own28 rd28
            dsimp only
            refine hK.out _ _ (⟨X_28.out.cell 0, X_28.out.cell 1⟩) (fun hHeld => ?_)
            clear hK K
            try simp only [Act.put, List.getElem_toArray, List.getElem_cons_succ, List.getElem_cons_zero, List.setIfInBounds_toArray, List.set_cons_zero, List.set_cons_succ]
            refine wpAnyH_ready (rs := [14]) (by kernel_rfl) (by simp) ?_
            refine AllReadyH.cons rfl (fun K hK => ?_) AllReadyH.nil
            try simp only [Act.put, List.getElem_toArray, List.getElem_cons_succ, List.getElem_cons_zero, List.setIfInBounds_toArray, List.set_cons_zero, List.set_cons_succ]
            go_simp
            have zb29 := B_28.out.size
            go_at_call 84
            refine (HREC.out e28 A75 c75 A78 c78 B_28.out (by have h := O1_28.out.o (lo' := pb + 3) (by omega) (by omega) (by rw [HL6.out]; omega); exact h) (by have h := O2_28.out.o (lo' := pb + 3) (by omega) (by omega) (by rw [HL7.out]; omega); exact h)).mono ?_
            rintro e e29 ⟨rfl, ii29, on29⟩
            have X_29 := hide (X_28.out.only on29 (.inr (by omega)))
            dsimp only
            refine hK.out _ _ (⟨X_29.out.cell 0, X_29.out.cell 1⟩) (fun hHeld => ?_)
            clear hK K
            try simp only [Act.put, List.getElem_toArray, List.getElem_cons_succ, List.getElem_cons_zero, List.setIfInBounds_toArray, List.set_cons_zero, List.set_cons_succ]
            refine wpAnyH_done (by kernel_rfl) ?_ _
            go_wp2_with fail
            go_roundg (ts.length - (k + 1))
            case measure => have := hgk.out; omega
            case rel => exact ⟨k + 1, _, by omega, rfl, by go_num, HQ2, hide ii29, hide (only_trans O4.out (only_trans (only_of_below B_28.out) on29))⟩
          · try simp only [Act.put, List.getElem_toArray, List.getElem_cons_succ, List.getElem_cons_zero, List.setIfInBounds_toArray, List.set_cons_zero, List.set_cons_succ]
            go_simp
            have s30 : Below e25.heap.size e25 (e25.alloc (.cells #[.int .i64 (a : Int)] 2)) := (Below.refl _ _).alloc (Nat.le_refl _) _
            have z30 : e25.heap.size + 1 = (e25.alloc (.cells #[.int .i64 (a : Int)] 2)).heap.size := by simp
            have O1_30 := hide (O1_25.out.below s30 (by omega))
            have X_30 := hide (X_25.out.below s30 (by have := X_25.out.lt; omega))
            have G2_30 := hide (BoxN.new e25 #[.int .i64 (a : Int)] 2)
            have B_30 := hide (B_25.out.trans (s30.mono (by have := B_25.out.size; omega)))
            refine hK.out _ _ (⟨X_30.out.cell 0, X_30.out.cell 1⟩) (fun hHeld => ?_)
            clear hK K
            try simp only [Act.put, List.getElem_toArray, List.getElem_cons_succ, List.getElem_cons_zero, List.setIfInBounds_toArray, List.set_cons_zero, List.set_cons_succ]
            generalize (e25.alloc (.cells #[.int .i64 (a : Int)] 2)) = e30 at *
            refine wpAnyH_ready (rs := [7]) (by kernel_rfl) (by simp) ?_
            refine AllReadyH.cons rfl (fun K hK => ?_) AllReadyH.nil
            try simp only [Act.put, List.getElem_toArray, List.getElem_cons_succ, List.getElem_cons_zero, List.setIfInBounds_toArray, List.set_cons_zero, List.set_cons_succ]
            go_simp
            go_at_call 71
            refine (HC2.out _ B_30.out).mono ?_
            rintro e e31 ⟨A81, c81, rfl, oo31, s31⟩
            have z31 := s31.size
            have O1_31 := hide (O1_30.out.below s31 (by omega))
            have G2_31 := hide (G2_30.out.below s31 (by have := G2_30.out.lt; omega))
            have X_31 := hide (X_30.out.below s31 (by have := X_30.out.lt; omega))
            have O2_31 := hide ((OR.of oo31 : OR e31 e30.heap.size e31.heap.size _ S))
            clear oo31
            have B_31 := hide (B_30.out.trans (s31.mono (by have := B_30.out.size; omega)))
            dsimp only
            refine hK.out _ _ (⟨X_31.out.cell 0, X_31.out.cell 1⟩) (fun hHeld => ?_)
            clear hK K
            try simp only [Act.put, List.getElem_toArray, List.getElem_cons_succ, List.getElem_cons_zero, List.setIfInBounds_toArray, List.set_cons_zero, List.set_cons_succ]
            refine wpAnyH_ready (rs := [10]) (by kernel_rfl) (by simp) ?_
            refine AllReadyH.cons rfl (fun K hK => ?_) AllReadyH.nil
            try simp only [Act.put, List.getElem_toArray, List.getElem_cons_succ, List.getElem_cons_zero, List.setIfInBounds_toArray, List.set_cons_zero, List.set_cons_succ]
            rw [if_pos (by rfl)]
            have zb32 := B_31.out.size
            have own32 := O2_31.out.own
            have rd32 := box_rd G2_31.out
            refine op_app' _ _ _ 22 rfl (e30.heap.size) 2 i0 (.int .i64 0) 1 8 Try.underlying22 hi0 hz0 hs0 hb0 rfl (by decide) _ S.length (S.map (Value.int .i64)) rfl own32 _ _ 1 1 [.int .i64 (a : Int)] rfl rfl rd32 (int_one _) (by omega) (by decide) (by omega) ?_
            intro v32 e32 oo32 gg32 _
            have on32 := O2_31.out.grow gg32
            have z32 := on32.size
            have B_32 := hide (B_31.out.trans ((on32.below (B := e30.heap.size) (Nat.le_refl _) (by omega)).mono (by omega)))
            have O1_32 := hide (O1_31.out.only on32 (by omega))
            have X_32 := hide (X_31.out.only on32 (by omega))
            obtain ⟨A82, c82, rfl, _⟩ := own_shape oo32
            have O2_32 : Hid (OR e32 (e30.heap.size) e32.heap.size (.slice A82 (S.length + 1) c82) (S ++ [(a : Int)])) := by
              refine ⟨?_, fun g hg => (oo32.lt g hg).2⟩
              rw [HL7.out, List.map_append]; exact oo32
            clear oo32 own32 rd32
            dsimp only
            refine hK.out _ _ (⟨X_32.out.cell 0, X_32.out.cell 1⟩) (fun hHeld => ?_)
            clear hK K
            try simp only [Act.put, List.getElem_toArray, List.getElem_cons_succ, List.getElem_cons_zero, List.setIfInBounds_toArray, List.set_cons_zero, List.set_cons_succ]
            refine wpAnyH_ready (rs := [14]) (by kernel_rfl) (by simp) ?_
            refine AllReadyH.cons rfl (fun K hK => ?_) AllReadyH.nil
            try simp only [Act.put, List.getElem_toArray, List.getElem_cons_succ, List.getElem_cons_zero, List.setIfInBounds_toArray, List.set_cons_zero, List.set_cons_succ]
            go_simp
            have zb33 := B_32.out.size
            go_at_call 84
            refine (HREC.out e32 A75 c75 A82 c82 B_32.out (by have h := O1_32.out.o (lo' := pb + 3) (by omega) (by omega) (by rw [HL6.out]; omega); exact h) (by have h := O2_32.out.o (lo' := pb + 3) (by omega) (by omega) (by rw [HL7.out]; omega); exact h)).mono ?_
            rintro e e33 ⟨rfl, ii33, on33⟩
            have X_33 := hide (X_32.out.only on33 (.inr (by omega)))
            dsimp only
            refine hK.out _ _ (⟨X_33.out.cell 0, X_33.out.cell 1⟩) (fun hHeld => ?_)
            clear hK K
            try simp only [Act.put, List.getElem_toArray, List.getElem_cons_succ, List.getElem_cons_zero, List.setIfInBounds_toArray, List.set_cons_zero, List.set_cons_succ]
            refine wpAnyH_done (by kernel_rfl) ?_ _
            go_wp2_with fail
            go_roundg (ts.length - (k + 1))
            case measure => have := hgk.out; omega
            case rel => exact ⟨k + 1, _, by omega, rfl, by go_num, HQ2, hide ii33, hide (only_trans O4.out (only_trans (only_of_below B_32.out) on33))⟩
        · try simp only [Act.put, List.getElem_toArray, List.getElem_cons_succ, List.getElem_cons_zero, List.setIfInBounds_toArray, List.set_cons_zero, List.set_cons_succ]
          go_simp
          have s34 : Below e24.heap.size e24 (e24.alloc (.cells #[.int .i64 (a : Int)] 2)) := (Below.refl _ _).alloc (Nat.le_refl _) _
          have z34 : e24.heap.size + 1 = (e24.alloc (.cells #[.int .i64 (a : Int)] 2)).heap.size := by simp
          have G1_34 := hide (G1_24.out.below s34 (by have := G1_24.out.lt; omega))
          have O1_34 := hide (O1_24.out.below s34 (by omega))
          have X_34 := hide (X_24.out.below s34 (by have := X_24.out.lt; omega))
          have G2_34 := hide (BoxN.new e24 #[.int .i64 (a : Int)] 2)
          have B_34 := hide (B_24.out.trans (s34.mono (by have := B_24.out.size; omega)))
          refine hK.out _ _ (⟨X_34.out.cell 0, X_34.out.cell 1⟩) (fun hHeld => ?_)
          clear hK K
          try simp only [Act.put, List.getElem_toArray, List.getElem_cons_succ, List.getElem_cons_zero, List.setIfInBounds_toArray, List.set_cons_zero, List.set_cons_succ]
          generalize (e24.alloc (.cells #[.int .i64 (a : Int)] 2)) = e34 at *
          refine wpAnyH_ready (rs := [5]) (by kernel_rfl) (by simp) ?_
          refine AllReadyH.cons rfl (fun K hK => ?_) AllReadyH.nil
          try simp only [Act.put, List.getElem_toArray, List.getElem_cons_succ, List.getElem_cons_zero, List.setIfInBounds_toArray, List.set_cons_zero, List.set_cons_succ]
          rw [if_pos (by rfl)]
          have zb35 := B_34.out.size
          have own35 := O1_34.out.own
          have rd35 := box_rd G1_34.out
          refine op_app' _ _ _ 22 rfl (e23.heap.size) 2 i0 (.int .i64 0) 1 8 Try.underlying22 hi0 hz0 hs0 hb0 rfl (by decide) _ P.length (P.map (Value.int .i64)) rfl own35 _ _ 1 1 [.int .i64 (j : Int)] rfl rfl rd35 (int_one _) (by omega) (by decide) (by omega) ?_
          intro v35 e35 oo35 gg35 _
          have on35 := O1_34.out.grow gg35
          have z35 := on35.size
          have B_35 := hide (B_34.out.trans ((on35.below (B := e23.heap.size) (Nat.le_refl _) (by omega)).mono (by omega)))
          have G2_35 := hide (G2_34.out.only on35 (by omega))
          have X_35 := hide (X_34.out.only on35 (by omega))
          obtain ⟨A85, c85, rfl, _⟩ := own_shape oo35
          have O1_35 : Hid (OR e35 (e23.heap.size) e35.heap.size (.slice A85 (P.length + 1) c85) (P ++ [(j : Int)])) := by
            refine ⟨?_, fun g hg => (oo35.lt g hg).2⟩
            rw [HL6.out, List.map_append]; exact oo35
          clear oo35 own35 rd35
          dsimp only
          refine hK.out _ _ (⟨X_35.out.cell 0, X_35.out.cell 1⟩) (fun hHeld => ?_)
          clear hK K
          try simp only [Act.put, List.getElem_toArray, List.getElem_cons_succ, List.getElem_cons_zero, List.setIfInBounds_toArray, List.set_cons_zero, List.set_cons_succ]
          refine wpAnyH_ready (rs := [7]) (by kernel_rfl) (by simp) ?_
          refine AllReadyH.cons rfl (fun K hK => ?_) AllReadyH.nil
          try simp only [Act.put, List.getElem_toArray, List.getElem_cons_succ, List.getElem_cons_zero, List.setIfInBounds_toArray, List.set_cons_zero, List.set_cons_succ]
          go_simp
          go_at_call 71
          refine (HC2.out _ B_35.out).mono ?_
          rintro e e36 ⟨A86, c86, rfl, oo36, s36⟩
          have z36 := s36.size
          have O1_36 := hide (O1_35.out.below s36 (by omega))
          have G2_36 := hide (G2_35.out.below s36 (by have := G2_35.out.lt; omega))
          have X_36 := hide (X_35.out.below s36 (by have := X_35.out.lt; omega))
          have O2_36 := hide ((OR.of oo36 : OR e36 e35.heap.size e36.heap.size _ S))
          clear oo36
          have B_36 := hide (B_35.out.trans (s36.mono (by have := B_35.out.size; omega)))
          dsimp only
          refine hK.out _ _ (⟨X_36.out.cell 0, X_36.out.cell 1⟩) (fun hHeld => ?_)
          clear hK K
          try simp only [Act.put, List.getElem_toArray, List.getElem_cons_succ, List.getElem_cons_zero, List.setIfInBounds_toArray, List.set_cons_zero, List.set_cons_succ]
          refine wpAnyH_ready (rs := [10]) (by kernel_rfl) (by simp) ?_
          refine AllReadyH.cons rfl (fun K hK => ?_) AllReadyH.nil
          try simp only [Act.put, List.getElem_toArray, List.getElem_cons_succ, List.getElem_cons_zero, List.setIfInBounds_toArray, List.set_cons_zero, List.set_cons_succ]
          rw [if_pos (by rfl)]
          have zb37 := B_36.out.size
          have own37 := O2_36.out.own
          have rd37 := box_rd G2_36.out
          refine op_app' _ _ _ 22 rfl (e35.heap.size) 2 i0 (.int .i64 0) 1 8 Try.underlying22 hi0 hz0 hs0 hb0 rfl (by decide) _ S.length (S.map (Value.int .i64)) rfl own37 _ _ 1 1 [.int .i64 (a : Int)] rfl rfl rd37 (int_one _) (by omega) (by decide) (by omega) ?_
          intro v37 e37 oo37 gg37 _
          have on37 := O2_36.out.grow gg37
          have z37 := on37.size
          have B_37 := hide (B_36.out.trans ((on37.below (B := e35.heap.size) (Nat.le_refl _) (by omega)).mono (by omega)))
          have O1_37 := hide (O1_36.out.only on37 (by omega))
          have X_37 := hide (X_36.out.only on37 (by omega))
          obtain ⟨A87, c87, rfl, _⟩ := own_shape oo37
          have O2_37 : Hid (OR e37 (e35.heap.size) e37.heap.size (.slice A87 (S.length + 1) c87) (S ++ [(a : Int)])) := by
            refine ⟨?_, fun g hg => (oo37.lt g hg).2⟩
            rw [HL7.out, List.map_append]; exact oo37
          clear oo37 own37 rd37
          dsimp only
          refine hK.out _ _ (⟨X_37.out.cell 0, X_37.out.cell 1⟩) (fun hHeld => ?_)
          clear hK K
          try simp only [Act.put, List.getElem_toArray, List.getElem_cons_succ, List.getElem_cons_zero, List.setIfInBounds_toArray, List.set_cons_zero, List.set_cons_succ]
          refine wpAnyH_ready (rs := [14]) (by kernel_rfl) (by simp) ?_
          refine AllReadyH.cons rfl (fun K hK => ?_) AllReadyH.nil
          try simp only [Act.put, List.getElem_toArray, List.getElem_cons_succ, List.getElem_cons_zero, List.setIfInBounds_toArray, List.set_cons_zero, List.set_cons_succ]
          go_simp
          have zb38 := B_37.out.size
          go_at_call 84
          refine (HREC.out e37 A85 c85 A87 c87 B_37.out (by have h := O1_37.out.o (lo' := pb + 3) (by omega) (by omega) (by rw [HL6.out]; omega); exact h) (by have h := O2_37.out.o (lo' := pb + 3) (by omega) (by omega) (by rw [HL7.out]; omega); exact h)).mono ?_
          rintro e e38 ⟨rfl, ii38, on38⟩
          have X_38 := hide (X_37.out.only on38 (.inr (by omega)))
          dsimp only
          refine hK.out _ _ (⟨X_38.out.cell 0, X_38.out.cell 1⟩) (fun hHeld => ?_)
          clear hK K
          try simp only [Act.put, List.getElem_toArray, List.getElem_cons_succ, List.getElem_cons_zero, List.setIfInBounds_toArray, List.set_cons_zero, List.set_cons_succ]
          refine wpAnyH_done (by kernel_rfl) ?_ _
          go_wp2_with fail
          go_roundg (ts.length - (k + 1))
          case measure => have := hgk.out; omega
          case rel => exact ⟨k + 1, _, by omega, rfl, by go_num, HQ2, hide ii38, hide (only_trans O4.out (only_trans (only_of_below B_37.out) on38))⟩
      · try simp only [Act.put, List.getElem_toArray, List.getElem_cons_succ, List.getElem_cons_zero, List.setIfInBounds_toArray, List.set_cons_zero, List.set_cons_succ]
        go_simp
        have s39 : Below e23.heap.size e23 (e23.alloc (.cells #[.int .i64 (a : Int)] 2)) := (Below.refl _ _).alloc (Nat.le_refl _) _
        have z39 : e23.heap.size + 1 = (e23.alloc (.cells #[.int .i64 (a : Int)] 2)).heap.size := by simp
        have G1_39 := hide (G1_23.out.below s39 (by have := G1_23.out.lt; omega))
        have X_39 := hide (X_23.out.below s39 (by have := X_23.out.lt; omega))
        have G2_39 := hide (BoxN.new e23 #[.int .i64 (a : Int)] 2)
        have B_39 := hide (B_23.out.trans (s39.mono (by have := B_23.out.size; omega)))
        refine hK.out _ _ (⟨X_39.out.cell 0, X_39.out.cell 1⟩) (fun hHeld => ?_)
        clear hK K
        try simp only [Act.put, List.getElem_toArray, List.getElem_cons_succ, List.getElem_cons_zero, List.setIfInBounds_toArray, List.set_cons_zero, List.set_cons_succ]
        generalize (e23.alloc (.cells #[.int .i64 (a : Int)] 2)) = e39 at *
        refine wpAnyH_ready (rs := [2]) (by kernel_rfl) (by simp) ?_
        refine AllReadyH.cons rfl (fun K hK => ?_) AllReadyH.nil
        try simp only [Act.put, List.getElem_toArray, List.getElem_cons_succ, List.getElem_cons_zero, List.setIfInBounds_toArray, List.set_cons_zero, List.set_cons_succ]
        go_simp
        go_at_call 71
        refine (HC1.out _ B_39.out).mono ?_
        rintro e e40 ⟨A90, c90, rfl, oo40, s40⟩
        have z40 := s40.size
        have G1_40 := hide (G1_39.out.below s40 (by have := G1_39.out.lt; omega))
        have G2_40 := hide (G2_39.out.below s40 (by have := G2_39.out.lt; omega))
        have X_40 := hide (X_39.out.below s40 (by have := X_39.out.lt; omega))
        have O1_40 := hide ((OR.of oo40 : OR e40 e39.heap.size e40.heap.size _ P))
        clear oo40
        have B_40 := hide (B_39.out.trans (s40.mono (by have := B_39.out.size; omega)))
        dsimp only
        refine hK.out _ _ (⟨X_40.out.cell 0, X_40.out.cell 1⟩) (fun hHeld => ?_)
        clear hK K
        try simp only [Act.put, List.getElem_toArray, List.getElem_cons_succ, List.getElem_cons_zero, List.setIfInBounds_toArray, List.set_cons_zero, List.set_cons_succ]
        refine wpAnyH_ready (rs := [5]) (by kernel_rfl) (by simp) ?_
        refine AllReadyH.cons rfl (fun K hK => ?_) AllReadyH.nil
        try simp only [Act.put, List.getElem_toArray, List.getElem_cons_succ, List.getElem_cons_zero, List.setIfInBounds_toArray, List.set_cons_zero, List.set_cons_succ]
        rw [if_pos (by rfl)]
        have zb41 := B_40.out.size
        have own41 := O1_40.out.own
        have rd41 := box_rd G1_40.out
        refine op_app' _ _ _ 22 rfl (e39.heap.size) 2 i0 (.int .i64 0) 1 8 Try.underlying22 hi0 hz0 hs0 hb0 rfl (by decide) _ P.length (P.map (Value.int .i64)) rfl own41 _ _ 1 1 [.int .i64 (j : Int)] rfl rfl rd41 (int_one _) (by omega) (by decide) (by omega) ?_
        intro v41 e41 oo41 gg41 _
        have on41 := O1_40.out.grow gg41
        have z41 := on41.size
        have B_41 := hide (B_40.out.trans ((on41.below (B := e39.heap.size) (Nat.le_refl _) (by omega)).mono (by omega)))
        have G2_41 := hide (G2_40.out.only on41 (by omega))
        have X_41 := hide (X_40.out.only on41 (by omega))
        obtain ⟨A91, c91, rfl, _⟩ := own_shape oo41
        have O1_41 : Hid (OR e41 (e39.heap.size) e41.heap.size (.slice A91 (P.length + 1) c91) (P ++ [(j : Int)])) := by
          refine ⟨?_, fun g hg => (oo41.lt g hg).2⟩
          rw [HL6.out, List.map_append]; exact oo41
        clear oo41 own41 rd41
        dsimp only
        refine hK.out _ _ (⟨X_41.out.cell 0, X_41.out.cell 1⟩) (fun hHeld => ?_)
        clear hK K
        try simp only [Act.put, List.getElem_toArray, List.getElem_cons_succ, List.getElem_cons_zero, List.setIfInBounds_toArray, List.set_cons_zero, List.set_cons_succ]
        refine wpAnyH_ready (rs := [7]) (by kernel_rfl) (by simp) ?_
        refine AllReadyH.cons rfl (fun K hK => ?_) AllReadyH.nil
        try simp only [Act.put, List.getElem_toArray, List.getElem_cons_succ, List.getElem_cons_zero, List.setIfInBounds_toArray, List.set_cons_zero, List.set_cons_succ]
        go_simp
        go_at_call 71
        refine (HC2.out _ B_41.out).mono ?_
        rintro e e42 ⟨A92, c92, rfl, oo42, s42⟩
        have z42 := s42.size
        have O1_42 := hide (O1_41.out.below s42 (by omega))
        have G2_42 := hide (G2_41.out.below s42 (by have := G2_41.out.lt; omega))
        have X_42 := hide (X_41.out.below s42 (by have := X_41.out.lt; omega))
        have O2_42 := hide ((OR.of oo42 : OR e42 e41.heap.size e42.heap.size _ S))
        clear oo42
        have B_42 := hide (B_41.out.trans (s42.mono (by have := B_41.out.size; omega)))
        dsimp only
        refine hK.out _ _ (⟨X_42.out.cell 0, X_42.out.cell 1⟩) (fun hHeld => ?_)
        clear hK K
        try simp only [Act.put, List.getElem_toArray, List.getElem_cons_succ, List.getElem_cons_zero, List.setIfInBounds_toArray, List.set_cons_zero, List.set_cons_succ]
        refine wpAnyH_ready (rs := [10]) (by kernel_rfl) (by simp) ?_
        refine AllReadyH.cons rfl (fun K hK => ?_) AllReadyH.nil
        try simp only [Act.put, List.getElem_toArray, List.getElem_cons_succ, List.getElem_cons_zero, List.setIfInBounds_toArray, List.set_cons_zero, List.set_cons_succ]
        rw [if_pos (by rfl)]
        have zb43 := B_42.out.size
        have own43 := O2_42.out.own
        have rd43 := box_rd G2_42.out
        refine op_app' _ _ _ 22 rfl (e41.heap.size) 2 i0 (.int .i64 0) 1 8 Try.underlying22 hi0 hz0 hs0 hb0 rfl (by decide) _ S.length (S.map (Value.int .i64)) rfl own43 _ _ 1 1 [.int .i64 (a : Int)] rfl rfl rd43 (int_one _) (by omega) (by decide) (by omega) ?_
        intro v43 e43 oo43 gg43 _
        have on43 := O2_42.out.grow gg43
        have z43 := on43.size
        have B_43 := hide (B_42.out.trans ((on43.below (B := e41.heap.size) (Nat.le_refl _) (by omega)).mono (by omega)))
        have O1_43 := hide (O1_42.out.only on43 (by omega))
        have X_43 := hide (X_42.out.only on43 (by omega))
        obtain ⟨A93, c93, rfl, _⟩ := own_shape oo43
        have O2_43 : Hid (OR e43 (e41.heap.size) e43.heap.size (.slice A93 (S.length + 1) c93) (S ++ [(a : Int)])) := by
          refine ⟨?_, fun g hg => (oo43.lt g hg).2⟩
          rw [HL7.out, List.map_append]; exact oo43
        clear oo43 own43 rd43
        dsimp only
        refine hK.out _ _ (⟨X_43.out.cell 0, X_43.out.cell 1⟩) (fun hHeld => ?_)
        clear hK K
        try simp only [Act.put, List.getElem_toArray, List.getElem_cons_succ, List.getElem_cons_zero, List.setIfInBounds_toArray, List.set_cons_zero, List.set_cons_succ]
        refine wpAnyH_ready (rs := [14]) (by kernel_rfl) (by simp) ?_
        refine AllReadyH.cons rfl (fun K hK => ?_) AllReadyH.nil
        try simp only [Act.put, List.getElem_toArray, List.getElem_cons_succ, List.getElem_cons_zero, List.setIfInBounds_toArray, List.set_cons_zero, List.set_cons_succ]
        go_simp
        have zb44 := B_43.out.size
        go_at_call 84
        refine (HREC.out e43 A91 c91 A93 c93 B_43.out (by have h := O1_43.out.o (lo' := pb + 3) (by omega) (by omega) (by rw [HL6.out]; omega); exact h) (by have h := O2_43.out.o (lo' := pb + 3) (by omega) (by omega) (by rw [HL7.out]; omega); exact h)).mono ?_
        rintro e e44 ⟨rfl, ii44, on44⟩
        have X_44 := hide (X_43.out.only on44 (.inr (by omega)))
        dsimp only
        refine hK.out _ _ (⟨X_44.out.cell 0, X_44.out.cell 1⟩) (fun hHeld => ?_)
        clear hK K
        try simp only [Act.put, List.getElem_toArray, List.getElem_cons_succ, List.getElem_cons_zero, List.setIfInBounds_toArray, List.set_cons_zero, List.set_cons_succ]
        refine wpAnyH_done (by kernel_rfl) ?_ _
        go_wp2_with fail
        go_roundg (ts.length - (k + 1))
        case measure => have := hgk.out; omega
        case rel => exact ⟨k + 1, _, by omega, rfl, by go_num, HQ2, hide ii44, hide (only_trans O4.out (only_trans (only_of_below B_43.out) on44))⟩
    · try simp only [Act.put, List.getElem_toArray, List.getElem_cons_succ, List.getElem_cons_zero, List.setIfInBounds_toArray, List.set_cons_zero, List.set_cons_succ]
      go_simp
      have s45 : Below wd.heap.size wd (wd.alloc (.cells #[.int .i64 (a : Int)] 2)) := (Below.refl _ _).alloc (Nat.le_refl _) _
      have z45 : wd.heap.size + 1 = (wd.alloc (.cells #[.int .i64 (a : Int)] 2)).heap.size := by simp
      have X_45 := hide (XD.out.below s45 (by have := XD.out.lt; omega))
      have G2_45 := hide (BoxN.new wd #[.int .i64 (a : Int)] 2)
      have B_45 := hide (BD.out.trans (s45.mono (by have := BD.out.size; omega)))
      refine hK.out _ _ (⟨X_45.out.cell 0, X_45.out.cell 1⟩) (fun hHeld => ?_)
      clear hK K
      try simp only [Act.put, List.getElem_toArray, List.getElem_cons_succ, List.getElem_cons_zero, List.setIfInBounds_toArray, List.set_cons_zero, List.set_cons_succ]
      generalize (wd.alloc (.cells #[.int .i64 (a : Int)] 2)) = e45 at *
      refine wpAnyH_ready (rs := [2, 4]) (by kernel_rfl) (by simp) ?_
      refine AllReadyH.cons rfl (fun K hK => ?_) (AllReadyH.cons rfl (fun K hK => ?_) AllReadyH.nil)
      · try simp only [Act.put, List.getElem_toArray, List.getElem_cons_succ, List.getElem_cons_zero, List.setIfInBounds_toArray, List.set_cons_zero, List.set_cons_succ]
        go_simp
        go_at_call 71
        refine (HC1.out _ B_45.out).mono ?_
        rintro e e46 ⟨A96, c96, rfl, oo46, s46⟩
        have z46 := s46.size
        have G2_46 := hide (G2_45.out.below s46 (by have := G2_45.out.lt; omega))
        have X_46 := hide (X_45.out.below s46 (by have := X_45.out.lt; omega))
        have O1_46 := hide ((OR.of oo46 : OR e46 e45.heap.size e46.heap.size _ P))
        clear oo46
        have B_46 := hide (B_45.out.trans (s46.mono (by have := B_45.out.size; omega)))
        dsimp only
        refine hK.out _ _ (⟨X_46.out.cell 0, X_46.out.cell 1⟩) (fun hHeld => ?_)
        clear hK K
        try simp only [Act.put, List.getElem_toArray, List.getElem_cons_succ, List.getElem_cons_zero, List.setIfInBounds_toArray, List.set_cons_zero, List.set_cons_succ]
        refine wpAnyH_ready (rs := [4]) (by kernel_rfl) (by simp) ?_
        refine AllReadyH.cons rfl (fun K hK => ?_) AllReadyH.nil
        try simp only [Act.put, List.getElem_toArray, List.getElem_cons_succ, List.getElem_cons_zero, List.setIfInBounds_toArray, List.set_cons_zero, List.set_cons_succ]
        go_simp
        have s47 : Below e46.heap.size e46 (e46.alloc (.cells #[.int .i64 (j : Int)] 2)) := (Below.refl _ _).alloc (Nat.le_refl _) _
        have z47 : e46.heap.size + 1 = (e46.alloc (.cells #[.int .i64 (j : Int)] 2)).heap.size := by simp
        have O1_47 := hide (O1_46.out.below s47 (by omega))
        have G2_47 := hide (G2_46.out.below s47 (by have := G2_46.out.lt; omega))
        have X_47 := hide (X_46.out.below s47 (by have := X_46.out.lt; omega))
        have G1_47 := hide (BoxN.new e46 #[.int .i64 (j : Int)] 2)
        have B_47 := hide (B_46.out.trans (s47.mono (by have := B_46.out.size; omega)))
        refine hK.out _ _ (⟨X_47.out.cell 0, X_47.out.cell 1⟩) (fun hHeld => ?_)
        clear hK K
        try simp only [Act.put, List.getElem_toArray, List.getElem_cons_succ, List.getElem_cons_zero, List.setIfInBounds_toArray, List.set_cons_zero, List.set_cons_succ]
        generalize (e46.alloc (.cells #[.int .i64 (j : Int)] 2)) = e47 at *
        refine wpAnyH_ready (rs := [5]) (by kernel_rfl) (by simp) ?_
        refine AllReadyH.cons rfl (fun K hK => ?_) AllReadyH.nil
        try simp only [Act.put, List.getElem_toArray, List.getElem_cons_succ, List.getElem_cons_zero, List.setIfInBounds_toArray, List.set_cons_zero, List.set_cons_succ]
        rw [if_pos (by rfl)]
        have zb48 := B_47.out.size
        have own48 := O1_47.out.own
        have rd48 := box_rd G1_47.out
        refine op_app' _ _ _ 22 rfl (e45.heap.size) 2 i0 (.int .i64 0) 1 8 Try.underlying22 hi0 hz0 hs0 hb0 rfl (by decide) _ P.length (P.map (Value.int .i64)) rfl own48 _ _ 1 1 [.int .i64 (j : Int)] rfl rfl rd48 (int_one _) (by omega) (by decide) (by omega) ?_
        intro v48 e48 oo48 gg48 _
        have on48 := O1_47.out.grow gg48
        have z48 := on48.size
        have B_48 := hide (B_47.out.trans ((on48.below (B := e45.heap.size) (Nat.le_refl _) (by omega)).mono (by omega)))
        have G2_48 := hide (G2_47.out.only on48 (by omega))
        have X_48 := hide (X_47.out.only on48 (by omega))
        obtain ⟨A98, c98, rfl, _⟩ := own_shape oo48
        have O1_48 : Hid (OR e48 (e45.heap.size) e48.heap.size (.slice A98 (P.length + 1) c98) (P ++ [(j : Int)])) := by
          refine ⟨?_, fun g hg => (oo48.lt g hg).2⟩
          rw [HL6.out, List.map_append]; exact oo48
        clear oo48 own48 rd48
        dsimp only
        refine hK.out _ _ (⟨X_48.out.cell 0, X_48.out.cell 1⟩) (fun hHeld => ?_)
        clear hK K
        try simp only [Act.put, List.getElem_toArray, List.getElem_cons_succ, List.getElem_cons_zero, List.setIfInBounds_toArray, List.set_cons_zero, List.set_cons_succ]
        refine wpAnyH_ready (rs := [7]) (by kernel_rfl) (by simp) ?_
        refine AllReadyH.cons rfl (fun K hK => ?_) AllReadyH.nil
        try simp only [Act.put, List.getElem_toArray, List.getElem_cons_succ, List.getElem_cons_zero, List.setIfInBounds_toArray, List.set_cons_zero, List.set_cons_succ]
        go_simp
        go_at_call 71
        refine (HC2.out _ B_48.out).mono ?_
        rintro e e49 ⟨A99, c99, rfl, oo49, s49⟩
        have z49 := s49.size
        have O1_49 := hide (O1_48.out.below s49 (by omega))
        have G2_49 := hide (G2_48.out.below s49 (by have := G2_48.out.lt; omega))
        have X_49 := hide (X_48.out.below s49 (by have := X_48.out.lt; omega))
        have O2_49 := hide ((OR.of oo49 : OR e49 e48.heap.size e49.heap.size _ S))
        clear oo49
        have B_49 := hide (B_48.out.trans (s49.mono (by have := B_48.out.size; omega)))
        dsimp only
        refine hK.out _ _ (⟨X_49.out.cell 0, X_49.out.cell 1⟩) (fun hHeld => ?_)
        clear hK K
        try simp only [Act.put, List.getElem_toArray, List.getElem_cons_succ, List.getElem_cons_zero, List.setIfInBounds_toArray, List.set_cons_zero, List.set_cons_succ]
        refine wpAnyH_ready (rs := [10]) (by kernel_rfl) (by simp) ?_
        refine AllReadyH.cons rfl (fun K hK => ?_) AllReadyH.nil
        try simp only [Act.put, List.getElem_toArray, List.getElem_cons_succ, List.getElem_cons_zero, List.setIfInBounds_toArray, List.set_cons_zero, List.set_cons_succ]
        rw [if_pos (by rfl)]
        have zb50 := B_49.out.size
        have own50 := O2_49.out.own
        have rd50 := box_rd G2_49.out
        refine op_app' _ _ _ 22 rfl (e48.heap.size) 2 i0 (.int .i64 0) 1 8 Try.underlying22 hi0 hz0 hs0 hb0 rfl (by decide) _ S.length (S.map (Value.int .i64)) rfl own50 _ _ 1 1 [.int .i64 (a : Int)] rfl rfl rd50 (int_one _) (by omega) (by decide) (by omega) ?_
        intro v50 e50 oo50 gg50 _
        have on50 := O2_49.out.grow gg50
        have z50 := on50.size
        have B_50 := hide (B_49.out.trans ((on50.below (B := e48.heap.size) (Nat.le_refl _) (by omega)).mono (by omega)))
        have O1_50 := hide (O1_49.out.only on50 (by omega))
        have X_50 := hide (X_49.out.only on50 (by omega))
        obtain ⟨A100, c100, rfl, _⟩ := own_shape oo50
        have O2_50 : Hid (OR e50 (e48.heap.size) e50.heap.size (.slice A100 (S.length + 1) c100) (S ++ [(a : Int)])) := by
          refine ⟨?_, fun g hg => (oo50.lt g hg).2⟩
          rw [HL7.out, List.map_append]; exact oo50
        clear oo50 own50 rd50
        dsimp only
        refine hK.out _ _ (⟨X_50.out.cell 0, X_50.out.cell 1⟩) (fun hHeld => ?_)
        clear hK K
        try simp only [Act.put, List.getElem_toArray, List.getElem_cons_succ, List.getElem_cons_zero, List.setIfInBounds_toArray, List.set_cons_zero, List.set_cons_succ]
        refine wpAnyH_ready (rs := [14]) (by kernel_rfl) (by simp) ?_
        refine AllReadyH.cons rfl (fun K hK => ?_) AllReadyH.nil
        try simp only [Act.put, List.getElem_toArray, List.getElem_cons_succ, List.getElem_cons_zero, List.setIfInBounds_toArray, List.set_cons_zero, List.set_cons_succ]
        go_simp
        have zb51 := B_50.out.size
        go_at_call 84
        refine (HREC.out e50 A98 c98 A100 c100 B_50.out (by have h := O1_50.out.o (lo' := pb + 3) (by omega) (by omega) (by rw [HL6.out]; omega); exact h) (by have h := O2_50.out.o (lo' := pb + 3) (by omega) (by omega) (by rw [HL7.out]; omega); exact h)).mono ?_
        rintro e e51 ⟨rfl, ii51, on51⟩
        have X_51 := hide (X_50.out.only on51 (.inr (by omega)))
        dsimp only
        refine hK.out _ _ (⟨X_51.out.cell 0, X_51.out.cell 1⟩) (fun hHeld => ?_)
        clear hK K
        try simp only [Act.put, List.getElem_toArray, List.getElem_cons_succ, List.getElem_cons_zero, List.setIfInBounds_toArray, List.set_cons_zero, List.set_cons_succ]
        refine wpAnyH_done (by kernel_rfl) ?_ _
        go_wp2_with fail
        go_roundg (ts.length - (k + 1))
        case measure => have := hgk.out; omega
        case rel => exact ⟨k + 1, _, by omega, rfl, by go_num, HQ2, hide ii51, hide (only_trans O4.out (only_trans (only_of_below B_50.out) on51))⟩
      · try simp only [Act.put, List.getElem_toArray, List.getElem_cons_succ, List.getElem_cons_zero, List.setIfInBounds_toArray, List.set_cons_zero, List.set_cons_succ]
        go_simp
        have s52 : Below e45.heap.size e45 (e45.alloc (.cells #[.int .i64 (j : Int)] 2)) := (Below.refl _ _).alloc (Nat.le_refl _) _
        have z52 : e45.heap.size + 1 = (e45.alloc (.cells #[.int .i64 (j : Int)] 2)).heap.size := by simp
        have G2_52 := hide (G2_45.out.below s52 (by have := G2_45.out.lt; omega))
        have X_52 := hide (X_45.out.below s52 (by have := X_45.out.lt; omega))
        have G1_52 := hide (BoxN.new e45 #[.int .i64 (j : Int)] 2)
        have B_52 := hide (B_45.out.trans (s52.mono (by have := B_45.out.size; omega)))
        refine hK.out _ _ (⟨X_52.out.cell 0, X_52.out.cell 1⟩) (fun hHeld => ?_)
        clear hK K
        try simp only [Act.put, List.getElem_toArray, List.getElem_cons_succ, List.getElem_cons_zero, List.setIfInBounds_toArray, List.set_cons_zero, List.set_cons_succ]
        generalize (e45.alloc (.cells #[.int .i64 (j : Int)] 2)) = e52 at *
        refine wpAnyH_ready (rs := [2]) (by kernel_rfl) (by simp) ?_
        refine AllReadyH.cons rfl (fun K hK => ?_) AllReadyH.nil
        try simp only [Act.put, List.getElem_toArray, List.getElem_cons_succ, List.getElem_cons_zero, List.setIfInBounds_toArray, List.set_cons_zero, List.set_cons_succ]
        go_simp
        go_at_call 71
        refine (HC1.out _ B_52.out).mono ?_
        rintro e e53 ⟨A103, c103, rfl, oo53, s53⟩
        have z53 := s53.size
        have G1_53 := hide (G1_52.out.below s53 (by have := G1_52.out.lt; omega))
        have G2_53 := hide (G2_52.out.below s53 (by have := G2_52.out.lt; omega))
        have X_53 := hide (X_52.out.below s53 (by have := X_52.out.lt; omega))
        have O1_53 := hide ((OR.of oo53 : OR e53 e52.heap.size e53.heap.size _ P))
        clear oo53
        have B_53 := hide (B_52.out.trans (s53.mono (by have := B_52.out.size; omega)))
        dsimp only
        refine hK.out _ _ (⟨X_53.out.cell 0, X_53.out.cell 1⟩) (fun hHeld => ?_)
        clear hK K
        try simp only [Act.put, List.getElem_toArray, List.getElem_cons_succ, List.getElem_cons_zero, List.setIfInBounds_toArray, List.set_cons_zero, List.set_cons_succ]
        refine wpAnyH_ready (rs := [5]) (by kernel_rfl) (by simp) ?_
        refine AllReadyH.cons rfl (fun K hK => ?_) AllReadyH.nil
        try simp only [Act.put, List.getElem_toArray, List.getElem_cons_succ, List.getElem_cons_zero, List.setIfInBounds_toArray, List.set_cons_zero, List.set_cons_succ]
        rw [if_pos (by rfl)]
        have zb54 := B_53.out.size
        have own54 := O1_53.out.own
        have rd54 := box_rd G1_53.out
        refine op_app' _ _ _ 22 rfl (e52.heap.size) 2 i0 (.int .i64 0) 1 8 Try.underlying22 hi0 hz0 hs0 hb0 rfl (by decide) _ P.length (P.map (Value.int .i64)) rfl own54 _ _ 1 1 [.int .i64 (j : Int)] rfl rfl rd54 (int_one _) (by omega) (by decide) (by omega) ?_
        intro v54 e54 oo54 gg54 _
        have on54 := O1_53.out.grow gg54
        have z54 := on54.size
        have B_54 := hide (B_53.out.trans ((on54.below (B := e52.heap.size) (Nat.le_refl _) (by omega)).mono (by omega)))
        have G2_54 := hide (G2_53.out.only on54 (by omega))
        have X_54 := hide (X_53.out.only on54 (by omega))
        obtain ⟨A104, c104, rfl, _⟩ := own_shape oo54
        have O1_54 : Hid (OR e54 (e52.heap.size) e54.heap.size (.slice A104 (P.length + 1) c104) (P ++ [(j : Int)])) := by
          refine ⟨?_, fun g hg => (oo54.lt g hg).2⟩
          rw [HL6.out, List.map_append]; exact oo54
        clear oo54 own54 rd54
        dsimp only
        refine hK.out _ _ (⟨X_54.out.cell 0, X_54.out.cell 1⟩) (fun hHeld => ?_)
        clear hK K
        try simp only [Act.put, List.getElem_toArray, List.getElem_cons_succ, List.getElem_cons_zero, List.setIfInBounds_toArray, List.set_cons_zero, List.set_cons_succ]
        refine wpAnyH_ready (rs := [7]) (by kernel_rfl) (by simp) ?_
        refine AllReadyH.cons rfl (fun K hK => ?_) AllReadyH.nil
        try simp only [Act.put, List.getElem_toArray, List.getElem_cons_succ, List.getElem_cons_zero, List.setIfInBounds_toArray, List.set_cons_zero, List.set_cons_succ]
        go_simp
        go_at_call 71
        refine (HC2.out _ B_54.out).mono ?_
        rintro e e55 ⟨A105, c105, rfl, oo55, s55⟩
        have z55 := s55.size
        have O1_55 := hide (O1_54.out.below s55 (by omega))
        have G2_55 := hide (G2_54.out.below s55 (by have := G2_54.out.lt; omega))
        have X_55 := hide (X_54.out.below s55 (by have := X_54.out.lt; omega))
        have O2_55 := hide ((OR.of oo55 : OR e55 e54.heap.size e55.heap.size _ S))
        clear oo55
        have B_55 := hide (B_54.out.trans (s55.mono (by have := B_54.out.size; omega)))
        dsimp only
        refine hK.out _ _ (⟨X_55.out.cell 0, X_55.out.cell 1⟩) (fun hHeld => ?_)
        clear hK K
        try simp only [Act.put, List.getElem_toArray, List.getElem_cons_succ, List.getElem_cons_zero, List.setIfInBounds_toArray, List.set_cons_zero, List.set_cons_succ]
        refine wpAnyH_ready (rs := [10]) (by kernel_rfl) (by simp) ?_
        refine AllReadyH.cons rfl (fun K hK => ?_) AllReadyH.nil
        try simp only [Act.put, List.getElem_toArray, List.getElem_cons_succ, List.getElem_cons_zero, List.setIfInBounds_toArray, List.set_cons_zero, List.set_cons_succ]
        rw [if_pos (by rfl)]
        have zb56 := B_55.out.size
        have own56 := O2_55.out.own
        have rd56 := box_rd G2_55.out
        refine op_app' _ _ _ 22 rfl (e54.heap.size) 2 i0 (.int .i64 0) 1 8 Try.underlying22 hi0 hz0 hs0 hb0 rfl (by decide) _ S.length (S.map (Value.int .i64)) rfl own56 _ _ 1 1 [.int .i64 (a : Int)] rfl rfl rd56 (int_one _) (by omega) (by decide) (by omega) ?_
        intro v56 e56 oo56 gg56 _
        have on56 := O2_55.out.grow gg56
        have z56 := on56.size
        have B_56 := hide (B_55.out.trans ((on56.below (B := e54.heap.size) (Nat.le_refl _) (by omega)).mono (by omega)))
        have O1_56 := hide (O1_55.out.only on56 (by omega))
        have X_56 := hide (X_55.out.only on56 (by omega))
        obtain ⟨A106, c106, rfl, _⟩ := own_shape oo56
        have O2_56 : Hid (OR e56 (e54.heap.size) e56.heap.size (.slice A106 (S.length + 1) c106) (S ++ [(a : Int)])) := by
          refine ⟨?_, fun g hg => (oo56.lt g hg).2⟩
          rw [HL7.out, List.map_append]; exact oo56
        clear oo56 own56 rd56
        dsimp only
        refine hK.out _ _ (⟨X_56.out.cell 0, X_56.out.cell 1⟩) (fun hHeld => ?_)
        clear hK K
        try simp only [Act.put, List.getElem_toArray, List.getElem_cons_succ, List.getElem_cons_zero, List.setIfInBounds_toArray, List.set_cons_zero, List.set_cons_succ]
        refine wpAnyH_ready (rs := [14]) (by kernel_rfl) (by simp) ?_
        refine AllReadyH.cons rfl (fun K hK => ?_) AllReadyH.nil
        try simp only [Act.put, List.getElem_toArray, List.getElem_cons_succ, List.getElem_cons_zero, List.setIfInBounds_toArray, List.set_cons_zero, List.set_cons_succ]
        go_simp
        have zb57 := B_56.out.size
        go_at_call 84
        refine (HREC.out e56 A104 c104 A106 c106 B_56.out (by have h := O1_56.out.o (lo' := pb + 3) (by omega) (by omega) (by rw [HL6.out]; omega); exact h) (by have h := O2_56.out.o (lo' := pb + 3) (by omega) (by omega) (by rw [HL7.out]; omega); exact h)).mono ?_
        rintro e e57 ⟨rfl, ii57, on57⟩
        have X_57 := hide (X_56.out.only on57 (.inr (by omega)))
        dsimp only
        refine hK.out _ _ (⟨X_57.out.cell 0, X_57.out.cell 1⟩) (fun hHeld => ?_)
        clear hK K
        try simp only [Act.put, List.getElem_toArray, List.getElem_cons_succ, List.getElem_cons_zero, List.setIfInBounds_toArray, List.set_cons_zero, List.set_cons_succ]
        refine wpAnyH_done (by kernel_rfl) ?_ _
        go_wp2_with fail
        go_roundg (ts.length - (k + 1))
        case measure => have := hgk.out; omega
        case rel => exact ⟨k + 1, _, by omega, rfl, by go_num, HQ2, hide ii57, hide (only_trans O4.out (only_trans (only_of_below B_56.out) on57))⟩
end Go.Proofs.Ytlkccijlbeibjaa
