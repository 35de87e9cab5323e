/-
  The order by ascending numbers; in the reference.
-/
import Derived.Test.YticgaiboolojkaaRunD
import Derived.Test.YticgaiboolojkaaRunO
namespace Go.Proofs.Yticgaiboolojkaa
open Go.RowKit

def keyOf (ks : List Int) (i : Int) : Int := (ks[i.toNat]?).getD 0
def outAt (out : List Int) (k : Nat) : Int := (out[k]?).getD 0
/-- Where a number is laid, seen from k downward. -/
def posGo (ks out : List Int) (i : Int) : Nat → Nat
  | 0 => 0
  | k + 1 => if keyOf ks i < keyOf ks (outAt out k) then posGo ks out i k else k + 1
def insK (ks out : List Int) (i : Int) : List Int := out.take (posGo ks out i out.length) ++ i :: out.drop (posGo ks out i out.length)
def sortK (ks : List Int) : Nat → List Int
  | 0 => []
  | n + 1 => insK ks (sortK ks n) n
theorem posGo_le (ks out : List Int) (i : Int) : ∀ k, posGo ks out i k ≤ k := by
  intro k
  induction k with
  | zero => exact Nat.le_refl _
  | succ k ih => rw [posGo]; split <;> omega
theorem insK_len (ks out : List Int) (i : Int) : (insK ks out i).length = out.length + 1 := by
  have := posGo_le ks out i out.length
  unfold insK; simp; omega
theorem sortK_len (ks : List Int) : ∀ n, (sortK ks n).length = n := by
  intro n
  induction n with
  | zero => rfl
  | succ n ih => rw [sortK, insK_len, ih]
theorem sortK_in (ks : List Int) : ∀ n, ∀ z ∈ sortK ks n, 0 ≤ z ∧ z < n := by
  intro n
  induction n with
  | zero => intro z hz; cases hz
  | succ n ih =>
    intro z hz
    rw [sortK, insK] at hz
    rcases List.mem_append.1 hz with hz | hz
    · have := ih z (List.mem_of_mem_take hz); omega
    · rcases List.mem_cons.1 hz with rfl | hz
      · omega
      · have := ih z (List.mem_of_mem_drop hz); omega
theorem key_get {ks : List Int} {n : Nat} {z : Int} (h : ks[n]? = some z) : keyOf ks (n : Int) = z := by simp [keyOf, h]
theorem RdI.drop {w : World} {B b o : Nat} {xs : List Int} (h : RdI w B (some ⟨b, o, none⟩) xs) (k : Nat) : RdI w B (some ⟨b, o + k, none⟩) (xs.drop k) := fun hn => by
  obtain ⟨b', o', hA, hb, hc⟩ := h (by intro e; apply hn; rw [List.map_eq_nil_iff] at e; rw [e]; simp)
  cases hA
  refine ⟨_, _, rfl, hb, fun j u hu => ?_⟩
  rw [List.getElem?_map, List.getElem?_drop, ← List.getElem?_map] at hu
  rw [Nat.add_assoc]
  exact hc _ _ hu
set_option maxRecDepth 100000 in
set_option maxHeartbeats 8000000 in
theorem l08Sorted_any (ks : List Int) (A : Option Addr) (c : Nat) (w : World) (hx : ks.length ≤ 1000) (h1 : RdI w w.heap.size A ks) :
    Calls Try.prog 93 #[.slice A ks.length c] w fun e w' => ∃ A' c', e = .returned (.slice A' ks.length c') ∧ w'.ownsRow w.heap.size 2 1 (.slice A' ks.length c') ks.length ((sortK ks ks.length).map (Value.int .i64)) ∧ Below w.heap.size w w' := by
  obtain ⟨i0, hi0, hz0, hs0, hb0⟩ := info_parts int64_info
  have HX := hide h1
  clear h1
  go_enter Try.func93, Try.ntmps93
  go_wp2_with fail
  have ho1 := own_new0 w w.heap.size 2 1 (Nat.le_refl _)
  have hb1 : Below w.heap.size w (w.alloc (.cells #[] 2)) := (Below.refl _ _).alloc (Nat.le_refl _) _
  go_loopg [3, 4] ks.length (fun g s i wr => ∃ k : Nat, k ≤ ks.length ∧ Hid (g = ks.length - k) ∧ i = .int .i64 k ∧ wr.ownsRow w.heap.size 2 1 s k ((sortK ks k).map (Value.int .i64)) ∧ Below w.heap.size w wr)
  case atStart => exact ⟨0, by omega, by simp [Hid], rfl, ho1, hb1⟩
  case round =>
    obtain ⟨n, hn, hg, rfl, hown, hb⟩ := hrel
    clear ho1 hb1
    by_cases hlt : n < ks.length
    · obtain ⟨b1, o1, kn, rfl, hbb1, hkn, hca⟩ := (HX.out.below hb).at_ hlt
      obtain ⟨Ao, co, hsh, hnc, _⟩ := own_shape hown
      subst hsh
      have HKN := hide (key_get hkn)
      have hsl := sortK_len ks n
      have HIN := hide (sortK_in ks n)
      have HRO := hide (RdI.of_own (zs := sortK ks n) hown)
      have HOW := hide hown
      have HSN := hide (show sortK ks (n + 1) = insK ks (sortK ks n) n from rfl)
      generalize sortK ks n = out at *
      have hszb := hb.size
      have hbr := hide hb
      clear hkn hown hb
      obtain ⟨wU, hwU⟩ : ∃ q, q = wr := ⟨wr, rfl⟩
      subst hwU
      go_wp2_with fail
      go_loopg [5] n (fun gk s wr => ∃ k : Nat, k ≤ n ∧ Hid (gk = k) ∧ s = .int .i64 k ∧ Hid (posGo ks out n out.length = posGo ks out n k) ∧ Below wU.heap.size wU wr)
      case atStart => exact ⟨n, Nat.le_refl _, rfl, rfl, by unfold Hid; rw [hsl], Below.refl _ _⟩
      case round =>
        obtain ⟨k, hk, hgk, rfl, HP, hb4⟩ := hrel
        have hca4 := (hb4.cell (p := ⟨b1, o1 + n, none⟩) (by dsimp only; omega)).trans hca
        have hkl : (n : Int) < ks.length := by omega
        have hn0 : (0 : Int) ≤ (n : Int) := by omega
        cases k with
        | zero =>
          have HPZ := hide (show posGo ks out n out.length = 0 from HP.out)
          go_wp2_with fail
          go_quiet (fail)
          have bq : Below wU.heap.size wU (wr.drewN nq) := bdn hb4 _
          generalize wr.drewN nq = wq at *
          have hpn : 0 ≤ n := by omega
          have howq := hide (own_below HOW.out bq (Nat.le_refl _))
          have htl : (out.take (0)).length = 0 := by rw [List.length_take]; omega
          have HC := hide (l00OwnN_any (out.take (0)) Ao co wq (by omega) ((RdI.take (HRO.out.below bq) (0)).more bq.size))
          rw [htl] at HC
          have HTK := hide (show insK ks out n = (out.take (0) ++ [(n : Int)]) ++ out.drop (0) by unfold insK; rw [HPZ.out, List.append_assoc]; rfl)
          have hdl : ((out.drop (0)).map (Value.int .i64)).length = (n) * 1 := by rw [List.length_map, List.length_drop]; omega
          have hpc : 0 ≤ co := by omega
          have hzq := bq.size
          clear htl
          go_wp2_with (first | (go_at_call 103; refine (HC.out).mono ?_; rintro e w2 ⟨A5, c5, rfl, ho5, s5⟩; have hz5 := s5.size; have bA := s5.alloc hz5 (.cells #[.int .i64 (n : Int)] 2); have oA := ho5.alloc (.cells #[.int .i64 (n : Int)] 2)) | (at_builtin; refine wp_app _ rfl _ _ 22 rfl wq.heap.size 2 i0 (.int .i64 0) 1 8 Try.underlying22 hi0 hz0 hs0 hb0 rfl (by decide) _ _ _ rfl hown6 _ _ (n) (co) ((out.drop (0)).map (Value.int .i64)) rfl hdl (show RdI w3 _ Ao (out.drop 0) from HRO.out.below bU6) (ints_one _) (by omega) (by decide) bA6.size ?_; intro v7 w4 hown7 hgrow7 hat7) | ((at_builtin; go_must (refine wp_app _ rfl _ _ 22 rfl (wq.heap.size) 2 i0 (.int .i64 0) 1 8 Try.underlying22 hi0 hz0 hs0 hb0 rfl (by decide) _ _ _ rfl (ho5.alloc _) _ _ 1 1 [.int .i64 (n : Int)] rfl rfl (rd_new _ _ _ _ (by simp)) (int_one _) (by omega) (by decide) (by simp <;> omega) ?_); intro v6 w3 hown6 hgrow6 hat6); have bA6 := app_below bA oA hgrow6 (Nat.le_refl _) (by simp; omega); have bU6 := bq.trans (bA6.mono hzq)))
          have hb8 := hbr.out.trans ((bU6.grown hgrow7 (by have := bU6.size; omega) (fun g h => by have := (hown6.lt g h).1; omega)).mono hszb)
          have hfin : w4.ownsRow w.heap.size 2 1 v7 (n + 1) ((insK ks out n).map (Value.int .i64)) := by rw [HTK.out, List.map_append]; have h := own_base hown7 (show w.heap.size ≤ wq.heap.size by omega); rw [show 0 + 1 + n = n + 1 by omega] at h; simpa using h
          go_roundg (ks.length - (n + 1))
          case measure => have := hg.out; omega
          case rel => exact ⟨n + 1, by omega, rfl, by go_num, by rw [HSN.out]; exact hfin, hb8⟩
        | succ k =>
          obtain ⟨b2, o2, y, hA2, hbb2, hy, hcy⟩ := (HRO.out.below hb4).at_ (show k < out.length by omega)
          subst hA2
          have hyi := HIN.out y (List.mem_of_getElem? hy)
          obtain ⟨m, rfl⟩ := Int.eq_ofNat_of_zero_le hyi.1
          obtain ⟨b3, o3, ky, hA3, hbb3, hky, hck⟩ := (HX.out.below (hbr.out.trans (hb4.mono hszb))).at_ (show m < ks.length by omega)
          cases hA3
          have hkm := key_get hky
          have hoy : outAt out k = (m : Int) := by simp [outAt, hy]
          have HP' := HP.out
          rw [posGo, hoy, hkm, HKN.out] at HP'
          have hml : (m : Int) < ks.length := by omega
          have hm0 : (0 : Int) ≤ (m : Int) := by omega
          have hkn1 : (k : Int) < n := by omega
          have hk00 : (0 : Int) ≤ (k : Int) := by omega
          have hw1 : IntKind.i64.wrap (k : Int) = (k : Int) := by rw [IntKind.wrap_i64] <;> omega
          have hB1 : decide ((0 : Int) < (k : Int) + 1) = true := decide_eq_true (by omega)
          clear HP hy hky hoy hyi hkm
          by_cases hlow : kn < ky
          · have HQ := hide (HP'.trans (if_pos hlow))
            have hB2 : decide (kn < ky) = true := decide_eq_true hlow
            clear HP'
            go_wp2_with fail
            go_quiet (fail)
            go_wp2_with fail
            go_roundg k
            case measure => have := hgk.out; omega
            case rel => exact ⟨k, by omega, rfl, by go_num, HQ, bdn hb4 _⟩
          · have HQ := hide (HP'.trans (if_neg hlow))
            have hB2 : decide (kn < ky) = false := decide_eq_false hlow
            clear HP'
            go_wp2_with fail
            go_quiet (fail)
            have bq : Below wU.heap.size wU (wr.drewN nq) := bdn hb4 _
            generalize wr.drewN nq = wq at *
            have hpn : k + 1 ≤ n := by omega
            have howq := hide (own_below HOW.out bq (Nat.le_refl _))
            have htl : (out.take (k + 1)).length = k + 1 := by rw [List.length_take]; omega
            have HC := hide (l00OwnN_any (out.take (k + 1)) (some ⟨b2, o2, none⟩) co wq (by omega) ((RdI.take (HRO.out.below bq) (k + 1)).more bq.size))
            rw [htl] at HC
            have HTK := hide (show insK ks out n = (out.take (k + 1) ++ [(n : Int)]) ++ out.drop (k + 1) by unfold insK; rw [HQ.out, List.append_assoc]; rfl)
            have hrt : ∀ W, Below wU.heap.size wU W → Rd W wU.heap.size (if co = k + 1 then some ⟨b2, o2, none⟩ else some ⟨b2, o2 + (k + 1), none⟩) ((out.drop (k + 1)).map (Value.int .i64)) := fun W hW => by
              split
              · rw [List.drop_eq_nil_of_le (by omega)]; exact Rd.nil _ _ _
              · exact RdI.drop (HRO.out.below hW) (k + 1)
            have hdl : ((out.drop (k + 1)).map (Value.int .i64)).length = (n - (k + 1)) * 1 := by rw [List.length_map, List.length_drop]; omega
            have hpc : k + 1 ≤ co := by omega
            have hzq := bq.size
            clear htl
            go_wp2_with (first | (go_at_call 103; refine (HC.out).mono ?_; rintro e w2 ⟨A5, c5, rfl, ho5, s5⟩; have hz5 := s5.size; have bA := s5.alloc hz5 (.cells #[.int .i64 (n : Int)] 2); have oA := ho5.alloc (.cells #[.int .i64 (n : Int)] 2)) | (at_builtin; refine wp_app _ rfl _ _ 22 rfl wq.heap.size 2 i0 (.int .i64 0) 1 8 Try.underlying22 hi0 hz0 hs0 hb0 rfl (by decide) _ _ _ rfl hown6 _ _ (n - (k + 1)) (co - (k + 1)) ((out.drop (k + 1)).map (Value.int .i64)) rfl hdl (hrt _ bU6) (ints_one _) (by omega) (by decide) bA6.size ?_; intro v7 w4 hown7 hgrow7 hat7) | ((at_builtin; go_must (refine wp_app _ rfl _ _ 22 rfl (wq.heap.size) 2 i0 (.int .i64 0) 1 8 Try.underlying22 hi0 hz0 hs0 hb0 rfl (by decide) _ _ _ rfl (ho5.alloc _) _ _ 1 1 [.int .i64 (n : Int)] rfl rfl (rd_new _ _ _ _ (by simp)) (int_one _) (by omega) (by decide) (by simp <;> omega) ?_); intro v6 w3 hown6 hgrow6 hat6); have bA6 := app_below bA oA hgrow6 (Nat.le_refl _) (by simp; omega); have bU6 := bq.trans (bA6.mono hzq)))
            all_goals (
              have hb8 := hbr.out.trans ((bU6.grown hgrow7 (by have := bU6.size; omega) (fun g h => by have := (hown6.lt g h).1; omega)).mono hszb)
              have hfin : w4.ownsRow w.heap.size 2 1 v7 (n + 1) ((insK ks out n).map (Value.int .i64)) := by rw [HTK.out, List.map_append]; have h := own_base hown7 (show w.heap.size ≤ wq.heap.size by omega); rw [show k + 1 + 1 + (n - (k + 1)) = n + 1 by omega] at h; simpa using h
              go_roundg (ks.length - (n + 1))
              case measure => have := hg.out; omega
              case rel => exact ⟨n + 1, by omega, rfl, by go_num, by rw [HSN.out]; exact hfin, hb8⟩)
    · obtain rfl : n = ks.length := by omega
      obtain ⟨Ao, co, hsh, hnc, _⟩ := own_shape hown
      subst hsh
      go_wp2_with fail
      go_ret
      exact ⟨_, _, rfl, hown, hb⟩
end Go.Proofs.Yticgaiboolojkaa
