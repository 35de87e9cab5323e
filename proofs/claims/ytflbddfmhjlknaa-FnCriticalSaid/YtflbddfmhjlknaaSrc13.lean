/-
  Draws of carriers: a fleet and which of them runs; lists of numbers compared.
-/
import Derived.Test.YtflbddfmhjlknaaSrc12
import Derived.Test.YtflbddfmhjlknaaLawH
namespace Go.Proofs.Ytflbddfmhjlknaa
open Go.RowKit

set_option maxRecDepth 100000 in
set_option maxHeartbeats 1000000 in
theorem f6ints_any (xs ys : List Int) (A1 A2 : Option Addr) (c1 c2 : Nat) (w : World) (hx : xs.length ≤ 9223372036854775807) (hy : ys.length ≤ 9223372036854775807)
    (h1 : RdI w w.heap.size A1 xs) (h2 : RdI w w.heap.size A2 ys) :
    Calls Try.prog 26 #[.slice A1 xs.length c1, .slice A2 ys.length c2] w fun e w' => e = .returned (.bool (decide (xs = ys))) ∧ Below w.heap.size w w' := by
  by_cases hl : xs.length = ys.length
  · have hB : ((xs.length : Int) != ys.length) = false := by simp [hl]
    have HL := hide hl; clear hl
    go_enter Try.func26, Try.ntmps26
    go_wp2_with fail
    go_loopg [5] xs.length (fun g i wr => ∃ k : Nat, k ≤ xs.length ∧ g = xs.length - k ∧ i = .int .i64 k ∧ Below w.heap.size w wr ∧ Hid (xs = ys ↔ xs.drop k = ys.drop k))
    case atStart => exact ⟨0, by omega, by omega, rfl, Below.refl _ _, by simp [Hid]⟩
    case round =>
      obtain ⟨k, hk, hg, rfl, hb, HE⟩ := hrel
      by_cases hlt : k < xs.length
      · have hlt2 : k < ys.length := by have := HL.out; omega
        obtain ⟨b1, o1, z1, rfl, _, hz1, hc1⟩ := (h1.below hb).at_ hlt
        obtain ⟨b2, o2, z2, rfl, _, hz2, hc2⟩ := (h2.below hb).at_ hlt2
        have Z1 := hide hz1; have Z2 := hide hz2; clear hz1 hz2 h1 h2
        have HG := hide hg; clear hg
        by_cases he : z1 = z2
        · subst he
          go_wp2_with fail
          go_quiet (fail)
          go_wp2_with fail
          go_roundg (xs.length - (k + 1))
          case measure => have := HG.out; omega
          case rel =>
            refine ⟨k + 1, by omega, rfl, by go_num, bdn hb _, ?_⟩
            have h := HE.out
            rw [drop_cons Z1.out, drop_cons Z2.out] at h
            exact hide (by simpa using h)
        · have hd : (z1 != z2) = true := by simp [he]
          go_wp2_with fail
          go_quiet (fail)
          go_wp2_with fail
          go_ret
          refine ⟨ret_b ?_, bdn hb _⟩
          have h := HE.out
          rw [drop_cons Z1.out, drop_cons Z2.out] at h
          simp [he] at h
          simp [h]
      · go_wp2_with fail
        go_ret
        refine ⟨ret_b ?_, hb⟩
        have h := HE.out
        rw [List.drop_eq_nil_of_le (by omega), List.drop_eq_nil_of_le (by have := HL.out; omega)] at h
        simpa using h
  · have hB : ((xs.length : Int) != ys.length) = true := by simp; omega
    have HL := hide hl; clear hl
    go_enter Try.func26, Try.ntmps26
    go_wp2_with fail
    go_ret
    exact ⟨ret_b (by simp; intro e; exact HL.out (by rw [e])), Below.refl _ _⟩
theorem f6big_any (A : Option Addr) (n c : Nat) (w : World) (hn : n ≤ 4096) :
    Calls Try.prog 10 #[.slice A n c] w fun e w' => e = .returned (.bool false) ∧ w = w' := by
  have hD : decide ((4096 : Int) < (n : Int)) = false := decide_eq_false (by omega)
  go_enter Try.func10, Try.ntmps10
  go_wp2_with fail
  go_ret
  exact ⟨rfl, rfl⟩
theorem below_src' {w w1 w2 : World} (h : Below w.heap.size w w1) (k : Only w.heap.size (w.heap.size + 1) w1 w2) : Below w.heap.size w w2 := h.trans (k.below (Nat.le_refl _) h.size)
set_option maxRecDepth 100000 in
set_option maxHeartbeats 4000000 in
theorem drawRunCarrier_any (bs : List Int) (A : Option Addr) (c : Nat) (w : World) (hbs : BsOk bs) (h1 : RdB w w.heap.size A bs) :
    Calls Try.prog 11 #[.slice A bs.length c] w fun e w' => ∃ (A : Option Addr) (c : Nat) (l : List T2) (k : Int), e = .returned (.tuple #[.slice A l.length c, .int .i64 k]) ∧ O_SealS w' w.heap.size w'.heap.size (.slice A l.length c) l ∧ (l.length ≤ 61 ∧ ∀ z ∈ l, z.Fits) ∧ (-1 ≤ k ∧ k ≤ 61) ∧ Below w.heap.size w w' := by
  have HF := hide (l00From_any bs A c w hbs.1 h1)
  have HT := hide fun W (hW : SrcAt w.heap.size bs 0 W) => drawSeals_any w.heap.size bs 0 W hbs (by omega) hW
  have HP := hide fun M n W (hM : M ≤ 1099511000000) (hW : SrcAt w.heap.size bs M W) => pick_any w.heap.size bs M n W hbs hM hW
  clear h1
  go_enter Try.func11, Try.ntmps11
  go_wp2_with (first | (go_at_call 77; refine (HF.out).mono ?_; rintro e w1 ⟨rfl, hs1, hz1, hb1⟩; have HS := hide hs1; have hz1a := Nat.le_of_eq hz1.symm; clear hs1 hz1) | (go_at_call 78; refine (HT.out _ HS.out).mono ?_; rintro e w2 ⟨A2, c2, l, rfl, hown, hl, hs2, ho2⟩; have HS2 := hide hs2; have HOWN := hide hown; have HL := hide hl; have hl61 := hl.1; clear hs2 hown hl) | (go_at_call 79; refine (HP.out (0 + 1000 + 2) 16 _ (by omega) HS3.out).mono ?_; rintro e w4 ⟨z4, rfl, ⟨hz40, hz41', _⟩, hs4, ho4⟩; have hz41 := hz41' (by omega); clear hz41') | (go_at_call 79; refine (HP.out (0 + 1000) ((l.length : Int) + 1) _ (by omega) HS2.out).mono ?_; rintro e w3 ⟨z3, rfl, ⟨hz30, hz31', _⟩, hs3, ho3⟩; have HS3 := hide hs3; have hz31 := hz31' (by omega); clear hs3 hz31'))
  go_ret2
  have ho5 := only_trans (only_trans ho2 ho3) ho4
  have hr := own_base (row_only (row_only HOWN.out ho3 (by omega)) ho4 (by omega)) hb1.size
  have hO : O_SealS w4 w.heap.size w4.heap.size (.slice A2 l.length c2) l := OwnV.of_row hr (by omega)
  exact ⟨A2, c2, l, _, rfl, hO, HL.out, by omega, below_src' hb1 ho5⟩
end Go.Proofs.Ytflbddfmhjlknaa
