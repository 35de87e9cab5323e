/-
  All orders, by the program's function that calls itself.
-/
import Derived.Test.YtfhociekhffjhaaOrdP
namespace Go.Proofs.Ytfhociekhffjhaa
open Go.RowKit

theorem own_rdI {w : World} {lo hi : Nat} {A : Option Addr} {n c : Nat} {x : List Int} (h : O_Int64S w lo hi (.slice A n c) x) : RdI w w.heap.size A x := by
  obtain ⟨A', c', he, hr⟩ := h.r
  simp only [Value.slice.injEq] at he
  rw [he.1]; exact hr
theorem own_to {w w' : World} {lo hi hi' B pb : Nat} {v : Value} {x : List Int} (h : O_Int64S w lo hi v x) (k : Only pb B w w') (hB : B ≤ lo) (hh : hi ≤ hi') : O_Int64S w' lo hi' v x := (h.kept k (.inr hB)).widen (Nat.le_refl _) hh
theorem own_tob {w w' : World} {lo hi hi' B : Nat} {v : Value} {x : List Int} (h : O_Int64S w lo hi v x) (k : Below B w w') (hB : hi ≤ B) (hh : hi ≤ hi') : O_Int64S w' lo hi' v x := (h.below k hB).widen (Nat.le_refl _) hh
set_option maxRecDepth 100000 in
set_option maxHeartbeats 8000000 in
theorem orders_any (v : List Int → Int) (n : Nat) (hn : n ≤ 6) (F : FuncId) (cap : Array Value) (pb : Nat) (W0 : World) (hcf : ∀ args w, (callFunc F args).run Try.prog w = .ok (.enter F args) w)
    (Inv : List Int × Int → World → Prop) (hInv : ∀ s W W', Inv s W → Below W.heap.size W W' → Inv s W')
    (hy : ∀ order s W A c, order.length = n → GoodO n order → Only pb (pb + 2) W0 W → pb + 2 ≤ W.heap.size → Inv s W → RdI W W.heap.size A order → Calls Try.prog F (#[.slice A n c] ++ cap) W fun e w' => e = .returned (.tuple #[]) ∧ Inv (best1 v s order) w' ∧ Only pb (pb + 2) W w') :
    ∀ (m : Nat) (done : List Int) (s : List Int × Int) (W : World) (A : Option Addr) (c : Nat), done.length + m = n → GoodO n done → Only pb (pb + 2) W0 W → pb + 2 ≤ W.heap.size → Inv s W → O_Int64S W (pb + 2) W.heap.size (.slice A done.length c) done →
    Calls Try.prog 187 #[.int .i64 n, .slice A done.length c, .func (.func F) #[] cap] W fun e w' => e = .returned (.tuple #[]) ∧ Inv (ordGoF v n m done s) w' ∧ Only pb (pb + 2) W w' := by
  intro m
  induction m with
  | zero =>
    intro done s W A c hl hg ho hpb hi hd
    obtain rfl : done.length = n := by omega
    have HC := hide (hy done s W A c rfl hg ho hpb hi (own_rdI hd))
    clear hy hInv hg ho hi hd
    go_enter Try.func187, Try.ntmps187
    go_wp2_with (refine (HC.out).mono ?_; rintro e w1 ⟨rfl, hi1, ho1⟩)
    exact bodyPost_ret (v := .tuple #[]) (results_none rfl _ _ _) rfl ⟨rfl, hi1, ho1⟩
  | succ m ih =>
    intro done s W A c hl hg ho hpb hi hd
    obtain ⟨i0, hi0, hz0, hs0, hb0⟩ := info_parts int64_info
    have hB : ((done.length : Int) == (n : Int)) = false := by simp; omega
    have IH := hide ih
    have HI := hide hi
    have HINV := hide hInv
    have HG := hide hg
    have HO := hide ho
    have HD := hide hd
    have HL := hide hl
    have hdl : done.length < n := by omega
    clear ih hi hInv hg ho hd hy hl
    go_enter Try.func187, Try.ntmps187
    go_wp2_with fail
    go_loopg [15] n (fun g i wr => ∃ (k : Nat) (s' : List Int × Int), k ≤ n ∧ Hid (g = n - k) ∧ i = .int .i64 k ∧ Hid (ordGoF v n (m + 1) done s = ordFrom v n m done k s') ∧ Hid (Inv s' wr) ∧ Hid (Only pb (pb + 2) W wr))
    case atStart => exact ⟨0, s, by omega, by simp [Hid], rfl, ordFrom_zero .., HI, only_of_below (Below.refl _ _)⟩
    case round =>
      obtain ⟨k, s', hk, hgk, rfl, HS, HI', HO'⟩ := hrel
      by_cases hlt : k < n
      · have hzw := HO'.out.size
        have hD2 : O_Int64S wr (pb + 2) wr.heap.size (.slice A done.length c) done := own_to HD.out HO'.out (Nat.le_refl _) hzw
        have hknl : (k : Int) < n := by omega
        have HC := hide (containsI_any done k A c wr (by omega) (own_rdI hD2))
        have HS' := HS.out
        rw [ordFrom_step v done hlt] at HS'
        cases hh : hasI done k
        · rw [hh, if_neg (by simp)] at HS'
          rw [hh] at HC
          have HQ := hide HS'
          have HGS := hide (HG.out.snoc hlt hh)
          have HD2 := hide hD2
          have HCL := hide fun W1 (hW1 : Below wr.heap.size wr W1) => cloneI_any done A c W1 (by omega) (own_rdI (HD2.out.below hW1 (Nat.le_refl _)))
          clear HS' hh HS hD2
          go_wp2_with (first | (go_at_call 189; refine (HC.out).mono ?_; rintro e w1 ⟨rfl, hb1⟩) | (go_at_call 122; refine (HCL.out _ hb1).mono ?_; rintro e w2 ⟨A5, c5, rfl, ho5, hb2⟩; have hz2 := hb2.size; have oA := ho5.alloc (.cells #[.int .i64 (k : Int)] 2); have bA := hb2.alloc hb2.size (.cells #[.int .i64 (k : Int)] 2)) | (at_builtin; go_must (refine wp_app _ rfl _ _ 24 rfl (w1.heap.size) 2 i0 (.int .i64 0) 1 8 Try.underlying24 hi0 hz0 hs0 hb0 rfl (by decide) _ _ _ rfl (ho5.alloc _) _ _ 1 1 [.int .i64 k] rfl rfl (rd_new _ _ _ _ (by simp)) (int_one _) (by omega) (by decide) (by simp <;> omega) ?_); intro v7 w4 hown7 hgrow7 hat7))
          obtain ⟨A7, c7, hsh, _, _⟩ := own_shape hown7
          subst hsh
          have b4 := app_below bA oA hgrow7 (Nat.le_refl _) (by simp; omega)
          have bw := hb1.trans (b4.mono hb1.size)
          have hz1 := hb1.size
          have hz4 := b4.size
          have hlen : (done ++ [(k : Int)]).length = done.length + 1 := by simp
          have O4 : O_Int64S w4 (pb + 2) w4.heap.size (.slice A7 (done ++ [(k : Int)]).length c7) (done ++ [(k : Int)]) := by
            unfold O_Int64S
            rw [hlen, List.map_append]
            exact OwnV.of_row (own_base hown7 (by omega)) (by omega)
          have ho4 := only_trans HO'.out (only_of_below (lo := pb) (hi := pb + 2) bw)
          have HR := hide (IH.out (done ++ [(k : Int)]) s' w4 A7 c7 (by rw [hlen]; have := HL.out; omega) HGS.out (only_trans HO.out ho4) (by omega) (HINV.out _ _ _ HI'.out bw) O4)
          rw [hlen] at HR
          clear O4 b4 bA oA ho5 hb2 hown7 hgrow7 hat7 hlen
          go_wp2_with (go_at_call 187; refine (HR.out).mono ?_; rintro e w5 ⟨rfl, hi5, ho5⟩)
          go_roundg (n - (k + 1))
          case measure => have := hgk.out; omega
          case rel => exact ⟨k + 1, _, by omega, rfl, by go_num, HQ, hi5, only_trans ho4 ho5⟩
        · rw [hh, if_pos rfl] at HS'
          rw [hh] at HC
          have HQ := hide HS'
          clear HS' hh HS hD2
          go_wp2_with (go_at_call 189; refine (HC.out).mono ?_; rintro e w1 ⟨rfl, hb1⟩)
          go_roundg (n - (k + 1))
          case measure => have := hgk.out; omega
          case rel => exact ⟨k + 1, _, by omega, rfl, by go_num, HQ, HINV.out _ _ _ HI'.out hb1, only_trans HO'.out (only_of_below hb1)⟩
      · obtain rfl : k = n := by omega
        have HE := hide (HS.out.trans (ordFrom_end v k m done s'))
        clear HS
        go_wp2_with fail
        refine bodyPost_end (results_none rfl _ _ _) rfl ?_
        exact ⟨rfl, by rw [HE.out]; exact HI'.out, HO'.out⟩
end Go.Proofs.Ytfhociekhffjhaa
