/-
  Networks in the program: stations that are reached, tubes from a station, the least length.
-/
import Derived.Test.YtflbddfmhjlknaaNet4
namespace Go.Proofs.Ytflbddfmhjlknaa
open Go.RowKit
theorem rdI1 {w : World} {v : Int} : RdI (w.alloc (.cells #[.int .i64 v] 2)) (w.alloc (.cells #[.int .i64 v] 2)).heap.size (some ⟨w.heap.size, 0, none⟩) [v] := by
  show Rd _ _ _ [Value.int .i64 v]
  exact Rd.more (rd_new w [.int .i64 v] 2 w.heap.size rfl) (by simp)
theorem rdI2 {w : World} {v u : Int} : RdI (w.alloc (.cells #[.int .i64 v, .int .i64 u] 2)) (w.alloc (.cells #[.int .i64 v, .int .i64 u] 2)).heap.size (some ⟨w.heap.size, 0, none⟩) [v, u] := by
  show Rd _ _ _ [Value.int .i64 v, Value.int .i64 u]
  exact Rd.more (rd_new w [.int .i64 v, .int .i64 u] 2 w.heap.size rfl) (by simp)
set_option maxRecDepth 100000 in
set_option maxHeartbeats 4000000 in
theorem tubesFrom_any (n : Nat) (tb : List T3) (s : Int) (A : Option Addr) (c : Nat) (w : World) (hl : tb.length ≤ 24) (hr : Rd3 w w.heap.size A tb) :
    Calls Try.prog 133 #[.agg #[.int .i64 n, .slice A tb.length c], .int .i64 s] w fun e w' => ∃ A' c', e = .returned (.slice A' (tubesL tb s).length c') ∧ w'.ownsRow w.heap.size 2 1 (.slice A' (tubesL tb s).length c') (tubesL tb s).length ((tubesL tb s).map (Value.int .i64)) ∧ Below w.heap.size w w' := by
  obtain ⟨i0, hi0, hz0, hs0, hb0⟩ := info_parts int64_info
  have HR := hide hr
  have b0 : Below w.heap.size w (w.alloc (.cells #[.int .i64 n, .slice A tb.length c] 87)) := (by repeat (first | exact Below.refl _ _ | assumption | (refine Below.alloc ?_ (by simp <;> omega) _) | refine Below.drew ?_ | refine bdn ?_ _))
  have X0 := BoxN.new w #[.int .i64 n, .slice A tb.length c] 87
  have k1 : (w.alloc (.cells #[.int .i64 n, .slice A tb.length c] 87)).cell? ⟨w.heap.size, 1, none⟩ = some (.slice A tb.length c) := X0.cell 1
  have z0 := X0.lt
  clear hr X0
  go_enter Try.func133, Try.ntmps133
  go_upto_region 1 with fail
  generalize w.alloc (.cells #[.int .i64 n, .slice A tb.length c] 87) = w0 at *
  have ho1 := own_new0 w0 w.heap.size 2 1 b0.size
  have HB1 := hide (b0.alloc b0.size (.cells #[] 2))
  have k1' : (w0.alloc (.cells #[] 2)).cell? ⟨w.heap.size, 1, none⟩ = some (.slice A tb.length c) := (World.cell?_alloc_old _ _ _ (by dsimp only; omega)).trans k1
  clear k1
  go_upto_region 2 with fail
  generalize w0.alloc (.cells #[] 2) = w1 at *
  generalize w0.heap.size = g1 at *
  go_wp2_with fail
  go_loopg [5, 12] tb.length (fun g s' i wr => ∃ (k : Nat) (acc : List Int), k ≤ tb.length ∧ Hid (g = tb.length - k) ∧ i = .int .i64 k ∧ acc.length ≤ k ∧ wr.ownsRow w.heap.size 2 1 s' acc.length (acc.map (Value.int .i64)) ∧ Hid (tubesL tb s = acc ++ idxFrom (fun t : T3 => t.a == s) (tb.drop k) k) ∧ Hid (Below w.heap.size w wr))
  case atStart => exact ⟨0, [], by omega, by simp [Hid], rfl, by simp, ho1, by simp [Hid, tubesL], HB1.out⟩
  case round =>
    obtain ⟨k, acc, hk, hg, rfl, hal, hown, HS, HB⟩ := hrel
    clear ho1 HB1 k1'
    by_cases hkt : k < tb.length
    · obtain ⟨pb, po, t, rfl, _, htj, hta, htb, htc⟩ := (HR.out.below HB.out).at_ hkt
      have hzw := HB.out.size
      have HOW := hide (hown.alloc (.cells #[.int .i64 t.a, .int .i64 t.b, .int .i64 t.c] 93))
      have HBT := hide (HB.out.alloc hzw (.cells #[.int .i64 t.a, .int .i64 t.b, .int .i64 t.c] 93))
      have k0 : (wr.alloc (.cells #[.int .i64 t.a, .int .i64 t.b, .int .i64 t.c] 93)).cell? ⟨wr.heap.size, 0, none⟩ = some (.int .i64 t.a) := (BoxN.new wr #[.int .i64 t.a, .int .i64 t.b, .int .i64 t.c] 93).cell 0
      have hS := HS.out
      rw [drop_cons htj] at hS
      clear hown HB HS htj
      go_upto_region 5 with fail
      generalize wr.alloc (.cells #[.int .i64 t.a, .int .i64 t.b, .int .i64 t.c] 93) = wT at *
      by_cases he : t.a = s
      · have hE : (t.a == s) = true := by simp [he]
        have HS2 : Hid (tubesL tb s = (acc ++ [(k : Int)]) ++ idxFrom (fun t : T3 => t.a == s) (tb.drop (k + 1)) (k + 1)) := by
          unfold Hid; rw [hS]; simp only [idxFrom, hE, if_true]; simp
        have HE := hide he
        have hown := HOW.out
        have hzT := HBT.out.size
        clear he hS
        go_wp2_with (at_builtin; go_must (refine wp_app _ rfl _ _ 30 rfl (w.heap.size) 2 i0 (.int .i64 0) 1 8 Try.underlying30 hi0 hz0 hs0 hb0 rfl (by decide) _ _ _ rfl (hown.alloc _) _ _ 1 1 [.int .i64 (k : Int)] rfl rfl (rd_new _ _ _ _ (by first | rfl | simp)) (int_one _) (by omega) (by decide) (by first | omega | (simp <;> omega) | (simp; omega)) ?_); intro v4 w4 hown4 hgrow4 hat4)
        have hb4 := app_below (HBT.out.alloc HBT.out.size (.cells #[.int .i64 (k : Int)] 2)) (hown.alloc (.cells #[.int .i64 (k : Int)] 2)) hgrow4 (Nat.le_refl _) (by simp <;> omega)
        go_roundg (tb.length - (k + 1))
        case measure => have := hg.out; omega
        case rel => exact ⟨k + 1, acc ++ [(k : Int)], by omega, rfl, by go_num, by simp; omega, by simpa using hown4, HS2, hb4⟩
      · have hE : (t.a == s) = false := by simp [he]
        have HS2 : Hid (tubesL tb s = acc ++ idxFrom (fun t : T3 => t.a == s) (tb.drop (k + 1)) (k + 1)) := by
          unfold Hid; rw [hS]; simp only [idxFrom, hE]; rfl
        have HE := hide he
        clear he hS
        go_wp2_with fail
        go_roundg (tb.length - (k + 1))
        case measure => have := hg.out; omega
        case rel => exact ⟨k + 1, acc, by omega, rfl, by go_num, by omega, HOW.out, HS2, HBT⟩
    · have hS := HS.out
      rw [List.drop_eq_nil_of_le (by omega)] at hS
      simp only [idxFrom, List.append_nil] at hS
      have HS2 := hide hS
      obtain ⟨A9, c9, hsh, _⟩ := own_shape hown
      subst hsh
      clear hS
      go_wp2_with fail
      go_ret
      rw [HS2.out]
      exact ⟨A9, c9, rfl, hown, HB.out⟩
set_option maxRecDepth 100000 in
set_option maxHeartbeats 4000000 in
theorem implTubesFrom_any (n : Nat) (tb : List T3) (s : Int) (A : Option Addr) (c : Nat) (w : World) (h : OkNet n tb) (hs : 0 ≤ s ∧ s < n) (hr : Rd3 w w.heap.size A tb) :
    Calls Try.prog 69 #[.agg #[.int .i64 n, .slice A tb.length c], .int .i64 s] w fun e w' => ∃ A' c', e = .returned (.tuple #[.slice A' (tubesL tb s).length c', .int .i64 0]) ∧ RdI w' w'.heap.size A' (tubesL tb s) ∧ Below w.heap.size w w' := by
  have b0 : Below w.heap.size w ((w.alloc (.cells #[.int .i64 n, .slice A tb.length c] 87)).alloc (.cells #[.int .i64 s] 2)) := (by repeat (first | exact Below.refl _ _ | assumption | (refine Below.alloc ?_ (by simp <;> omega) _) | refine Below.drew ?_ | refine bdn ?_ _))
  have X0 := (BoxN.new w #[.int .i64 n, .slice A tb.length c] 87).alloc (.cells #[.int .i64 s] 2)
  have HV := hide (show Calls Try.prog 131 #[.agg #[.int .i64 n, .slice A tb.length c], .slice (some ⟨w.heap.size + 1, 0, none⟩) 1 1] ((w.alloc (.cells #[.int .i64 n, .slice A tb.length c] 87)).alloc (.cells #[.int .i64 s] 2)) _ from by
    have h1 := netCode_any n tb [s] A (some ⟨(w.alloc (.cells #[.int .i64 n, .slice A tb.length c] 87)).heap.size, 0, none⟩) c 1 _ h ((hr.below b0).more b0.size) (by intro z hz; simp at hz; subst hz; omega) (by simp) rdI1
    rw [show (w.alloc (.cells #[.int .i64 n, .slice A tb.length c] 87)).heap.size = w.heap.size + 1 by simp] at h1
    exact h1)
  have HS := hide fun W (hW : Below w.heap.size w W) => tubesFrom_any n tb s A c W h.2.1 ((hr.below hW).more hW.size)
  have k0 : ((w.alloc (.cells #[.int .i64 n, .slice A tb.length c] 87)).alloc (.cells #[.int .i64 s] 2)).cell? ⟨w.heap.size, 0, none⟩ = some (.int .i64 n) := X0.cell 0
  have k1 : ((w.alloc (.cells #[.int .i64 n, .slice A tb.length c] 87)).alloc (.cells #[.int .i64 s] 2)).cell? ⟨w.heap.size, 1, none⟩ = some (.slice A tb.length c) := X0.cell 1
  have z0 := X0.lt
  clear hr h X0 hs
  go_enter Try.func69, Try.ntmps69
  go_wp2_with (first | (go_at_call 131; (with_reducible refine (HV.out).mono ?_); rintro e w1 ⟨rfl, b1⟩; have q0 := (b1.cell (p := ⟨w.heap.size, 0, none⟩) z0).trans k0; have q1 := (b1.cell (p := ⟨w.heap.size, 1, none⟩) z0).trans k1; have bw1 := b0.trans (b1.mono b0.size)) | (go_at_call 133; (with_reducible refine (HS.out _ bw1).mono ?_); rintro e w2 ⟨A', c', rfl, hown, b2⟩))
  go_ret2
  exact ⟨A', c', rfl, Rd.of_own hown, bw1.trans (b2.mono bw1.size)⟩
end Go.Proofs.Ytflbddfmhjlknaa
