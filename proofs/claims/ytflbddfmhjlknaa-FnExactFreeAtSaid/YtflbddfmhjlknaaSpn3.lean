/-
  Spans in a tube and whether a tube is free: the program's answers. Printed by gen_spn3.py.
-/
import Derived.Test.YtflbddfmhjlknaaSpn2
import Derived.Test.YtflbddfmhjlknaaRunV
import Derived.Test.YtflbddfmhjlknaaNestL
namespace Go.Proofs.Ytflbddfmhjlknaa
open Go.RowKit

def pairTN (s : T3) : TN := ⟨[s.b, s.c], 0, 0⟩
def rcode (ts : List Int) (x : List TN) (t : Int) : Int := if vRuns ts x = true then (if inB 0 ((ts.length : Int) - 1) t = true then 0 else 2) else 1
def spansInV (ts : List Int) (x : List TN) (t : Int) : List TN × Int := if rcode ts x t = 0 then ((spIn ts x t).map pairTN, 0) else ([], rcode ts x t)
def fcode (ts : List Int) (x : List TN) (t f k : Int) : Int := if rcode ts x t = 0 then (if inB 0 100000 f = true ∧ inB f 200000 k = true then 0 else 2) else rcode ts x t
def hitT (f k : Int) (s : T3) : Bool := decide (max s.b f < min s.c k)
def freeAtV (ts : List Int) (x : List TN) (t f k : Int) : Bool × Int := if fcode ts x t f k = 0 then (!((spIn ts x t).any (hitT f k)), 0) else (false, fcode ts x t f k)
theorem rcode_ok {ts : List Int} {x : List TN} {t : Int} (h : rcode ts x t = 0) : vRuns ts x = true ∧ 0 ≤ t ∧ t ≤ (ts.length : Int) - 1 := by
  unfold rcode at h
  split at h
  · rename_i hv
    split at h
    · rename_i ht
      exact ⟨hv, inB_iff.1 ht⟩
    · omega
  · omega
theorem pair_small {ss : List T3} (h : ss.length ≤ 1000) : SmallN (ss.map pairTN) := by
  unfold SmallN
  rw [List.length_map, List.map_map]
  have : (ss.map ((fun e : TN => e.way.length) ∘ pairTN)).sum = 2 * ss.length := by
    clear h
    induction ss with
    | nil => rfl
    | cons s ss ih => rw [List.map_cons, List.sum_cons, List.length_cons, ih]; simp [pairTN]; omega
  rw [this]; omega
set_option maxRecDepth 100000 in
set_option maxHeartbeats 4000000 in
theorem runsCode_any (ts : List Int) (x : List TN) (t : Int) (A0 : Option Addr) (c0 : Nat) (A : Option Addr) (c : Nat) (w : World) (h0 : ts.length ≤ 1048576) (hs : SmallN x) (h1 : RdI w w.heap.size A0 ts) (h2 : RN 1 w w.heap.size A x) :
    Calls Try.prog 119 #[.slice A0 ts.length c0, .slice A x.length c, .int .i64 t] w fun e w' => e = .returned (.int .i64 (rcode ts x t)) ∧ Below w.heap.size w w' := by
  have HV := hide (validRuns_any ts x A0 c0 A c w h0 hs h1 h2)
  cases hv : vRuns ts x
  · rw [hv] at HV
    have HR := hide (show rcode ts x t = 1 by simp [rcode, hv])
    clear hv h1 h2
    go_enter Try.func119, Try.ntmps119
    go_wp2_with (go_at_call 148; refine (HV.out).mono ?_; rintro e w1 ⟨rfl, hb1⟩)
    go_ret
    exact ⟨ret_i HR.out.symm, hb1⟩
  rw [hv] at HV
  have hts := (vRuns_iff.1 hv).1.1
  by_cases g : 0 ≤ t ∧ t ≤ (ts.length : Int) - 1
  · have HR := hide (show rcode ts x t = 0 by simp [rcode, hv, inB_t g])
    obtain ⟨g1, g2⟩ := g
    clear hv h1 h2 hts
    go_enter Try.func119, Try.ntmps119
    go_wp2_with (first | (go_at_call 148; refine (HV.out).mono ?_; rintro e w1 ⟨rfl, hb1⟩) | (go_at_call 80; first | (refine (within_t _ _ _ _ (by omega)).mono ?_; rintro e w' ⟨rfl, rfl⟩) | (refine (within_f _ _ _ _ (by omega)).mono ?_; rintro e w' ⟨rfl, rfl⟩)))
    go_ret
    exact ⟨ret_i HR.out.symm, hb1⟩
  · have HR := hide (show rcode ts x t = 2 by simp [rcode, hv, inB_f (show t < 0 ∨ (ts.length : Int) - 1 < t by omega)])
    have g' : t < 0 ∨ (ts.length : Int) - 1 < t := by omega
    clear hv g h1 h2 hts
    go_enter Try.func119, Try.ntmps119
    go_wp2_with (first | (go_at_call 148; refine (HV.out).mono ?_; rintro e w1 ⟨rfl, hb1⟩) | (go_at_call 80; first | (refine (within_t _ _ _ _ (by omega)).mono ?_; rintro e w' ⟨rfl, rfl⟩) | (refine (within_f _ _ _ _ (by omega)).mono ?_; rintro e w' ⟨rfl, rfl⟩)))
    go_ret
    exact ⟨ret_i HR.out.symm, hb1⟩
set_option maxRecDepth 100000 in
set_option maxHeartbeats 8000000 in
theorem P_SpansIn (ts : List Int) (v : Value) (x : List TN) (u : Value) (t : Int) (w : World) (h0 : ts.length ≤ 1048576) (_ : ∀ z ∈ ts, -9223372036854775808 ≤ z ∧ z ≤ 9223372036854775807) (h : R_Int64S w w.heap.size v ts) (hs : SmallN x) (_ : ∀ e ∈ x, e.Fits) (h2 : R_RunS w w.heap.size u x) (_ : -9223372036854775808 ≤ t) (_ : t ≤ 9223372036854775807) :
    Calls Try.prog 50 #[v, u, .int .i64 t] w fun e w' => ∃ r, e = .returned (.tuple #[r, .int .i64 (spansInV ts x t).2]) ∧ O_Int64SS w' w.heap.size w'.heap.size r (spansInV ts x t).1 ∧ Below w.heap.size w w' := by
  obtain ⟨i0, hi0, hz0, hs0, hb0⟩ := info_parts Int64SS_info
  obtain ⟨A0, c0, rfl, h1⟩ := h
  obtain ⟨A, c, rfl, h2⟩ := h2
  have HC := hide (runsCode_any ts x t A0 c0 A c w h0 hs h1 h2)
  by_cases hcd : rcode ts x t = 0
  case neg =>
    have HR := hide (show spansInV ts x t = ([], rcode ts x t) by unfold spansInV; exact if_neg hcd)
    have hne : (rcode ts x t != 0) = true := by simp [hcd]
    generalize rcode ts x t = cd at *
    clear hcd h1 h2
    go_enter Try.func50, Try.ntmps50
    go_wp2_with (go_at_call 119; refine (HC.out).mono ?_; rintro e w1 ⟨rfl, hb1⟩)
    go_ret2
    exact ⟨.slice none 0 0, by rw [HR.out]; rfl, by rw [HR.out]; exact O_Int64SS.nil _ _ _ _ _, hb1⟩
  rw [hcd] at HC
  have HR := hide (show spansInV ts x t = ((spIn ts x t).map pairTN, 0) by unfold spansInV; exact if_pos hcd)
  obtain ⟨hv, ht0, ht1⟩ := rcode_ok hcd
  obtain ⟨hts, hl12, hlo⟩ := vRuns_iff.1 hv
  have HSI := hide fun W (hW : Below w.heap.size w W) => spansIn_any ts x t A0 c0 A c W hts hl12 (fun e he => hlo e he) ((h1.below hW).more hW.size) ((h2.below hW).more hW.size)
  have hsl := spIn_len (ts := ts) (l := x) (t := t) (fun e he => (hlo e he).1.1.2)
  have HLEN := hide hsl
  have hsm : (spIn ts x t).length ≤ 144 := by omega
  clear hcd hv hts hlo h1 h2 hsl
  generalize spIn ts x t = ss at *
  go_enter Try.func50, Try.ntmps50
  go_wp2_with (first | (go_at_call 119; refine (HC.out).mono ?_; rintro e w1 ⟨rfl, b1⟩; have ho1 := own_new0 w1 w.heap.size 30 1 b1.size; have ba := b1.alloc b1.size (.cells #[] 30)) | (go_at_call 120; refine (HSI.out _ ba).mono ?_; rintro e w4 ⟨g4, c4, rfl, o4, b4⟩))
  have hoO := own_below ho1 b4 (Nat.le_refl _)
  obtain ⟨hg4b, hg4s⟩ := o4.lt g4 rfl
  have hne1 : (Value.slice (some ⟨w1.heap.size, 0, none⟩) 0 0).ownBlock ≠ some g4 := by
    simp only [Value.ownBlock]; intro h; injection h with h; simp at hg4b; omega
  have hoS := own_base o4 (show w.heap.size ≤ (w1.alloc (.cells #[] 30)).heap.size from ba.size)
  have HB4 := hide (ba.trans (b4.mono ba.size))
  clear ho1 o4 b4 ba b1 hg4b HC HSI
  go_loopg [9, 25] ss.length (fun g s i wr => ∃ (k : Nat) (ps : List (Value × TN)), k ≤ ss.length ∧ Hid (g = ss.length - k) ∧ i = .int .i64 k ∧ Hid (ps.map (·.2) = (ss.take k).map pairTN) ∧ wr.ownsRow w.heap.size 30 1 s k (ps.flatMap (Nc 0)) ∧ s.ownBlock ≠ some g4 ∧ wr.ownsRow w.heap.size 141 3 (.slice (some ⟨g4, 0, none⟩) ss.length c4) ss.length (ss.flatMap T3.cells) ∧ Hid (FamO wr s.ownBlock w.heap.size wr.heap.size ps) ∧ Hid (Below w.heap.size w wr))
  case atStart => exact ⟨0, [], by omega, by simp [Hid], rfl, by simp [Hid], hoO, hne1, hoS, trivial, HB4.out⟩
  case round =>
    obtain ⟨k, ps, hk, hg, rfl, HP, hown, hne, hoS, HF, HBW⟩ := hrel
    clear hoO hne1
    by_cases hlt : k < ss.length
    · obtain ⟨pb, po, s, hpA, hpb, hs, ha, hbb, hc⟩ := (Rd3.of_own hoS).at_ hlt
      cases hpA
      simp only [Nat.zero_add] at ha hbb hc
      have HP2 := hide (show (ps ++ [((.slice (some ⟨wr.heap.size + 1, 0, none⟩) 2 2 : Value), pairTN s)]).map (·.2) = (ss.take (k + 1)).map pairTN by
        obtain ⟨hk2, he2⟩ := List.getElem?_eq_some_iff.1 hs
        rw [List.take_succ_eq_append_getElem hk2, List.map_append, List.map_append, HP.out, he2]; rfl)
      have hsz := HBW.out.size
      have hzb : (wr.alloc (.cells #[.int .i64 s.a, .int .i64 s.b, .int .i64 s.c] 141)).heap.size = wr.heap.size + 1 := by simp
      have O3 : O_Int64S ((wr.alloc (.cells #[.int .i64 s.a, .int .i64 s.b, .int .i64 s.c] 141)).alloc (.cells #[.int .i64 s.b, .int .i64 s.c] 2)) (wr.heap.size + 1) ((wr.alloc (.cells #[.int .i64 s.a, .int .i64 s.b, .int .i64 s.c] 141)).alloc (.cells #[.int .i64 s.b, .int .i64 s.c] 2)).heap.size (.slice (some ⟨wr.heap.size + 1, 0, none⟩) 2 2) [s.b, s.c] := by
        have h := World.ownsRow_lit (e := 2) (size := 1) (wr.alloc (.cells #[.int .i64 s.a, .int .i64 s.b, .int .i64 s.c] 141)) #[.int .i64 s.b, .int .i64 s.c] 2 (Nat.le_refl _) (by unfold maxLen; omega) (by simp)
        rw [hzb] at h
        exact OwnV.of_row h (by simp)
      have hlg := hide fun g h => (hown.lt g h).2
      have hu1 := (hown.alloc (.cells #[.int .i64 s.a, .int .i64 s.b, .int .i64 s.c] 141)).alloc (.cells #[.int .i64 s.b, .int .i64 s.c] 2)
      have hba := (HBW.out.alloc hsz (.cells #[.int .i64 s.a, .int .i64 s.b, .int .i64 s.c] 141)).alloc (HBW.out.alloc hsz (.cells #[.int .i64 s.a, .int .i64 s.b, .int .i64 s.c] 141)).size (.cells #[.int .i64 s.b, .int .i64 s.c] 2)
      have hbr := ((Below.refl wr.heap.size wr).alloc (Nat.le_refl _) (.cells #[.int .i64 s.a, .int .i64 s.b, .int .i64 s.c] 141)).alloc ((Below.refl wr.heap.size wr).alloc (Nat.le_refl _) (.cells #[.int .i64 s.a, .int .i64 s.b, .int .i64 s.c] 141)).size (.cells #[.int .i64 s.b, .int .i64 s.c] 2)
      have F1 : FamO ((wr.alloc (.cells #[.int .i64 s.a, .int .i64 s.b, .int .i64 s.c] 141)).alloc (.cells #[.int .i64 s.b, .int .i64 s.c] 2)) u9.ownBlock w.heap.size ((wr.alloc (.cells #[.int .i64 s.a, .int .i64 s.b, .int .i64 s.c] 141)).alloc (.cells #[.int .i64 s.b, .int .i64 s.c] 2)).heap.size (ps ++ [(.slice (some ⟨wr.heap.size + 1, 0, none⟩) 2 2, pairTN s)]) :=
        (HF.out.below hbr (Nat.le_refl _)).snoc (p := (.slice (some ⟨wr.heap.size + 1, 0, none⟩) 2 2, pairTN s)) (by omega) (by simp) (Nat.le_refl _) (fun g hg => .inr (by have := hlg.out g hg; omega)) O3 hsz
      have hsb : ((wr.alloc (.cells #[.int .i64 s.a, .int .i64 s.b, .int .i64 s.c] 141)).alloc (.cells #[.int .i64 s.b, .int .i64 s.c] 2)).heap.size ≤ (((wr.alloc (.cells #[.int .i64 s.a, .int .i64 s.b, .int .i64 s.c] 141)).alloc (.cells #[.int .i64 s.b, .int .i64 s.c] 2)).alloc (.cells #[.slice (some ⟨wr.heap.size + 1, 0, none⟩) 2 2] 30)).heap.size := by simp
      have F3 := hide ((F1.below ((Below.refl _ ((wr.alloc (.cells #[.int .i64 s.a, .int .i64 s.b, .int .i64 s.c] 141)).alloc (.cells #[.int .i64 s.b, .int .i64 s.c] 2))).alloc (Nat.le_refl _) (.cells #[.slice (some ⟨wr.heap.size + 1, 0, none⟩) 2 2] 30)) (Nat.le_refl _)).widen (hi' := (((wr.alloc (.cells #[.int .i64 s.a, .int .i64 s.b, .int .i64 s.c] 141)).alloc (.cells #[.int .i64 s.b, .int .i64 s.c] 2)).alloc (.cells #[.slice (some ⟨wr.heap.size + 1, 0, none⟩) 2 2] 30)).heap.size) hsb (Nat.le_refl _))
      have U2 := hide (hu1.alloc (.cells #[.slice (some ⟨wr.heap.size + 1, 0, none⟩) 2 2] 30))
      have BB := hide (hba.alloc hba.size (.cells #[.slice (some ⟨wr.heap.size + 1, 0, none⟩) 2 2] 30))
      have HS4 := hide (((hoS.alloc (.cells #[.int .i64 s.a, .int .i64 s.b, .int .i64 s.c] 141)).alloc (.cells #[.int .i64 s.b, .int .i64 s.c] 2)).alloc (.cells #[.slice (some ⟨wr.heap.size + 1, 0, none⟩) 2 2] 30))
      have HNE := hide hne
      have hg4l := (hoS.lt g4 rfl).2
      have hz3 : w.heap.size ≤ wr.heap.size + 1 + 1 + 1 := by omega
      clear O3 F1 hu1 hba hbr hs hzb hoS hown
      go_wp2_with (at_builtin; go_must (refine wp_app _ rfl _ _ 39 rfl w.heap.size 30 i0 (.slice none 0 0) 1 24 Try.underlying39 hi0 hz0 hs0 hb0 rfl (by decide) _ _ _ rfl U2.out _ _ 1 1 [.slice (some ⟨wr.heap.size + 1, 0, none⟩) 2 2] rfl rfl (rd_new _ _ _ _ (by simp)) (by intro u hu; simp at hu; subst hu; rfl) (by omega) (by decide) BB.out.size ?_); intro v' w2 hown' hgrow hat)
      have hb4 := app_below BB.out U2.out hgrow (Nat.le_refl _) BB.out.size
      have F4 := famO_grown F3.out U2.out hgrow hat
      have hoS2 := HS4.out.kept hgrow (.inr (fun h => HNE.out h.symm))
      have hne2 : v'.ownBlock ≠ some g4 := by
        rcases hat with h | h
        · rw [h]; exact HNE.out
        · rw [h]; intro h2; injection h2 with h2; simp at h2; omega
      go_roundg (ss.length - (k + 1))
      case measure => have := hg.out; omega
      case rel => exact ⟨k + 1, ps ++ [(.slice (some ⟨wr.heap.size + 1, 0, none⟩) 2 2, pairTN s)], by omega, rfl, by go_num, HP2, by rw [List.flatMap_append]; exact hown', hne2, hoS2, hide F4, hide hb4⟩
    · have HPF := hide (show ps.map (·.2) = ss.map pairTN by rw [HP.out, List.take_of_length_le (by omega)])
      have HKL := hide (show k = (ss.map pairTN).length by rw [List.length_map]; omega)
      obtain ⟨A', c', hsh, _⟩ := own_shape hown
      subst hsh
      go_wp2_with fail
      go_ret2
      refine ⟨_, by rw [HR.out]; rfl, ?_, HBW.out⟩
      rw [HR.out]
      exact ⟨ps, HPF.out, by rw [← HKL.out]; exact OwnV.of_row hown (by omega), HF.out, pair_small (by omega)⟩
set_option maxRecDepth 100000 in
set_option maxHeartbeats 4000000 in
theorem freeAt1_any (f k : Int) (bf bk : Nat) (s : T3) (w : World) (kf : w.cell? ⟨bf, 0, none⟩ = some (.int .i64 f)) (kk : w.cell? ⟨bk, 0, none⟩ = some (.int .i64 k)) :
    Calls Try.prog 125 #[.agg #[.int .i64 s.a, .int .i64 s.b, .int .i64 s.c], .pointer (some ⟨bf, 0, none⟩), .pointer (some ⟨bk, 0, none⟩)] w fun e w' => e = .returned (.bool (hitT f k s)) ∧ Below w.heap.size w w' := by
  have hbf := World.block_lt_of_cell? w _ kf
  have hbk := World.block_lt_of_cell? w _ kk
  dsimp only at hbf hbk
  have hb : Below w.heap.size w (w.alloc (.cells #[.int .i64 s.a, .int .i64 s.b, .int .i64 s.c] 141)) := (by repeat (first | exact Below.refl _ _ | assumption | (refine Below.alloc ?_ (by simp <;> omega) _) | refine Below.drew ?_ | refine bdn ?_ _))
  go_enter Try.func125, Try.ntmps125
  go_wp2_with fail
  go_ret
  exact ⟨ret_b rfl, hb⟩
set_option maxRecDepth 100000 in
set_option maxHeartbeats 8000000 in
theorem P_FreeAt (ts : List Int) (v : Value) (x : List TN) (u : Value) (t f k : Int) (w : World) (h0 : ts.length ≤ 1048576) (_ : ∀ z ∈ ts, -9223372036854775808 ≤ z ∧ z ≤ 9223372036854775807) (h : R_Int64S w w.heap.size v ts) (hs : SmallN x) (_ : ∀ e ∈ x, e.Fits) (h2 : R_RunS w w.heap.size u x) (_ : -9223372036854775808 ≤ t) (_ : t ≤ 9223372036854775807) (_ : -9223372036854775808 ≤ f) (_ : f ≤ 9223372036854775807) (_ : -9223372036854775808 ≤ k) (_ : k ≤ 9223372036854775807) :
    Calls Try.prog 59 #[v, u, .int .i64 t, .int .i64 f, .int .i64 k] w fun e w' => e = .returned (.tuple #[.bool (freeAtV ts x t f k).1, .int .i64 (freeAtV ts x t f k).2]) ∧ Below w.heap.size w w' := by
  obtain ⟨A0, c0, rfl, h1⟩ := h
  obtain ⟨A, c, rfl, h2⟩ := h2
  have bx : Below w.heap.size w ((w.alloc (.cells #[.int .i64 f] 2)).alloc (.cells #[.int .i64 k] 2)) := (by repeat (first | exact Below.refl _ _ | assumption | (refine Below.alloc ?_ (by simp <;> omega) _) | refine Below.drew ?_ | refine bdn ?_ _))
  have kf : ((w.alloc (.cells #[.int .i64 f] 2)).alloc (.cells #[.int .i64 k] 2)).cell? ⟨w.heap.size, 0, none⟩ = some (.int .i64 f) := by simp [go_sem]
  have kk : ((w.alloc (.cells #[.int .i64 f] 2)).alloc (.cells #[.int .i64 k] 2)).cell? ⟨w.heap.size + 1, 0, none⟩ = some (.int .i64 k) := by simp [go_sem]
  have zx : ((w.alloc (.cells #[.int .i64 f] 2)).alloc (.cells #[.int .i64 k] 2)).heap.size = w.heap.size + 2 := by simp
  have HC := hide fun W (hW : Below w.heap.size w W) => runsCode_any ts x t A0 c0 A c W h0 hs ((h1.below hW).more hW.size) ((h2.below hW).more hW.size)
  by_cases hcd : rcode ts x t = 0
  case neg =>
    have HR := hide (show freeAtV ts x t f k = (false, rcode ts x t) by
      have : fcode ts x t f k = rcode ts x t := by unfold fcode; exact if_neg hcd
      unfold freeAtV; rw [this, if_neg hcd])
    have hne : (rcode ts x t != 0) = true := by simp [hcd]
    have hne2 : (rcode ts x t == 0) = false := by simp [hcd]
    generalize rcode ts x t = cd at *
    have HX := hide bx
    clear hcd h1 h2 kf kk zx bx
    go_enter Try.func59, Try.ntmps59
    go_wp2_with (go_at_call 119; refine (HC.out _ HX.out).mono ?_; rintro e w1 ⟨rfl, hb1⟩)
    go_ret2
    exact ⟨by rw [HR.out]; rfl, HX.out.trans (hb1.mono HX.out.size)⟩
  rw [hcd] at HC
  obtain ⟨hv, ht0, ht1⟩ := rcode_ok hcd
  obtain ⟨hts, hl12, hlo⟩ := vRuns_iff.1 hv
  have HX := hide bx
  by_cases g : (0 ≤ f ∧ f ≤ 100000) ∧ (f ≤ k ∧ k ≤ 200000)
  case neg =>
    have HR := hide (show freeAtV ts x t f k = (false, 2) by
      have : fcode ts x t f k = 2 := by
        unfold fcode
        rw [if_pos hcd, if_neg (fun h => g ⟨inB_iff.1 h.1, inB_iff.1 h.2⟩)]
      unfold freeAtV; rw [this, if_neg (by omega)])
    clear hcd hv hts hlo h1 h2 bx
    by_cases g1 : 0 ≤ f ∧ f ≤ 100000
    · have g2 : k < f ∨ 200000 < k := by omega
      obtain ⟨g3, g4⟩ := g1
      clear g
      go_enter Try.func59, Try.ntmps59
      go_wp2_with (first | (go_at_call 119; refine (HC.out _ HX.out).mono ?_; rintro e w1 ⟨rfl, hb1⟩; have q0 := (hb1.cell (p := ⟨w.heap.size, 0, none⟩) (by simp <;> omega)).trans kf; have q1 := (hb1.cell (p := ⟨w.heap.size + 1, 0, none⟩) (by simp <;> omega)).trans kk) | (go_at_call 80; first | (refine (within_t _ _ _ _ (by omega)).mono ?_; rintro e w' ⟨rfl, rfl⟩) | (refine (within_f _ _ _ _ (by omega)).mono ?_; rintro e w' ⟨rfl, rfl⟩)))
      go_ret2
      exact ⟨by rw [HR.out]; rfl, HX.out.trans (hb1.mono HX.out.size)⟩
    · have g2 : f < 0 ∨ 100000 < f := by omega
      clear g g1
      go_enter Try.func59, Try.ntmps59
      go_wp2_with (first | (go_at_call 119; refine (HC.out _ HX.out).mono ?_; rintro e w1 ⟨rfl, hb1⟩; have q0 := (hb1.cell (p := ⟨w.heap.size, 0, none⟩) (by simp <;> omega)).trans kf; have q1 := (hb1.cell (p := ⟨w.heap.size + 1, 0, none⟩) (by simp <;> omega)).trans kk) | (go_at_call 80; first | (refine (within_t _ _ _ _ (by omega)).mono ?_; rintro e w' ⟨rfl, rfl⟩) | (refine (within_f _ _ _ _ (by omega)).mono ?_; rintro e w' ⟨rfl, rfl⟩)))
      go_ret2
      exact ⟨by rw [HR.out]; rfl, HX.out.trans (hb1.mono HX.out.size)⟩
  obtain ⟨⟨g1, g2⟩, g3, g4⟩ := g
  have HR := hide (show freeAtV ts x t f k = (!((spIn ts x t).any (hitT f k)), 0) by
    have : fcode ts x t f k = 0 := by
      unfold fcode
      rw [if_pos hcd, if_pos ⟨inB_t ⟨g1, g2⟩, inB_t ⟨g3, g4⟩⟩]
    unfold freeAtV; rw [this, if_pos rfl])
  have HSI := hide fun W (hW : Below w.heap.size w W) => spansIn_any ts x t A0 c0 A c W hts hl12 (fun e he => hlo e he) ((h1.below hW).more hW.size) ((h2.below hW).more hW.size)
  have hsl := spIn_len (ts := ts) (l := x) (t := t) (fun e he => (hlo e he).1.1.2)
  have hsm : (spIn ts x t).length ≤ 144 := by omega
  clear hcd hv hts hlo h1 h2 hsl bx
  generalize spIn ts x t = ss at *
  go_enter Try.func59, Try.ntmps59
  go_wp2_with (first | (go_at_call 119; refine (HC.out _ HX.out).mono ?_; rintro e w1 ⟨rfl, hb1⟩; have q0 := (hb1.cell (p := ⟨w.heap.size, 0, none⟩) (by simp <;> omega)).trans kf; have q1 := (hb1.cell (p := ⟨w.heap.size + 1, 0, none⟩) (by simp <;> omega)).trans kk; have bw1 := HX.out.trans (hb1.mono HX.out.size); have z1 : w.heap.size + 2 ≤ w1.heap.size := (by have := hb1.size; omega)) | (go_at_call 80; first | (refine (within_t _ _ _ _ (by omega)).mono ?_; rintro e w' ⟨rfl, rfl⟩) | (refine (within_f _ _ _ _ (by omega)).mono ?_; rintro e w' ⟨rfl, rfl⟩)) | (go_at_call 120; refine (HSI.out _ bw1).mono ?_; rintro e w2 ⟨g2', c2', rfl, o2, b2⟩; have p0 := (b2.cell (p := ⟨w.heap.size, 0, none⟩) (by dsimp only; omega)).trans q0; have p1 := (b2.cell (p := ⟨w.heap.size + 1, 0, none⟩) (by dsimp only; omega)).trans q1; have bw2 := bw1.trans (b2.mono bw1.size); have hz2 : w.heap.size + 2 ≤ w2.heap.size := Nat.le_trans z1 b2.size; have HCF := hide (containsFuncspan_any (hitT f k) 125 #[.pointer (some ⟨w.heap.size, 0, none⟩), .pointer (some ⟨w.heap.size + 1, 0, none⟩)] ss (some ⟨g2', 0, none⟩) c2' w2 (by omega) (callFunc_gen (P := Try.prog) (F := 125) Try.func125 (by kernel_rfl) (by kernel_rfl)) (Rd3.of_own o2) (fun z W hW => freeAt1_any f k w.heap.size (w.heap.size + 1) z W ((hW.cell (p := ⟨w.heap.size, 0, none⟩) (by dsimp only; omega)).trans p0) ((hW.cell (p := ⟨w.heap.size + 1, 0, none⟩) (by dsimp only; omega)).trans p1)))) | (go_at_call 124; refine (HCF.out).mono ?_; rintro e w3 ⟨rfl, b3⟩))
  go_ret2
  exact ⟨by rw [HR.out]; rfl, bw2.trans (b3.mono bw2.size)⟩
end Go.Proofs.Ytflbddfmhjlknaa
