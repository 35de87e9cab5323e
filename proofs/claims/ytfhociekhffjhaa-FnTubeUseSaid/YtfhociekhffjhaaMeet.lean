/-
  The spans and the end of a run, and the first meeting, in the program.
-/
import Derived.Test.YtfhociekhffjhaaSrc9
import Derived.Test.YtfhociekhffjhaaRunK
import Derived.Test.YtfhociekhffjhaaRunF
import Derived.Test.YtfhociekhffjhaaRunV
import Derived.Test.YtfhociekhffjhaaRec
namespace Go.Proofs.Ytfhociekhffjhaa
open Go.RowKit

set_option maxRecDepth 100000 in
set_option maxHeartbeats 1000000 in
theorem indexFuncSpanB_any (p : T3 → Bool) (F : FuncId) (S : Value) (xs : List T3) (A : Option Addr) (c : Nat) (w : World) (hx : xs.length ≤ 9223372036854775807)
    (hcf : ∀ args w, (callFunc F args).run Try.prog w = .ok (.enter F args) w) (h1 : Rd3 w w.heap.size A xs)
    (hp : ∀ z W, Below w.heap.size w W → Calls Try.prog F #[S, .agg #[.int .i64 z.a, .int .i64 z.b, .int .i64 z.c]] W fun e w' => e = .returned (.bool (p z)) ∧ Below W.heap.size W w') :
    Calls Try.prog 178 #[.slice A xs.length c, .func (.func F) #[S] #[]] w fun e w' => e = .returned (.int .i64 (firstI p xs 0)) ∧ Below w.heap.size w w' := by
  have HP := hide hp; clear hp
  go_enter Try.func178, Try.ntmps178
  go_wp2_with fail
  go_loopg [8] xs.length (fun g i wr => ∃ k : Nat, k ≤ xs.length ∧ Hid (g = xs.length - k) ∧ i = .int .i64 k ∧ Below w.heap.size w wr ∧ Hid (firstI p xs 0 = firstI p (xs.drop k) k))
  case atStart => exact ⟨0, by omega, by simp [Hid], rfl, Below.refl _ _, hide (by simp)⟩
  case round =>
    obtain ⟨k, hk, HG, rfl, hb, HE⟩ := hrel
    by_cases hlt : k < xs.length
    · obtain ⟨b, o, z, rfl, _, hz, hca, hcb, hcc⟩ := (h1.below hb).at_ hlt
      have Z := hide hz; clear hz h1
      have HQ := HP.out z wr hb
      have h := HE.out
      rw [drop_cons Z.out] at h
      cases hpz : p z
      · rw [hpz] at HQ
        have h' := hide (show firstI p xs 0 = firstI p (xs.drop (k + 1)) (k + 1) by simpa [firstI, hpz] using h)
        have HQ' := hide HQ
        clear h HQ hpz HE
        go_wp2_with fail
        refine HQ'.out.mono ?_
        rintro e w1 ⟨rfl, hb1⟩
        go_wp2_with fail
        go_roundg (xs.length - (k + 1))
        case measure => have := HG.out; omega
        case rel => exact ⟨k + 1, by omega, rfl, by go_num, hb.trans (hb1.mono hb.size), h'⟩
      · rw [hpz] at HQ
        have h' := hide (show firstI p xs 0 = k by simpa [firstI, hpz] using h)
        have HQ' := hide HQ
        clear h HQ hpz HE
        go_wp2_with fail
        refine HQ'.out.mono ?_
        rintro e w1 ⟨rfl, hb1⟩
        go_wp2_with fail
        go_ret
        exact ⟨ret_i h'.out.symm, hb.trans (hb1.mono hb.size)⟩
    · go_wp2_with fail
      go_ret
      refine ⟨ret_i ?_, hb⟩
      have h := HE.out
      rw [List.drop_eq_nil_of_le (by omega)] at h
      rw [h]; rfl

set_option maxRecDepth 100000 in
set_option maxHeartbeats 1000000 in
theorem containsFuncSpanB_any (p : T3 → Bool) (F : FuncId) (S : Value) (xs : List T3) (A : Option Addr) (c : Nat) (w : World) (hx : xs.length ≤ 9223372036854775807)
    (hcf : ∀ args w, (callFunc F args).run Try.prog w = .ok (.enter F args) w) (h1 : Rd3 w w.heap.size A xs)
    (hp : ∀ z W, Below w.heap.size w W → Calls Try.prog F #[S, .agg #[.int .i64 z.a, .int .i64 z.b, .int .i64 z.c]] W fun e w' => e = .returned (.bool (p z)) ∧ Below W.heap.size W w') :
    Calls Try.prog 97 #[.slice A xs.length c, .func (.func F) #[S] #[]] w fun e w' => e = .returned (.bool (xs.any p)) ∧ Below w.heap.size w w' := by
  have HC := hide (indexFuncSpanB_any p F S xs A c w hx hcf h1 hp)
  clear hp
  have HE := hide (firstI_ge p xs 0)
  go_enter Try.func97, Try.ntmps97
  go_wp2_with fail
  refine HC.out.mono ?_
  rintro e w1 ⟨rfl, hb⟩
  go_wp2_with fail
  go_ret
  exact ⟨ret_b HE.out, hb⟩

set_option maxRecDepth 100000 in
set_option maxHeartbeats 4000000 in
theorem implEndOfRun_any (ts way : List Int) (f : Int) (A0 : Option Addr) (c0 : Nat) (Aw : Option Addr) (cw : Nat) (w : World) (hts : OkTimes ts) (hw : OkWay ts way) (hf : 0 ≤ f) (hf' : f ≤ 100000) (h1 : RdI w w.heap.size A0 ts) (h2 : RdI w w.heap.size Aw way) :
    Calls Try.prog 16 #[.slice A0 ts.length c0, .agg #[.slice Aw way.length cw, .int .i64 f]] w fun e w' => e = .returned (.tuple #[.int .i64 (endGo ts f way), .int .i64 0]) ∧ Below w.heap.size w w' := by
  have b1 : Below w.heap.size w (w.alloc (.cells #[.slice Aw way.length cw, .int .i64 f] 34)) := (by repeat (first | exact Below.refl _ _ | assumption | (refine Below.alloc ?_ (by simp <;> omega) _) | refine Below.drew ?_ | refine bdn ?_ _))
  have b2 : Below w.heap.size w ((w.alloc (.cells #[.slice Aw way.length cw, .int .i64 f] 34)).alloc (.cells #[.slice Aw way.length cw, .int .i64 f] 34)) := (by repeat (first | exact Below.refl _ _ | assumption | (refine Below.alloc ?_ (by simp <;> omega) _) | refine Below.drew ?_ | refine bdn ?_ _))
  have hrn : RN 1 ((w.alloc (.cells #[.slice Aw way.length cw, .int .i64 f] 34)).alloc (.cells #[.slice Aw way.length cw, .int .i64 f] 34)) ((w.alloc (.cells #[.slice Aw way.length cw, .int .i64 f] 34)).alloc (.cells #[.slice Aw way.length cw, .int .i64 f] 34)).heap.size (some ⟨w.heap.size + 1, 0, none⟩) [⟨way, f, 0⟩] :=
    ⟨[(.slice Aw way.length cw, ⟨way, f, 0⟩)], rfl, (rd_new (w.alloc (.cells #[.slice Aw way.length cw, .int .i64 f] 34)) [.slice Aw way.length cw, .int .i64 f] 34 (w.heap.size + 1) (by simp)).more (by simp), fun p hp => by
      rw [List.mem_singleton] at hp; subst hp
      exact ⟨Aw, cw, rfl, (h2.below b2).more b2.size⟩⟩
  have hv : vRuns ts [⟨way, f, 0⟩] = true := vRuns_iff.2 ⟨hts, by simp, fun e he => by rw [List.mem_singleton] at he; subst he; exact ⟨hw, hf, hf'⟩⟩
  have hsm : SmallN [(⟨way, f, 0⟩ : TN)] := by unfold SmallN; have := hw.1.2; simp; omega
  have HO := hide (validRuns_any ts [⟨way, f, 0⟩] A0 c0 (some ⟨w.heap.size + 1, 0, none⟩) 1 _ (by have := hts.1.2; omega) hsm ((h1.below b2).more b2.size) hrn)
  rw [hv] at HO
  have HSP := hide fun W (hW : Below w.heap.size w W) => endOfRun_any ts way f A0 c0 Aw cw W hts hw hf (by omega) ((h1.below hW).more hW.size) ((h2.below hW).more hW.size)
  clear hv hsm hrn h1 h2 hts hw
  have k0 : (w.alloc (.cells #[.slice Aw way.length cw, .int .i64 f] 34)).cell? ⟨w.heap.size, 0, none⟩ = some (.slice Aw way.length cw) := by simp [go_sem]
  go_enter Try.func16, Try.ntmps16
  go_wp2_with (first | (go_at_call 95; refine (HO.out).mono ?_; rintro e w3 ⟨rfl, b3⟩; have bw3 := b2.trans (b3.mono b2.size); have q0 := (b3.cell (p := ⟨w.heap.size, 0, none⟩) (by simp <;> omega)).trans (show ((w.alloc (.cells #[.slice Aw way.length cw, .int .i64 f] 34)).alloc (.cells #[.slice Aw way.length cw, .int .i64 f] 34)).cell? ⟨w.heap.size, 0, none⟩ = some (.slice Aw way.length cw) by simp [go_sem]); have q1 := (b3.cell (p := ⟨w.heap.size, 1, none⟩) (by simp <;> omega)).trans (show ((w.alloc (.cells #[.slice Aw way.length cw, .int .i64 f] 34)).alloc (.cells #[.slice Aw way.length cw, .int .i64 f] 34)).cell? ⟨w.heap.size, 1, none⟩ = some (.int .i64 f) by simp [go_sem])) | (go_at_call 99; refine (HSP.out _ bw3).mono ?_; rintro e w4 ⟨rfl, b4⟩))
  go_ret2
  exact ⟨rfl, bw3.trans (b4.mono bw3.size)⟩
set_option maxRecDepth 100000 in
set_option maxHeartbeats 4000000 in
theorem implSpansOf_any (ts way : List Int) (f : Int) (A0 : Option Addr) (c0 : Nat) (Aw : Option Addr) (cw : Nat) (w : World) (hts : OkTimes ts) (hw : OkWay ts way) (hf : 0 ≤ f) (hf' : f ≤ 100000) (h1 : RdI w w.heap.size A0 ts) (h2 : RdI w w.heap.size Aw way) :
    Calls Try.prog 15 #[.slice A0 ts.length c0, .agg #[.slice Aw way.length cw, .int .i64 f]] w fun e w' => ∃ A' c', e = .returned (.tuple #[.slice A' way.length c', .int .i64 0]) ∧ RN 0 w' w'.heap.size A' ((spGo ts f way).map spTN) ∧ Below w.heap.size w w' := by
  obtain ⟨i0, hi0, hz0, hs0, hb0⟩ := info_parts Int64SS_info
  have b2 : Below w.heap.size w ((w.alloc (.cells #[.slice Aw way.length cw, .int .i64 f] 34)).alloc (.cells #[.slice Aw way.length cw, .int .i64 f] 34)) := (by repeat (first | exact Below.refl _ _ | assumption | (refine Below.alloc ?_ (by simp <;> omega) _) | refine Below.drew ?_ | refine bdn ?_ _))
  have hrn : RN 1 ((w.alloc (.cells #[.slice Aw way.length cw, .int .i64 f] 34)).alloc (.cells #[.slice Aw way.length cw, .int .i64 f] 34)) ((w.alloc (.cells #[.slice Aw way.length cw, .int .i64 f] 34)).alloc (.cells #[.slice Aw way.length cw, .int .i64 f] 34)).heap.size (some ⟨w.heap.size + 1, 0, none⟩) [⟨way, f, 0⟩] :=
    ⟨[(.slice Aw way.length cw, ⟨way, f, 0⟩)], rfl, (rd_new (w.alloc (.cells #[.slice Aw way.length cw, .int .i64 f] 34)) [.slice Aw way.length cw, .int .i64 f] 34 (w.heap.size + 1) (by simp)).more (by simp), fun p hp => by
      rw [List.mem_singleton] at hp; subst hp
      exact ⟨Aw, cw, rfl, (h2.below b2).more b2.size⟩⟩
  have hv : vRuns ts [⟨way, f, 0⟩] = true := vRuns_iff.2 ⟨hts, by simp, fun e he => by rw [List.mem_singleton] at he; subst he; exact ⟨hw, hf, hf'⟩⟩
  have hsm : SmallN [(⟨way, f, 0⟩ : TN)] := by unfold SmallN; have := hw.1.2; simp; omega
  have HO := hide (validRuns_any ts [⟨way, f, 0⟩] A0 c0 (some ⟨w.heap.size + 1, 0, none⟩) 1 _ (by have := hts.1.2; omega) hsm ((h1.below b2).more b2.size) hrn)
  rw [hv] at HO
  have HSP := hide fun W (hW : Below w.heap.size w W) => spansOf_any ts way f A0 c0 Aw cw W hts hw hf (by omega) ((h1.below hW).more hW.size) ((h2.below hW).more hW.size)
  have hw12 := hw.1.2
  have hw11 := hw.1.1
  have hll := spGo_len ts way f
  have HLL := hide hll
  have hl1 : (spGo ts f way).length ≤ way.length := by omega
  have hl2 : way.length ≤ (spGo ts f way).length := by omega
  have HSB := hide (fun o ho => spGo_ge hts hw.2 (f := f) o ho)
  clear hv hsm hrn h1 h2 hts hw hll
  generalize spGo ts f way = ss at *
  have k0 : (w.alloc (.cells #[.slice Aw way.length cw, .int .i64 f] 34)).cell? ⟨w.heap.size, 0, none⟩ = some (.slice Aw way.length cw) := by simp [go_sem]
  go_enter Try.func15, Try.ntmps15
  go_wp2_with (first | (go_at_call 95; refine (HO.out).mono ?_; rintro e w3 ⟨rfl, b3⟩; have bw3 := b2.trans (b3.mono b2.size); have q0 := (b3.cell (p := ⟨w.heap.size, 0, none⟩) (by simp <;> omega)).trans (show ((w.alloc (.cells #[.slice Aw way.length cw, .int .i64 f] 34)).alloc (.cells #[.slice Aw way.length cw, .int .i64 f] 34)).cell? ⟨w.heap.size, 0, none⟩ = some (.slice Aw way.length cw) by simp [go_sem]); have q1 := (b3.cell (p := ⟨w.heap.size, 1, none⟩) (by simp <;> omega)).trans (show ((w.alloc (.cells #[.slice Aw way.length cw, .int .i64 f] 34)).alloc (.cells #[.slice Aw way.length cw, .int .i64 f] 34)).cell? ⟨w.heap.size, 1, none⟩ = some (.int .i64 f) by simp [go_sem]); have hz3 : w.heap.size < w3.heap.size := (by have := b3.size; simp at this; omega); have bn3 := bw3.alloc bw3.size (.cells #[] 24); have ho3 := own_new0 w3 w.heap.size 24 1 bw3.size) | (go_at_call 96; refine (HSP.out _ bn3).mono ?_; rintro e w4 ⟨A4, c4, rfl, o4, b4⟩))
  have bw4 := bn3.trans (b4.mono bn3.size)
  have hoO := own_below ho3 b4 (Nat.le_refl _)
  obtain ⟨g4, hg4, hg4b, hg4s⟩ := own_posN o4 (by omega)
  cases hg4
  have hne1 : (Value.slice (some ⟨w3.heap.size, 0, none⟩) 0 0).ownBlock ≠ some g4 := by
    simp only [Value.ownBlock]; intro h; injection h with h; simp at hg4b; omega
  have hoS := own_base o4 (show w.heap.size ≤ (w3.alloc (.cells #[] 24)).heap.size from bn3.size)
  have HB4 := hide bw4
  clear ho3 o4 b4 bn3 bw3 b3 q0 q1 hz3 hg4b
  go_loopg [6, 19] way.length (fun g s i wr => ∃ (k : Nat) (ps : List (Value × TN)), k ≤ way.length ∧ Hid (g = way.length - k) ∧ i = .int .i64 k ∧ Hid (ps.map (·.2) = (ss.take k).map spTN) ∧ wr.ownsRow w.heap.size 24 1 s k (ps.flatMap (Nc 0)) ∧ s.ownBlock ≠ some g4 ∧ wr.ownsRow w.heap.size 119 3 (.slice (some ⟨g4, 0, none⟩) way.length c4) way.length (ss.flatMap T3.cells) ∧ Hid (FamO wr s.ownBlock w.heap.size wr.heap.size ps) ∧ Hid (Below w.heap.size w wr))
  case atStart => exact ⟨0, [], by omega, by simp [Hid], rfl, by simp [Hid], hoO, hne1, hoS, trivial, HB4.out⟩
  case round =>
    obtain ⟨k, ps, hk, hg, rfl, HP, hown, hne, hoS, HF, HBW⟩ := hrel
    clear hoO hne1
    by_cases hlt : k < way.length
    · obtain ⟨pb, po, s, hpA, hpb, hs, ha, hbb, hc⟩ := (Rd3.of_own hoS).at_ (show k < ss.length by omega)
      cases hpA
      simp only [Nat.zero_add] at ha hbb hc
      have HP2 := hide (show (ps ++ [((.slice (some ⟨wr.heap.size + 1, 0, none⟩) 3 3 : Value), spTN s)]).map (·.2) = (ss.take (k + 1)).map spTN by
        obtain ⟨hk2, he2⟩ := List.getElem?_eq_some_iff.1 hs
        rw [List.take_succ_eq_append_getElem hk2, List.map_append, List.map_append, HP.out, he2]; rfl)
      have hsz := HBW.out.size
      have hzb : (wr.alloc (.cells #[.int .i64 s.a, .int .i64 s.b, .int .i64 s.c] 119)).heap.size = wr.heap.size + 1 := by simp
      have O3 : O_Int64S ((wr.alloc (.cells #[.int .i64 s.a, .int .i64 s.b, .int .i64 s.c] 119)).alloc (.cells #[.int .i64 s.a, .int .i64 s.b, .int .i64 s.c] 2)) (wr.heap.size + 1) ((wr.alloc (.cells #[.int .i64 s.a, .int .i64 s.b, .int .i64 s.c] 119)).alloc (.cells #[.int .i64 s.a, .int .i64 s.b, .int .i64 s.c] 2)).heap.size (.slice (some ⟨wr.heap.size + 1, 0, none⟩) 3 3) [s.a, s.b, s.c] := by
        have h := World.ownsRow_lit (e := 2) (size := 1) (wr.alloc (.cells #[.int .i64 s.a, .int .i64 s.b, .int .i64 s.c] 119)) #[.int .i64 s.a, .int .i64 s.b, .int .i64 s.c] 3 (Nat.le_refl _) (by unfold maxLen; omega) (by simp)
        rw [hzb] at h
        exact OwnV.of_row h (by simp)
      have hlg := hide fun g h => (hown.lt g h).2
      have hu1 := (hown.alloc (.cells #[.int .i64 s.a, .int .i64 s.b, .int .i64 s.c] 119)).alloc (.cells #[.int .i64 s.a, .int .i64 s.b, .int .i64 s.c] 2)
      have hba := (HBW.out.alloc hsz (.cells #[.int .i64 s.a, .int .i64 s.b, .int .i64 s.c] 119)).alloc (HBW.out.alloc hsz (.cells #[.int .i64 s.a, .int .i64 s.b, .int .i64 s.c] 119)).size (.cells #[.int .i64 s.a, .int .i64 s.b, .int .i64 s.c] 2)
      have hbr := ((Below.refl wr.heap.size wr).alloc (Nat.le_refl _) (.cells #[.int .i64 s.a, .int .i64 s.b, .int .i64 s.c] 119)).alloc ((Below.refl wr.heap.size wr).alloc (Nat.le_refl _) (.cells #[.int .i64 s.a, .int .i64 s.b, .int .i64 s.c] 119)).size (.cells #[.int .i64 s.a, .int .i64 s.b, .int .i64 s.c] 2)
      have F1 : FamO ((wr.alloc (.cells #[.int .i64 s.a, .int .i64 s.b, .int .i64 s.c] 119)).alloc (.cells #[.int .i64 s.a, .int .i64 s.b, .int .i64 s.c] 2)) u6.ownBlock w.heap.size ((wr.alloc (.cells #[.int .i64 s.a, .int .i64 s.b, .int .i64 s.c] 119)).alloc (.cells #[.int .i64 s.a, .int .i64 s.b, .int .i64 s.c] 2)).heap.size (ps ++ [(.slice (some ⟨wr.heap.size + 1, 0, none⟩) 3 3, spTN s)]) :=
        (HF.out.below hbr (Nat.le_refl _)).snoc (p := (.slice (some ⟨wr.heap.size + 1, 0, none⟩) 3 3, spTN s)) (by omega) (by simp) (Nat.le_refl _) (fun g hg => .inr (by have := hlg.out g hg; omega)) O3 hsz
      have hsb : ((wr.alloc (.cells #[.int .i64 s.a, .int .i64 s.b, .int .i64 s.c] 119)).alloc (.cells #[.int .i64 s.a, .int .i64 s.b, .int .i64 s.c] 2)).heap.size ≤ (((wr.alloc (.cells #[.int .i64 s.a, .int .i64 s.b, .int .i64 s.c] 119)).alloc (.cells #[.int .i64 s.a, .int .i64 s.b, .int .i64 s.c] 2)).alloc (.cells #[.slice (some ⟨wr.heap.size + 1, 0, none⟩) 3 3] 24)).heap.size := by simp
      have F3 := hide ((F1.below ((Below.refl _ ((wr.alloc (.cells #[.int .i64 s.a, .int .i64 s.b, .int .i64 s.c] 119)).alloc (.cells #[.int .i64 s.a, .int .i64 s.b, .int .i64 s.c] 2))).alloc (Nat.le_refl _) (.cells #[.slice (some ⟨wr.heap.size + 1, 0, none⟩) 3 3] 24)) (Nat.le_refl _)).widen (hi' := (((wr.alloc (.cells #[.int .i64 s.a, .int .i64 s.b, .int .i64 s.c] 119)).alloc (.cells #[.int .i64 s.a, .int .i64 s.b, .int .i64 s.c] 2)).alloc (.cells #[.slice (some ⟨wr.heap.size + 1, 0, none⟩) 3 3] 24)).heap.size) hsb (Nat.le_refl _))
      have U2 := hide (hu1.alloc (.cells #[.slice (some ⟨wr.heap.size + 1, 0, none⟩) 3 3] 24))
      have BB := hide (hba.alloc hba.size (.cells #[.slice (some ⟨wr.heap.size + 1, 0, none⟩) 3 3] 24))
      have HS4 := hide (((hoS.alloc (.cells #[.int .i64 s.a, .int .i64 s.b, .int .i64 s.c] 119)).alloc (.cells #[.int .i64 s.a, .int .i64 s.b, .int .i64 s.c] 2)).alloc (.cells #[.slice (some ⟨wr.heap.size + 1, 0, none⟩) 3 3] 24))
      have HNE := hide hne
      have hz3 : w.heap.size ≤ wr.heap.size + 1 + 1 + 1 := by omega
      clear O3 F1 hu1 hba hbr hs hzb hoS hown
      go_wp2_with (at_builtin; go_must (refine wp_app _ rfl _ _ 30 rfl w.heap.size 24 i0 (.slice none 0 0) 1 24 Try.underlying30 hi0 hz0 hs0 hb0 rfl (by decide) _ _ _ rfl U2.out _ _ 1 1 [.slice (some ⟨wr.heap.size + 1, 0, none⟩) 3 3] rfl rfl (rd_new _ _ _ _ (by simp)) (by intro u hu; simp at hu; subst hu; rfl) (by omega) (by decide) BB.out.size ?_); intro v' w2 hown' hgrow hat)
      have hb4 := app_below BB.out U2.out hgrow (Nat.le_refl _) BB.out.size
      have F4 := famO_grown F3.out U2.out hgrow hat
      have hoS2 := HS4.out.kept hgrow (.inr (fun h => HNE.out h.symm))
      have hne2 : v'.ownBlock ≠ some g4 := by
        rcases hat with h | h
        · rw [h]; exact HNE.out
        · rw [h]; intro h2; injection h2 with h2; simp at h2; omega
      go_roundg (way.length - (k + 1))
      case measure => have := hg.out; omega
      case rel => exact ⟨k + 1, ps ++ [(.slice (some ⟨wr.heap.size + 1, 0, none⟩) 3 3, spTN s)], by omega, rfl, by go_num, HP2, by rw [List.flatMap_append]; exact hown', hne2, hoS2, hide F4, hide hb4⟩
    · obtain rfl : k = way.length := by omega
      have HPF := hide (show ps.map (·.2) = ss.map spTN by rw [HP.out, List.take_of_length_le (by omega)])
      obtain ⟨A', c', hsh, _⟩ := own_shape hown
      subst hsh
      go_wp2_with fail
      go_ret2
      exact ⟨A', c', rfl, ⟨ps, HPF.out, Rd.of_own hown, HF.out.way⟩, HBW.out⟩
/-- The first tube in which spans of two runs meet; -1 if there is none. -/
def meetT : List T3 → List T3 → Int
  | [], _ => -1
  | s :: r, tt => if tt.any (meet s) = true then s.a else meetT r tt
/-- The first of some runs that a run meets. -/
def fmRow (ts : List Int) (e : TN) : List TN → Nat → Option (Nat × Int)
  | [], _ => none
  | o :: r, k => if 0 ≤ meetT (spGo ts e.p e.way) (spGo ts o.p o.way) then some (k, meetT (spGo ts e.p e.way) (spGo ts o.p o.way)) else fmRow ts e r (k + 1)
def fmStep (i : Nat) (a : Option (Nat × Int)) (b : Option (Nat × Nat × Int)) : Option (Nat × Nat × Int) := match a with
  | some (k, t) => some (i, k, t)
  | none => b
/-- The first meeting from a run on. -/
def fmGo (ts : List Int) (l : List TN) : List TN → Nat → Option (Nat × Nat × Int)
  | [], _ => none
  | e :: r, i => fmStep i (fmRow ts e (l.take i) 0) (fmGo ts l r (i + 1))
def fmV : Option (Nat × Nat × Int) → Value
  | none => .tuple #[.int .i64 0, .int .i64 0, .int .i64 0, .int .i64 3]
  | some (i, k, t) => .tuple #[.int .i64 i, .int .i64 k, .int .i64 t, .int .i64 0]
theorem meetT_ge {ss tt : List T3} (h : ∀ s ∈ ss, 0 ≤ s.a) : decide (0 ≤ meetT ss tt) = ss.any fun s => tt.any (meet s) := by
  induction ss with
  | nil => rfl
  | cons s r ih =>
    rw [meetT, List.any_cons]
    cases hc : tt.any (meet s)
    · rw [if_neg (by simp), ih fun s hs => h s (List.mem_cons_of_mem _ hs)]; rfl
    · rw [if_pos rfl, decide_eq_true (h s (List.mem_cons_self ..))]; rfl
theorem meetT_drop {ss tt : List T3} {i : Nat} {s : T3} (h : ss[i]? = some s) : meetT (ss.drop i) tt = if tt.any (meet s) = true then s.a else meetT (ss.drop (i + 1)) tt := by rw [drop_cons h, meetT]
theorem spGo_a {ts : List Int} : ∀ {way : List Int} {f : Int}, (∀ t ∈ way, 0 ≤ t) → ∀ s ∈ spGo ts f way, 0 ≤ s.a := by
  intro way
  induction way with
  | nil => intro f _ s hs; cases hs
  | cons t r ih =>
    intro f h s hs
    rw [spGo] at hs
    rcases List.mem_cons.1 hs with rfl | hs
    · exact h t (List.mem_cons_self ..)
    · exact ih (fun z hz => h z (List.mem_cons_of_mem _ hz)) s hs
theorem fmRow_drop {ts : List Int} {e o : TN} {x : List TN} {k : Nat} (h : x[k]? = some o) : fmRow ts e (x.drop k) k = if 0 ≤ meetT (spGo ts e.p e.way) (spGo ts o.p o.way) then some (k, meetT (spGo ts e.p e.way) (spGo ts o.p o.way)) else fmRow ts e (x.drop (k + 1)) (k + 1) := by rw [drop_cons h, fmRow]
theorem fmGo_drop {ts : List Int} {l : List TN} {i : Nat} {e : TN} (h : l[i]? = some e) : fmGo ts l (l.drop i) i = fmStep i (fmRow ts e (l.take i) 0) (fmGo ts l (l.drop (i + 1)) (i + 1)) := by rw [drop_cons h, fmGo]
set_option maxRecDepth 100000 in
set_option maxHeartbeats 4000000 in
theorem firstMeeting_any (ts : List Int) (l : List TN) (A0 : Option Addr) (c0 : Nat) (A : Option Addr) (c : Nat) (w : World) (hts : OkTimes ts) (hl12 : l.length ≤ 12) (hlo : ∀ e ∈ l, OkWay ts e.way ∧ 0 ≤ e.p ∧ e.p ≤ 100000) (hcap : l.length ≤ c) (h1 : RdI w w.heap.size A0 ts) (h2 : RN 1 w w.heap.size A l) :
    Calls Try.prog 14 #[.slice A0 ts.length c0, .slice A l.length c] w fun e w' => e = .returned (fmV (fmGo ts l l 0)) ∧ Below w.heap.size w w' := by
  have hv : vRuns ts l = true := vRuns_iff.2 ⟨hts, hl12, fun e he => ⟨(hlo e he).1, (hlo e he).2⟩⟩
  have hsm : SmallN l := by
    unfold SmallN
    have : ∀ x : List TN, (∀ e ∈ x, e.way.length ≤ 12) → (x.map fun e => e.way.length).sum ≤ 12 * x.length := by
      intro x
      induction x with
      | nil => intro _; simp
      | cons e x ih =>
        intro h
        rw [List.map_cons, List.sum_cons, List.length_cons]
        have h1 := h e (List.mem_cons_self ..)
        have h2 := ih fun d hd => h d (List.mem_cons_of_mem _ hd)
        omega
    have := this l fun e he => (hlo e he).1.1.2
    omega
  have HO := hide (validRuns_any ts l A0 c0 A c w (by have := hts.1.2; omega) hsm h1 h2)
  rw [hv] at HO
  have HLO := hide hlo
  have HSP := hide fun (way : List Int) (f : Int) Aw cw W (hW : Below w.heap.size w W) (hw : OkWay ts way) (hf : 0 ≤ f) (hf' : f ≤ 100000) (h : RdI W W.heap.size Aw way) => spansOf_any ts way f A0 c0 Aw cw W hts hw hf (by omega) ((h1.below hW).more hW.size) h
  have HX := hide h2
  clear hv hsm h1 h2 hlo hts
  go_enter Try.func14, Try.ntmps14
  go_wp2_with (go_at_call 95; refine (HO.out).mono ?_; rintro e w1 ⟨rfl, b1⟩)
  have HB1 := hide b1
  clear b1 HO
  go_loopg [21] l.length (fun g i wr => ∃ k : Nat, k ≤ l.length ∧ Hid (g = l.length - k) ∧ i = .int .i64 k ∧ Hid (fmGo ts l l 0 = fmGo ts l (l.drop k) k) ∧ Below w1.heap.size w1 wr)
  case atStart => exact ⟨0, by omega, by simp [Hid], rfl, by simp [Hid], Below.refl _ _⟩
  case round =>
    obtain ⟨i, hi, hgi, rfl, HF, hb⟩ := hrel
    obtain ⟨wI, hwI⟩ : ∃ q, q = wr := ⟨wr, rfl⟩
    subst hwI
    have hbw := HB1.out.trans (hb.mono HB1.out.size)
    by_cases hlt : i < l.length
    · obtain ⟨xb, xo, ex, Ax, cx, rfl, hxb, hex, hrx, hx0', hx1', _⟩ := HX.out.at_ (by omega) hlt
      have hx0 := (hbw.cell (p := ⟨xb, xo + i * 2, none⟩) hxb).trans hx0'
      have hx1 := (hbw.cell (p := ⟨xb, xo + i * 2 + 1, none⟩) hxb).trans (hx1' (by omega))
      obtain ⟨hox, hpx0, hpx1⟩ := HLO.out ex (List.mem_of_getElem? hex)
      have HF' := HF.out
      rw [fmGo_drop hex] at HF'
      have HQ := hide HF'
      have X0 := BoxN.new wI #[.slice Ax ex.way.length cx, .int .i64 ex.p] 34
      have bU : Below w.heap.size w (wI.alloc (.cells #[.slice Ax ex.way.length cx, .int .i64 ex.p] 34)) := hbw.alloc hbw.size _
      have BU1 := hide (hb.alloc hb.size (.cells #[.slice Ax ex.way.length cx, .int .i64 ex.p] 34))
      have zU : (wI.alloc (.cells #[.slice Ax ex.way.length cx, .int .i64 ex.p] 34)).heap.size = wI.heap.size + 1 := by simp
      have HRX := hide hrx
      have HBW := hide hbw
      have hii : (i : Int) ≤ (c : Int) := by omega
      have hi0 : (0 : Int) ≤ (i : Int) := by omega
      clear HF' HF hex hrx hx0' hx1' hb hbw
      go_wp2_with fail
      generalize (wI.alloc (.cells #[.slice Ax ex.way.length cx, .int .i64 ex.p] 34)) = wU at *
      have hzr : wI.heap.size < wU.heap.size := by omega
      have BU := hide bU
      clear bU zU
      go_loopg [30] i (fun g j wr => ∃ k : Nat, k ≤ i ∧ Hid (g = i - k) ∧ j = .int .i64 k ∧ Hid (fmRow ts ex (l.take i) 0 = fmRow ts ex ((l.take i).drop k) k) ∧ Below wU.heap.size wU wr)
      case atStart => exact ⟨0, by omega, by simp [Hid], rfl, by simp [Hid], Below.refl _ _⟩
      case round =>
        obtain ⟨k, hk, hgk, rfl, HR, hb2⟩ := hrel
        have hbw2 := BU.out.trans (hb2.mono BU.out.size)
        by_cases hkt : k < i
        · obtain ⟨ob, oo, eo, Ao, co, hoA, hob, heo, hro, ho0', ho1', _⟩ := HX.out.at_ (by omega) (show k < l.length by omega)
          cases hoA
          have ho0 := (hbw2.cell (p := ⟨xb, xo + k * 2, none⟩) hxb).trans ho0'
          have ho1 := (hbw2.cell (p := ⟨xb, xo + k * 2 + 1, none⟩) hxb).trans (ho1' (by omega))
          obtain ⟨hoo, hpo0, hpo1⟩ := HLO.out eo (List.mem_of_getElem? heo)
          have HR' := HR.out
          rw [fmRow_drop (o := eo) (by rw [List.getElem?_take_of_lt hkt]; exact heo)] at HR'
          have HRQ := hide HR'
          have bV : Below w.heap.size w (wr.alloc (.cells #[.slice Ao eo.way.length co, .int .i64 eo.p] 34)) := hbw2.alloc hbw2.size _
          have x0 := X0.below hb2 hzr
          have hzr2 : wI.heap.size < wr.heap.size := Nat.lt_of_lt_of_le hzr hb2.size
          have bV2 : Below wU.heap.size wU (wr.alloc (.cells #[.slice Ao eo.way.length co, .int .i64 eo.p] 34)) := hb2.alloc hb2.size _
          have hxv := x0.alloc (.cells #[.slice Ao eo.way.length co, .int .i64 eo.p] 34)
          have HCO := hide (HSP.out eo.way eo.p Ao co _ bV hoo hpo0 hpo1 ((hro.below bV).more bV.size))
          have HCX := hide fun W (hW : Below w.heap.size w W) => HSP.out ex.way ex.p Ax cx W hW hox hpx0 hpx1 ((HRX.out.below hW).more hW.size)
          have hle := spGo_len ts eo.way eo.p
          have hlx := spGo_len ts ex.way ex.p
          have HSA := hide (fun s hs => spGo_a (ts := ts) (way := ex.way) (f := ex.p) (fun t ht => (hox.2 t ht).1) s hs)
          have hxw := hox.1.2
          have how := hoo.1.2
          clear HR HR' heo hro ho0' ho1' hoo x0
          generalize spGo ts eo.p eo.way = tt at *
          generalize spGo ts ex.p ex.way = ss at *
          have hl1 : ss.length ≤ ex.way.length := by omega
          have hl2 : ex.way.length ≤ ss.length := by omega
          have hl3 : tt.length ≤ eo.way.length := by omega
          have hl4 : eo.way.length ≤ tt.length := by omega
          have HXV := hide hxv
          have BV := hide bV
          have BV2 := hide bV2
          have HLT := hide hle
          clear hle hlx hxv bV bV2
          go_wp2_with (first | (go_at_call 96; (with_reducible refine (HCO.out).mono ?_); rintro e w5 ⟨A5, c5, rfl, o5, b5⟩; have z5 : wI.heap.size < (wr.alloc (.cells #[.slice Ao eo.way.length co, .int .i64 eo.p] 34)).heap.size := (by simp; omega); have x5 := HXV.out.below b5 z5; have q0 : w5.cell? ⟨wI.heap.size, 0, none⟩ = some (.slice Ax ex.way.length cx) := (by rw [x5.cell]; rfl); have q1 : w5.cell? ⟨wI.heap.size, 1, none⟩ = some (.int .i64 ex.p) := (by rw [x5.cell]; rfl); have bw5 := BV.out.trans (b5.mono BV.out.size)) | (go_at_call 96; refine (HCX.out _ bw5).mono ?_; rintro e w6 ⟨A6, c6, rfl, o6, b6⟩))
          have bw6 := bw5.trans (b6.mono bw5.size)
          have b56 := BV2.out.trans ((b5.trans (b6.mono b5.size)).mono BV2.out.size)
          have S6 := hide (Rd.of_own o6)
          have T6 := hide ((Rd.below (Rd.of_own o5) b6).more b6.size)
          have BW6 := hide bw6
          have B56 := hide b56
          clear q0 q1 x5 b5 b6 bw5 bw6 b56 o5 o6 z5
          go_loopg [42] ex.way.length (fun g j wr => ∃ m : Nat, m ≤ ex.way.length ∧ Hid (g = ex.way.length - m) ∧ j = .int .i64 m ∧ Hid (meetT ss tt = meetT (ss.drop m) tt) ∧ Below w6.heap.size w6 wr)
          case atStart => exact ⟨0, by omega, by simp [Hid], rfl, by simp [Hid], Below.refl _ _⟩
          case round =>
            obtain ⟨m, hm, hgm, rfl, HM, hb6⟩ := hrel
            by_cases hmt : m < ex.way.length
            · obtain ⟨sb, so, s, rfl, hsb, hs, hsa, hsb1, hsc⟩ := (Rd3.below S6.out hb6).at_ (show m < ss.length by omega)
              have HM' := HM.out
              rw [meetT_drop hs] at HM'
              have hs0 := HSA.out s (List.mem_of_getElem? hs)
              have hbx : Below w6.heap.size w6 (wr.alloc (.cells #[.int .i64 s.a, .int .i64 s.b, .int .i64 s.c] 119)) := hb6.alloc hb6.size _
              have HC := hide (containsFuncSpanB_any (meet s) 98 (.agg #[.int .i64 s.a, .int .i64 s.b, .int .i64 s.c]) tt A5 c5 (wr.alloc (.cells #[.int .i64 s.a, .int .i64 s.b, .int .i64 s.c] 119)) (by omega) (callFunc_gen (P := Try.prog) (F := 98) Try.func98 (by kernel_rfl) (by kernel_rfl)) ((Rd3.below T6.out hbx).more hbx.size) (fun z W _ => meet_any s z W))
              have HTL := HLT.out
              rw [HTL] at HC
              have BX9 := hide hbx
              clear HM hs HTL hbx
              cases hany : tt.any (meet s)
              · rw [hany] at HC HM'
                have HN := hide (show meetT ss tt = meetT (ss.drop (m + 1)) tt by rw [HM', if_neg (by simp)])
                clear HM' hany
                go_wp2_with (go_at_call 97; refine (HC.out).mono ?_; rintro e w7 ⟨rfl, b7⟩)
                go_roundg (ex.way.length - (m + 1))
                case measure => have := hgm.out; omega
                case rel => exact ⟨m + 1, by omega, rfl, by go_num, HN, BX9.out.trans (b7.mono BX9.out.size)⟩
              · rw [hany] at HC HM'
                have HN := hide (show meetT ss tt = s.a by rw [HM', if_pos rfl])
                have HRN := hide (show fmRow ts ex (l.take i) 0 = some (k, s.a) by rw [HRQ.out, HN.out, if_pos hs0])
                have HFN := hide (show fmGo ts l l 0 = some (i, k, s.a) by rw [HQ.out, HRN.out]; rfl)
                have hzx : wr.heap.size < (wr.alloc (.cells #[.int .i64 s.a, .int .i64 s.b, .int .i64 s.c] 119)).heap.size := by simp
                clear HM' hany
                go_wp2_with (go_at_call 97; refine (HC.out).mono ?_; rintro e w7 ⟨rfl, b7⟩; have y0 : w7.cell? ⟨wr.heap.size, 0, none⟩ = some (.int .i64 s.a) := (b7.cell (p := ⟨wr.heap.size, 0, none⟩) hzx).trans (by simp [go_sem]))
                have bend := BW6.out.trans ((BX9.out.trans (b7.mono BX9.out.size)).mono BW6.out.size)
                go_quiet (fail)
                go_wp2_with fail
                exact bodyPost_ret (v := .tuple #[.int .i64 i, .int .i64 k, .int .i64 s.a, .int .i64 0]) (by simp [results, Try.results14, go_sem]) rfl ⟨by rw [HFN.out]; rfl, bdn bend _⟩
            · have HN := hide (show meetT ss tt = -1 by rw [HM.out, List.drop_eq_nil_of_le (by omega)]; rfl)
              have HRN := hide (show fmRow ts ex (l.take i) 0 = fmRow ts ex ((l.take i).drop (k + 1)) (k + 1) by rw [HRQ.out, HN.out, if_neg (by omega)])
              have bfin := B56.out.trans (hb6.mono B56.out.size)
              go_wp2_with fail
              go_roundg (i - (k + 1))
              case measure => have := hgk.out; omega
              case rel => exact ⟨k + 1, by omega, rfl, by go_num, HRN, bfin⟩
        · have HRN := hide (show fmRow ts ex (l.take i) 0 = none by rw [HR.out, List.drop_eq_nil_of_le (by rw [List.length_take]; omega)]; rfl)
          have HFN := hide (show fmGo ts l l 0 = fmGo ts l (l.drop (i + 1)) (i + 1) by rw [HQ.out, HRN.out]; rfl)
          go_wp2_with fail
          go_roundg (l.length - (i + 1))
          case measure => have := hgi.out; omega
          case rel => exact ⟨i + 1, by omega, rfl, by go_num, HFN, BU1.out.trans (hb2.mono BU1.out.size)⟩
    · have HN := hide (show fmGo ts l l 0 = none by rw [HF.out, List.drop_eq_nil_of_le (by omega)]; rfl)
      go_wp2_with fail
      refine bodyPost_ret (v := .tuple #[.int .i64 0, .int .i64 0, .int .i64 0, .int .i64 3]) (by simp [results, Try.results14, go_sem]) rfl ⟨by rw [HN.out]; rfl, hbw⟩
end Go.Proofs.Ytfhociekhffjhaa
