/-
  Drawn runs.
-/
import Derived.Test.YtfhociekhffjhaaSrc5
namespace Go.Proofs.Ytfhociekhffjhaa
open Go.RowKit

/-- A drawn run, for n tubes. -/
def RDrawn (n : Nat) (e : TN) : Prop := ((1 ≤ e.way.length ∧ e.way.length ≤ 4) ∧ ∀ z ∈ e.way, 0 ≤ z ∧ z ≤ (n : Int) - 1) ∧ (0 ≤ e.p ∧ e.p ≤ 49) ∧ e.q = 0
theorem small_runs {n : Nat} : ∀ {l : List TN}, (∀ e ∈ l, RDrawn n e) → (l.map fun e => e.way.length).sum ≤ 4 * l.length := by
  intro l
  induction l with
  | nil => intro _; simp
  | cons e l ih =>
    intro h
    rw [List.map_cons, List.sum_cons, List.length_cons]
    have h1 := (h e (List.mem_cons_self ..)).1.1.2
    have h2 := ih fun x hx => h x (List.mem_cons_of_mem _ hx)
    omega
set_option maxRecDepth 100000 in
set_option maxHeartbeats 4000000 in
theorem drawRuns_any (b : Nat) (bs : List Int) (n : Nat) (w : World) (hbs : BsOk bs) (hn : 1 ≤ n) (hn6 : n ≤ 1000) (h : SrcAt b bs 0 w) :
    Calls Try.prog 94 #[.pointer (some ⟨b, 0, none⟩), .int .i64 n] w fun e w' => ∃ (A3 : Option Addr) (c3 : Nat) (l : List TN), e = .returned (.slice A3 l.length c3) ∧ O_RunS w' w.heap.size w'.heap.size (.slice A3 l.length c3) l ∧ (l.length ≤ 4 ∧ ∀ e ∈ l, RDrawn n e) ∧ Only b (b + 1) w w' := by
  obtain ⟨i0, hi0, hz0, hs0, hb0⟩ := info_parts RunS_info
  have hbl := h.lt
  have HP := hide fun M n W (hM : M ≤ 1099511000000) (hW : SrcAt b bs M W) => pick_any b bs M n W hbs hM hW
  have HDW := hide fun M W (hM : M ≤ 1099510000000) (hW : SrcAt b bs M W) => drawWay_any b bs M n W hbs hM hn hn6 hW
  have HS := hide (h.alloc (.cells #[] 34))
  have HC := hide (HP.out 0 5 _ (by omega) HS.out)
  clear h
  go_enter Try.func94, Try.ntmps94
  go_wp2_with (go_at_call 105; refine (HC.out).mono ?_; rintro e w2 ⟨z, rfl, ⟨hz0', hz1', _⟩, hs2, ho2⟩)
  have hz5 := hz1' (by omega)
  obtain ⟨k0, rfl⟩ := Int.eq_ofNat_of_zero_le hz0'
  have hr2' : w2.ownsRow w.heap.size 34 2 (.slice (some ⟨w.heap.size, 0, none⟩) 0 0) 0 (([] : List (Value × TN)).flatMap (Nc 1)) := row_only (own_new0 w w.heap.size 34 2 (Nat.le_refl _)) ho2 hbl
  have o2 : Only b (b + 1) w w2 := only_trans (only_of_below ((Below.refl _ _).alloc (Nat.le_refl _) _)) ho2
  have HS2 := hide hs2
  clear hs2 HS HC ho2 hz1'
  go_loopg [5, 6] k0 (fun g s i wr => ∃ (k : Nat) (ps : List (Value × TN)), g = k ∧ i = .int .i64 k ∧ k + ps.length = k0 ∧ wr.ownsRow w.heap.size 34 2 s ps.length (ps.flatMap (Nc 1)) ∧ Hid (FamO wr s.ownBlock w.heap.size wr.heap.size ps) ∧ Hid (∀ p ∈ ps, RDrawn n p.2) ∧ Hid (SrcAt b bs (2 + 20 * (ps.length : Int)) wr) ∧ Hid (Only b (b + 1) w wr))
  case atStart => exact ⟨k0, [], rfl, by go_num, by simp, hr2', trivial, (fun p hp => by cases hp), HS2.out.more (by simp), o2⟩
  case round =>
    obtain ⟨k, ps, hg, rfl, hka, hown, HFm, HA, HS, HO⟩ := hrel
    clear hr2' HS2 o2
    have HG := hide hg
    clear hg
    have hka1 : k + ps.length ≤ k0 := by omega
    have hka2 : k0 ≤ k + ps.length := by omega
    clear hka
    have hzw := HO.out.size
    by_cases hlt : 0 < k
    · have hkn : (0 : Int) < (k : Int) := by omega
      have HC := hide (HDW.out (2 + 20 * (ps.length : Int)) _ (by omega) HS.out)
      have hlg := hide fun g h => (hown.lt g h).2
      go_wp2_with (go_at_call 174; refine (HC.out).mono ?_; rintro e w3 ⟨A3, c3, way, rfl, hx, ⟨⟨hl1, hl4⟩, hway⟩, hs3, ho3⟩)
      have HWY := hide hway
      have hz3 := ho3.size
      have XQ := hide (BoxN.new w3 #[.slice A3 way.length c3, .int .i64 0] 34)
      have HR3 := hide ((row_only hown ho3 hbl).alloc (.cells #[.slice A3 way.length c3, .int .i64 0] 34))
      have HX3 := hide (OwnV.of_row hx (by omega) : O_Int64S w3 wr.heap.size w3.heap.size (.slice A3 way.length c3) way)
      have HS3 := hide (hs3.alloc (.cells #[.slice A3 way.length c3, .int .i64 0] 34))
      have HO3 := hide ho3
      have hzq : w3.heap.size < (w3.alloc (.cells #[.slice A3 way.length c3, .int .i64 0] 34)).heap.size := by simp
      have HC2 := hide (HP.out (2 + 20 * (ps.length : Int) + 14) 50 _ (by omega) HS3.out)
      clear hway hx hs3 ho3 HC hown
      have hnq : u5.ownBlock = none ∨ u5.ownBlock ≠ some w3.heap.size := .inr (fun e => by have := hlg.out _ e; omega)
      go_wp2_with (first | (go_at_call 105; refine (HC2.out).mono ?_; rintro e w4 ⟨p, rfl, ⟨hp0, hp1', _⟩, hs4, ho4⟩; have XQ4 := XQ.out.only ho4 (.inr (by omega)); have kq := XQ4.fro 1; have kc : w4.cell? ⟨w3.heap.size, 1, none⟩ = some (.int .i64 0) := XQ4.cell 1; have XQ5 := hide (XQ4.set 1 (.int .i64 p)); have y0 : (w4.setCell ⟨w3.heap.size, 1, none⟩ (.int .i64 p)).cell? ⟨w3.heap.size, 0, none⟩ = some (.slice A3 way.length c3) := XQ5.out.cell 0; have y1 : (w4.setCell ⟨w3.heap.size, 1, none⟩ (.int .i64 p)).cell? ⟨w3.heap.size, 1, none⟩ = some (.int .i64 p) := XQ5.out.cell 1; have hz4 := ho4.size; have hz5 : w4.heap.size ≤ (w4.setCell ⟨w3.heap.size, 1, none⟩ (.int .i64 p)).heap.size := (by simp [World.setCell]); have hr5 := (row_only HR3.out ho4 hbl).kept (grown_setCell w4 ⟨w3.heap.size, 1, none⟩ (.int .i64 p)) hnq) | (at_builtin; go_must (refine wp_app _ rfl _ _ 26 rfl w.heap.size 34 i0 (.agg #[.slice none 0 0, .int .i64 0]) 2 32 Try.underlying26 hi0 hz0 hs0 hb0 rfl (by decide) _ _ _ rfl (hr5.alloc _) _ _ 1 1 [.slice A3 way.length c3, .int .i64 p] rfl rfl (rd_new _ _ _ _ (by first | rfl | simp)) (by intro u hu; simp at hu; rcases hu with rfl | rfl <;> rfl) (by omega) (by decide) (by first | omega | (simp; omega)) ?_); intro v6 w6 hown6 hgrow6 hat6))
      have hp1 := hp1' (by omega)
      have oS := only_setC w4 ⟨w3.heap.size, 1, none⟩ (.int .i64 p) (lo := w3.heap.size) (hi := w3.heap.size + 1) ⟨Nat.le_refl _, Nat.lt_succ_self _⟩
      have s5 := hs4.set ⟨w3.heap.size, 1, none⟩ (.int .i64 p) (by dsimp only; omega)
      have hxo := HX3.out.below ((Below.refl _ w3).alloc (Nat.le_refl _) (.cells #[.slice A3 way.length c3, .int .i64 0] 34)) (Nat.le_refl _)
      have o5 : O_Int64S (w4.setCell ⟨w3.heap.size, 1, none⟩ (.int .i64 p)) wr.heap.size w3.heap.size (.slice A3 way.length c3) way := (hxo.kept ho4 (.inr (by omega))).kept oS (.inl (Nat.le_refl _))
      have F0 := HFm.out.kept HO3.out (.inr hbl)
      have F0b := (F0.below ((Below.refl _ w3).alloc (Nat.le_refl _) (.cells #[.slice A3 way.length c3, .int .i64 0] 34)) (by omega)).kept ho4 (.inr hbl)
      have F1 := F0b.kept oS (.inl (by omega))
      have F2 : FamO (w4.setCell ⟨w3.heap.size, 1, none⟩ (.int .i64 p)) u5.ownBlock w.heap.size (w4.setCell ⟨w3.heap.size, 1, none⟩ (.int .i64 p)).heap.size (ps ++ [(.slice A3 way.length c3, ⟨way, p, 0⟩)]) :=
        F1.snoc (hi := (w4.setCell ⟨w3.heap.size, 1, none⟩ (.int .i64 p)).heap.size) (p := (.slice A3 way.length c3, ⟨way, p, 0⟩)) (Nat.le_refl _) hz3 (by omega) (fun g hg => by have := hlg.out g hg; omega) o5 (by omega)
      have F3 := (F2.below ((Below.refl _ (w4.setCell ⟨w3.heap.size, 1, none⟩ (.int .i64 p))).alloc (Nat.le_refl _) (.cells #[.slice A3 way.length c3, .int .i64 p] 34)) (Nat.le_refl _)).widen (hi' := ((w4.setCell ⟨w3.heap.size, 1, none⟩ (.int .i64 p)).alloc (.cells #[.slice A3 way.length c3, .int .i64 p] 34)).heap.size) (by simp) (Nat.le_refl _)
      have oA := hr5.alloc (.cells #[.slice A3 way.length c3, .int .i64 p] 34)
      have F4 := famO_grown F3 oA hgrow6 hat6
      have oq := only_setNew (only_trans (only_alloc (only_trans HO.out HO3.out) (.cells #[.slice A3 way.length c3, .int .i64 0] 34)) ho4) ⟨w3.heap.size, 1, none⟩ (.int .i64 p) (by dsimp only; omega)
      have oz := only_alloc oq (.cells #[.slice A3 way.length c3, .int .i64 p] 34)
      have o6 := only_app oz oA hgrow6 (Nat.le_refl _)
      have s6 := (s5.alloc (.cells #[.slice A3 way.length c3, .int .i64 p] 34)).grown hgrow6 (fun g e => by have := (oA.lt g e).1; omega)
      go_roundg (k - 1)
      case measure => have := HG.out; omega
      case rel =>
        refine ⟨k - 1, ps ++ [(.slice A3 way.length c3, ⟨way, p, 0⟩)], rfl, ?_, by simp; omega, by rw [List.length_append, List.flatMap_append]; exact hown6, hide F4, ?_, s6.more (by simp; omega), o6⟩
        · congr 1; omega
        · intro x hx
          rcases List.mem_append.1 hx with hx | hx
          · exact HA.out x hx
          · rw [List.mem_singleton] at hx; subst hx; exact ⟨⟨⟨hl1, hl4⟩, HWY.out⟩, ⟨hp0, by dsimp only; omega⟩, rfl⟩
    · obtain rfl : k = 0 := by omega
      obtain ⟨Ao, co, hsh, _, _⟩ := own_shape hown
      subst hsh
      go_wp2_with fail
      go_ret
      have hml : (ps.map (·.2)).length = ps.length := List.length_map ..
      have hall : ∀ e ∈ ps.map (·.2), RDrawn n e := fun e he => by
        obtain ⟨p, hp, rfl⟩ := List.mem_map.1 he
        exact HA.out p hp
      refine ⟨Ao, co, ps.map (·.2), by rw [hml]; rfl, ?_, ⟨by omega, hall⟩, HO.out⟩
      refine ⟨ps, rfl, ?_, ?_, ?_⟩
      · rw [hml]; exact OwnV.of_row hown (by omega)
      · rw [hml]; exact HFm.out
      · have := small_runs hall
        unfold SmallN
        omega
set_option maxRecDepth 100000 in
set_option maxHeartbeats 4000000 in
theorem a2Runs_any (bs : List Int) (A : Option Addr) (c : Nat) (A2 : Option Addr) (n c2 : Nat) (w : World) (hbs : BsOk bs) (hn : 1 ≤ n) (hn6 : n ≤ 1000) (h1 : RdB w w.heap.size A bs) :
    Calls Try.prog 13 #[.slice A bs.length c, .slice A2 n c2] w fun e w' => ∃ (A3 : Option Addr) (c3 : Nat) (l : List TN), e = .returned (.slice A3 l.length c3) ∧ O_RunS w' w.heap.size w'.heap.size (.slice A3 l.length c3) l ∧ (l.length ≤ 4 ∧ ∀ e ∈ l, RDrawn n e) ∧ Below w.heap.size w w' := by
  have HF := hide (l00From_any bs A c w hbs.1 h1)
  have HD := hide fun W (hW : SrcAt w.heap.size bs 0 W) => drawRuns_any w.heap.size bs n W hbs hn hn6 hW
  clear h1
  go_enter Try.func13, Try.ntmps13
  go_wp2_with (go_at_call 93; refine (HF.out).mono ?_; rintro e w1 ⟨rfl, hs1, hz1, hb1⟩)
  have HS := hide hs1
  have hz1a : w.heap.size ≤ w1.heap.size := hb1.size
  clear hs1 hz1 HF
  go_wp2_with (go_at_call 94; refine (HD.out _ HS.out).mono ?_; rintro e w2 ⟨A3, c3, l, rfl, ho, hl, ho2⟩)
  go_ret
  exact ⟨A3, c3, l, rfl, ho.widen hz1a (Nat.le_refl _), hl, below_of_src hb1 ho2⟩
end Go.Proofs.Ytfhociekhffjhaa
