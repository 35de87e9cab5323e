/-
  Drawn costs between stations.
  What is wanted at stations is drawn; a stock and what is wanted.
-/
import Derived.Test.YtklfjekpeoigoaaQPressed18
import Derived.Test.YtklfjekpeoigoaaQPressed14
import Derived.Test.YtklfjekpeoigoaaQPressed16
import Derived.Test.YtklfjekpeoigoaaQPressed19
namespace Go.Proofs.Ytklfjekpeoigoaa
open Go.RowKit
theorem own_posN' {w : World} {base : Nat} {e : TypeId} {size n c : Nat} {A : Option Addr} {xs : List Value} (h : w.ownsRow base e size (.slice A n c) n xs) (hn : 0 < n) : ∃ g, A = some ⟨g, 0, none⟩ ∧ base ≤ g ∧ g < w.heap.size := by
  rcases own_block h with ⟨_, h0, _⟩ | ⟨g, hA, h1, h2⟩
  · omega
  · exact ⟨g, hA, h1, h2⟩
theorem Rd.drop' {w : World} {B b o : Nat} {xs : List Value} (h : Rd w B (some ⟨b, o, none⟩) xs) (k : Nat) : Rd w B (some ⟨b, o + k, none⟩) (xs.drop k) := fun hn => by
  have hl : k < xs.length := by
    rcases Nat.lt_or_ge k xs.length with h | h
    · exact h
    · rw [List.drop_eq_nil_of_le h] at hn; exact (hn rfl).elim
  obtain ⟨b', o', hA, hb, hc⟩ := h (by intro e; rw [e] at hl; simp at hl)
  cases hA
  refine ⟨b, o + k, rfl, hb, fun j v hj => ?_⟩
  rw [List.getElem?_drop] at hj
  rw [Nat.add_assoc]
  exact hc (k + j) v hj
/-- Rows of costs as they are drawn. -/
def CoRow (n : Nat) (e : TN) : Prop := e.way.length ≤ n ∧ (∀ z ∈ e.way, -1 ≤ z ∧ z ≤ 1001) ∧ e.p = 0 ∧ e.q = 0
theorem CoRow.fits {n : Nat} {e : TN} (h : CoRow n e) : e.Fits := ⟨fun z hz => by have := h.2.1 z hz; omega, by rw [h.2.2.1]; omega, by rw [h.2.2.2]; omega⟩
theorem co_small {n : Nat} (hn : n ≤ 11) : ∀ {l : List TN}, (∀ e ∈ l, CoRow n e) → (l.map fun e => e.way.length).sum ≤ 11 * l.length := by
  intro l
  induction l with
  | nil => intro _; simp
  | cons e l ih =>
    intro h
    rw [List.map_cons, List.sum_cons, List.length_cons]
    have h1 := (h e (List.mem_cons_self ..)).1
    have h2 := ih fun x hx => h x (List.mem_cons_of_mem _ hx)
    omega
theorem rss_of {w : World} {A : Option Addr} {base n c : Nat} {ps : List (Value × TN)} (h : w.ownsRow base 22 1 (.slice A n c) n (ps.flatMap (Nc 0))) (hl : ps.length = n) (hw : ∀ p ∈ ps, WayAt w w.heap.size p) : R_Int64SS w w.heap.size (.slice A n c) (ps.map (·.2)) :=
  ⟨A, c, by rw [List.length_map, hl], ps, rfl, Rd.of_own h, hw⟩
set_option maxRecDepth 100000 in
set_option maxHeartbeats 4000000 in
theorem drawCosts_any (b : Nat) (bs : List Int) (N : Int) (n : Nat) (w : World) (hbs : BsOk bs) (hN : N ≤ 1099509000000) (hn : 1 ≤ n) (hn11 : n ≤ 11) (h : SrcAt b bs N w) :
    Calls Try.prog 135 #[.pointer (some ⟨b, 0, none⟩), .int .i64 n] w fun e w' => ∃ (A : Option Addr) (c : Nat) (l : List TN), e = .returned (.slice A l.length c) ∧ R_Int64SS w' w'.heap.size (.slice A l.length c) l ∧ (l.length ≤ n ∧ ∀ e ∈ l, CoRow n e) ∧ Only b (b + 1) w w' := by
  obtain ⟨i0, hi0, hz0, hs0, hb0⟩ := info_parts int64_info
  obtain ⟨j0, hj0, hy0, ht0, hc0⟩ := info_parts Int64SS_info
  have hbl := h.lt
  have HP := hide fun M n W (hM : M ≤ 1099511000000) (hW : SrcAt b bs M W) => pick_any b bs M n W hbs hM hW
  have HAM := hide fun M g o c xs W (hM : M ≤ 1099511000000) (hW : SrcAt b bs M W) => among_any b bs M g o c xs W hbs hM hW
  have h1 := hide (h.alloc (.cells #[] 22))
  clear h
  go_enter Try.func135, Try.ntmps135
  go_wp2_with fail
  have hr0 : (w.alloc (.cells #[] 22)).ownsRow w.heap.size 22 1 (.slice (some ⟨w.heap.size, 0, none⟩) 0 0) 0 (([] : List (Value × TN)).flatMap (Nc 0)) := own_new0 w w.heap.size 22 1 (Nat.le_refl _)
  have o0 : Only b (b + 1) w (w.alloc (.cells #[] 22)) := only_of_below ((Below.refl _ _).alloc (Nat.le_refl _) _)
  go_loopg [5, 6] n (fun g s i wr => ∃ (k : Nat) (ps : List (Value × TN)), k ≤ n ∧ Hid (g = n - k) ∧ i = .int .i64 k ∧ Hid (ps.length = k) ∧ wr.ownsRow w.heap.size 22 1 s k (ps.flatMap (Nc 0)) ∧ Hid (FamO wr s.ownBlock w.heap.size wr.heap.size ps) ∧ Hid (∀ p ∈ ps, p.2.way.length = n ∧ CoRow n p.2) ∧ Hid (SrcAt b bs (N + 22 * (k : Int)) wr) ∧ Hid (Only b (b + 1) w wr))
  case atStart => exact ⟨0, [], by omega, by simp [Hid], rfl, rfl, hr0, trivial, (fun p hp => by cases hp), h1.out.more (by omega), o0⟩
  case round =>
    obtain ⟨k, ps, hk, hg, rfl, hpl, hown, HF, HA, HS, HO⟩ := hrel
    clear hr0 o0 h1
    have hzw := HO.out.size
    by_cases hlt : k < n
    · obtain ⟨wU, hwU⟩ : ∃ q, q = wr := ⟨wr, rfl⟩
      subst hwU
      have HROW := hide hown
      have hlg := hide fun g h => (hown.lt g h).2
      have hri : (wU.alloc (.cells #[] 2)).ownsRow wU.heap.size 2 1 (.slice (some ⟨wU.heap.size, 0, none⟩) 0 0) 0 (([] : List Int).map (Value.int .i64)) := own_new0 wU wU.heap.size 2 1 (Nat.le_refl _)
      have oi : Only b (b + 1) wU (wU.alloc (.cells #[] 2)) := only_of_below ((Below.refl _ _).alloc (Nat.le_refl _) _)
      have hsi := hide (HS.out.alloc (.cells #[] 2))
      clear hown
      go_wp2_with fail
      go_loopg [7, 8] n (fun g s i wr => ∃ (m : Nat) (acc : List Int), m ≤ n ∧ Hid (g = n - m) ∧ i = .int .i64 m ∧ Hid (acc.length = m) ∧ wr.ownsRow wU.heap.size 2 1 s m (acc.map (Value.int .i64)) ∧ Hid (∀ z ∈ acc, 0 ≤ z ∧ z ≤ 19) ∧ Hid (SrcAt b bs (N + 22 * (k : Int) + 2 * (m : Int)) wr) ∧ Hid (Only b (b + 1) wU wr))
      case atStart => exact ⟨0, [], by omega, by simp [Hid], rfl, rfl, hri, by simp [Hid], hsi.out.more (by omega), oi⟩
      case round =>
        obtain ⟨m, acc, hm, hgm, rfl, hal, hown, HAc, HSi, HOi⟩ := hrel
        clear hri oi hsi
        have hzi := HOi.out.size
        by_cases hmt : m < n
        · have HC := hide (HP.out (N + 22 * (k : Int) + 2 * (m : Int)) 20 _ (by omega) HSi.out)
          go_wp2_with (first | (go_at_call 134; (with_reducible refine (HC.out).mono ?_); rintro e w2 ⟨y, rfl, ⟨hy0', hy1', _⟩, hs2, ho2⟩; have hy1 := hy1' (by omega); have hr2 := row_only hown ho2 (by omega); have oo2 := only_trans HOi.out ho2; have hz2 := ho2.size) | (at_builtin; go_must (refine wp_app _ rfl _ _ 22 rfl (wU.heap.size) 2 i0 (.int .i64 0) 1 8 Try.underlying22 hi0 hz0 hs0 hb0 rfl (by decide) _ _ _ rfl (hr2.alloc _) _ _ 1 1 [.int .i64 y] rfl rfl (rd_new _ _ _ _ (by first | rfl | simp)) (int_one _) (by omega) (by decide) (by first | omega | (simp <;> omega) | (simp; omega)) ?_); intro v4 w4 hown4 hgrow4 hat4))
          have oA := hr2.alloc (.cells #[.int .i64 y] 2)
          have o4 := only_app (only_alloc oo2 (.cells #[.int .i64 y] 2)) oA hgrow4 (Nat.le_refl _)
          have s4 := (hs2.alloc (.cells #[.int .i64 y] 2)).grown hgrow4 (fun g e => by have := (oA.lt g e).1; omega)
          go_roundg (n - (m + 1))
          case measure => have := hgm.out; omega
          case rel =>
            refine ⟨m + 1, acc ++ [y], by omega, rfl, by go_num, ?_, by rw [List.map_append]; exact hown4, ?_, s4.more (by omega), o4⟩
            · have := hal.out; unfold Hid; rw [List.length_append, this]; rfl
            · intro z hz
              rcases List.mem_append.1 hz with hz | hz
              · exact HAc.out z hz
              · rw [List.mem_singleton] at hz; subst hz; omega
        · obtain rfl : m = n := by omega
          obtain ⟨A3, c3, hsh, _, _⟩ := own_shape hown
          subst hsh
          have hx := hown
          have HX := hide hx
          have hO5 : O_Int64S wr wU.heap.size wr.heap.size (.slice A3 m c3) acc := by
            have h := hal.out
            have h2 : wr.ownsRow wU.heap.size 2 1 (.slice A3 m c3) acc.length (acc.map (Value.int .i64)) := by rw [h]; exact hx
            rw [← h] at h2 ⊢
            exact OwnV.of_row h2 (by omega)
          have F0 := HF.out.kept HOi.out (.inr hbl)
          have F1 : FamO wr u5.ownBlock w.heap.size wr.heap.size (ps ++ [((.slice A3 m c3 : Value), (⟨acc, 0, 0⟩ : TN))]) :=
            F0.snoc (hi := wr.heap.size) (p := (.slice A3 m c3, ⟨acc, 0, 0⟩)) (Nat.le_refl _) hzi (Nat.le_refl _) (fun g hg => .inr (hlg.out g hg)) hO5 hzw
          have F3 := hide ((F1.below ((Below.refl _ wr).alloc (Nat.le_refl _) (.cells #[.slice A3 m c3] 22)) (Nat.le_refl _)).widen (hi' := (wr.alloc (.cells #[.slice A3 m c3] 22)).heap.size) (by simp) (Nat.le_refl _))
          have oA := (row_only HROW.out HOi.out (by omega)).alloc (.cells #[.slice A3 m c3] 22)
          have OA := hide oA
          have SA := hide (HSi.out.alloc (.cells #[.slice A3 m c3] 22))
          have OO := hide (only_alloc (only_trans HO.out HOi.out) (.cells #[.slice A3 m c3] 22))
          have hzz : w.heap.size ≤ wr.heap.size + 1 := by omega
          clear hx hown F0 F1 oA hO5
          go_wp2_with (at_builtin; go_must (refine wp_app _ rfl _ _ 23 rfl w.heap.size 22 j0 (.slice none 0 0) 1 24 Try.underlying23 hj0 hy0 ht0 hc0 rfl (by decide) _ _ _ rfl OA.out _ _ 1 1 [.slice A3 m c3] rfl rfl (rd_new _ _ _ _ (by simp)) (by intro u hu; simp at hu; subst hu; rfl) (by omega) (by decide) (by first | omega | (simp <;> omega) | (simp; omega)) ?_); intro v6 w6 hown6 hgrow6 hat6)
          have F4 := famO_grown F3.out OA.out hgrow6 hat6
          have o6 := only_app OO.out OA.out hgrow6 (Nat.le_refl _)
          have s6 := SA.out.grown hgrow6 (fun g e => by have := (OA.out.lt g e).1; omega)
          go_roundg (m - (k + 1))
          case measure => have := hg.out; omega
          case rel =>
            refine ⟨k + 1, ps ++ [(.slice A3 m c3, ⟨acc, 0, 0⟩)], by omega, rfl, by go_num, ?_, by rw [List.flatMap_append]; exact hown6, hide F4, ?_, s6.more (by omega), o6⟩
            · have := hpl.out; unfold Hid; rw [List.length_append, this]; rfl
            · intro x hx
              rcases List.mem_append.1 hx with hx | hx
              · exact HA.out x hx
              · rw [List.mem_singleton] at hx; subst hx; exact ⟨hal.out, ⟨by have := hal.out; dsimp only; omega, fun z hz => by have := HAc.out z hz; omega, rfl, rfl⟩⟩
    · obtain rfl : k = n := by omega
      obtain ⟨Ao, co, hsh, hco, _⟩ := own_shape hown
      subst hsh
      obtain ⟨gb, rfl, hgb0, hgb⟩ := own_posN' hown (by omega)
      have HROW := hide hown
      have HC := hide (HP.out (N + 22 * (k : Int)) 16 _ (by omega) HS.out)
      obtain ⟨p0, ps', rfl⟩ : ∃ p0 ps', ps = p0 :: ps' := by
        cases ps with
        | nil => have := hpl.out; simp at this; omega
        | cons p ps' => exact ⟨p, ps', rfl⟩
      clear hown HS
      have hk0 : (0 : Int) < (k : Int) := by omega
      go_upto_if 35 with (go_at_call 134; (with_reducible refine (HC.out).mono ?_); rintro e w2 ⟨v, rfl, _, hs2, ho2⟩)
      have HR2 := hide (row_only HROW.out ho2 (by omega))
      have HF2 := HF.out.kept ho2 (.inr hbl)
      have HS2 := hide hs2
      have HO2 := hide (only_trans HO.out ho2)
      have hz2 := ho2.size
      obtain ⟨ra, rb, hra1, hra2, hra3, hra4, hOr, hFr⟩ := HF2
      obtain ⟨pv, e0⟩ := p0
      dsimp only at hOr hra4
      obtain ⟨hel, hec⟩ := HA.out (pv, e0) (List.mem_cons_self ..)
      dsimp only at hel hec
      obtain ⟨Ar, cr, rfl⟩ := hOr.1
      obtain ⟨hrow0, hrlt⟩ := hOr.2.2.resolve_left (by omega)
      obtain ⟨g0, rfl, hg0a, hg0b⟩ := own_posN' hrow0 (by omega)
      have hg0lt := hrlt g0 rfl
      have hne0 := hra4 gb rfl
      have hgne : gb ≠ g0 := by omega
      obtain ⟨z0, rest, hway⟩ : ∃ z0 rest, e0.way = z0 :: rest := by
        cases hc : e0.way with
        | nil => rw [hc] at hel; simp at hel; omega
        | cons z r => exact ⟨z, r, rfl⟩
      have hgb2 := (HR2.out.lt gb rfl).2
      have HROW0 := hide hrow0
      have HFR := hide hFr
      have HOR := hide hOr
      have HHD : Hid (w2.cell? ⟨gb, 0, none⟩ = some (.slice (some ⟨g0, 0, none⟩) e0.way.length cr)) := by
        have h := HR2.out.cellAt 0 (by omega)
        exact h.trans rfl
      have HREST : Hid (∀ e ∈ ps'.map (·.2), CoRow k e) := fun e he => by
        obtain ⟨q, hq, rfl⟩ := List.mem_map.1 he
        exact (HA.out q (List.mem_cons_of_mem _ hq)).2
      have hpl1 : ps'.length + 1 = k := by have := hpl.out; simpa using this
      have HPL := hide hpl1
      have HEL := hide hel
      have HWAY := hide hway
      clear hs2 ho2 HC HROW HO HF hrow0 hFr hOr hrlt hra4 hpl1 hway
      by_cases hv0 : v = 0
      · subst hv0
        go_wp2_with fail
        have e1 : w2.drew.cell? ⟨gb, 0, none⟩ = some (.slice (some ⟨g0, 0, none⟩) e0.way.length cr) := HHD.out
        have SD : Hid (SrcAt b bs (N + 22 * (k : Int) + 2) w2.drew) := HS2.out.below (B := b + 1) (Below.refl _ _).drew (Nat.lt_succ_self b)
        have RD : Hid (w2.drew.ownsRow w.heap.size 22 1 (.slice (some ⟨gb, 0, none⟩) k co) k (((.slice (some ⟨g0, 0, none⟩) e0.way.length cr, e0) :: ps').flatMap (Nc 0))) := HR2.out
        have QD : Hid (w2.drew.ownsRow ra 2 1 (.slice (some ⟨g0, 0, none⟩) e0.way.length cr) e0.way.length (e0.way.map (Value.int .i64))) := HROW0.out
        have OD := hide (only_trans HO2.out (only_of_below (Below.refl _ w2).drew))
        have FD : Hid (FamO w2.drew (some gb) rb wr.heap.size ps') := HFR.out.below (Below.refl w2.heap.size w2).drew hz2
        have zd1 : gb < w2.drew.heap.size := hgb2
        have zd2 : wr.heap.size ≤ w2.drew.heap.size := hz2
        clear HHD HS2 HR2 HROW0 HO2 HFR HOR hgb2 hz2
        refine wp_region_held_drew (S := fun W => W.cell? ⟨gb, 0, none⟩ = some (.slice (some ⟨g0, 0, none⟩) e0.way.length cr)) (by kernel_rfl) (e1) (fun hHeld => ?_)
        generalize w2.drew = wd at *
        have S4 := hide (SD.out.alloc (.cells #[.int .i64 (-1), .int .i64 0, .int .i64 1000, .int .i64 1001] 2))
        have R4 := hide (RD.out.alloc (.cells #[.int .i64 (-1), .int .i64 0, .int .i64 1000, .int .i64 1001] 2))
        have Q4 := hide (QD.out.alloc (.cells #[.int .i64 (-1), .int .i64 0, .int .i64 1000, .int .i64 1001] 2))
        have O4 := hide (only_alloc OD.out (.cells #[.int .i64 (-1), .int .i64 0, .int .i64 1000, .int .i64 1001] 2))
        have F4 := hide (FD.out.below ((Below.refl wd.heap.size wd).alloc (Nat.le_refl _) (.cells #[.int .i64 (-1), .int .i64 0, .int .i64 1000, .int .i64 1001] 2)) zd2)
        have ham : Calls Try.prog 150 #[.pointer (some ⟨b, 0, none⟩), .slice (some ⟨wd.heap.size, 0, none⟩) 4 4] (wd.alloc (.cells #[.int .i64 (-1), .int .i64 0, .int .i64 1000, .int .i64 1001] 2)) fun e w' => ∃ z, e = .returned (.int .i64 z) ∧ z ∈ ([(-1), 0, 1000, 1001] : List Int) ∧ SrcAt b bs (N + 22 * (k : Int) + 2 + 2) w' ∧ Only b (b + 1) (wd.alloc (.cells #[.int .i64 (-1), .int .i64 0, .int .i64 1000, .int .i64 1001] 2)) w' := HAM.out (N + 22 * (k : Int) + 2) wd.heap.size 0 4 ([(-1), 0, 1000, 1001] : List Int) _ (by omega) S4.out (by omega) (by simp) (by simp) (by simp) (fun j z hj => by
            match j, hj with
            | 0, hj => simp at hj; subst hj; simp [go_sem]
            | 1, hj => simp at hj; subst hj; simp [go_sem]
            | 2, hj => simp at hj; subst hj; simp [go_sem]
            | 3, hj => simp at hj; subst hj; simp [go_sem]
            | j + 4, hj => simp at hj)
        have HAMH := hide ham
        clear ham
        have g1 : (wd.alloc (.cells #[.int .i64 (-1), .int .i64 0, .int .i64 1000, .int .i64 1001] 2)).cell? ⟨gb, 0, none⟩ = some (.slice (some ⟨g0, 0, none⟩) e0.way.length cr) := (World.cell?_alloc_old _ _ _ (by dsimp only; omega)).trans e1
        refine wpAnyH_take (i := 0) (v := ?_) rfl (by kernel_rfl) (by kernel_rfl) (by kernel_rfl) (fun _ _ _ h => h) (Or.inl ⟨by rfl, ?_⟩) (by assumption) ?_
        rotate_left 1
        · (intro w hSw; (try dsimp only at hSw); go_simp; try with_reducible rfl)
        try simp only [Act.put, List.getElem_toArray, List.getElem_cons_succ, List.getElem_cons_zero, List.setIfInBounds_toArray, List.set_cons_zero, List.set_cons_succ]
        refine wpAnyH_take (i := 1) (v := ?_) rfl (by kernel_rfl) (by kernel_rfl) (by kernel_rfl) (fun _ _ _ h => h) (Or.inl ⟨by rfl, ?_⟩) (by assumption) ?_
        rotate_left 1
        · (intro w hSw; (try dsimp only at hSw); go_simp; try with_reducible rfl)
        try simp only [Act.put, List.getElem_toArray, List.getElem_cons_succ, List.getElem_cons_zero, List.setIfInBounds_toArray, List.set_cons_zero, List.set_cons_succ]
        refine wpAnyH_take (i := 2) (v := ?_) rfl (by kernel_rfl) (by kernel_rfl) (by kernel_rfl) (fun _ _ _ h => h) (Or.inl ⟨by rfl, ?_⟩) (by assumption) ?_
        rotate_left 1
        · (intro w hSw; (try dsimp only at hSw); go_simp; try with_reducible rfl)
        try simp only [Act.put, List.getElem_toArray, List.getElem_cons_succ, List.getElem_cons_zero, List.setIfInBounds_toArray, List.set_cons_zero, List.set_cons_succ]
        refine wpAnyH_take (i := 3) (v := ?_) rfl (by kernel_rfl) (by kernel_rfl) (by kernel_rfl) (fun _ _ _ h => h) (Or.inl ⟨by rfl, ?_⟩) (by assumption) ?_
        rotate_left 1
        · (intro w hSw; (try dsimp only at hSw); go_simp; try with_reducible rfl)
        try simp only [Act.put, List.getElem_toArray, List.getElem_cons_succ, List.getElem_cons_zero, List.setIfInBounds_toArray, List.set_cons_zero, List.set_cons_succ]
        refine wpAnyH_ready (rs := [4]) (by kernel_rfl) (by simp) ?_
        refine AllReadyH.cons rfl (fun K hK => ?_) AllReadyH.nil
        try simp only [Act.put, List.getElem_toArray, List.getElem_cons_succ, List.getElem_cons_zero, List.setIfInBounds_toArray, List.set_cons_zero, List.set_cons_succ]
        go_simp
        refine hK.out _ _ (g1) (fun hHeld => ?_)
        clear hK K
        try simp only [Act.put, List.getElem_toArray, List.getElem_cons_succ, List.getElem_cons_zero, List.setIfInBounds_toArray, List.set_cons_zero, List.set_cons_succ]
        refine wpAnyH_ready (rs := [5]) (by kernel_rfl) (by simp) ?_
        refine AllReadyH.cons rfl (fun K hK => ?_) AllReadyH.nil
        try simp only [Act.put, List.getElem_toArray, List.getElem_cons_succ, List.getElem_cons_zero, List.setIfInBounds_toArray, List.set_cons_zero, List.set_cons_succ]
        go_simp
        go_at_call 150
        refine HAMH.out.mono ?_
        rintro e' w4 ⟨z, rfl, hz, hs4, ho4⟩
        have R5 := hide (row_only R4.out ho4 (by omega))
        have Q5 := hide (row_only Q4.out ho4 (by omega))
        have F5 := hide (F4.out.kept ho4 (.inr (by omega)))
        have h5 : w4.cell? ⟨gb, 0, none⟩ = some (.slice (some ⟨g0, 0, none⟩) e0.way.length cr) := (R5.out.cellAt 0 (by omega)).trans rfl
        have c5 : w4.cell? ⟨g0, 0, none⟩ = some (.int .i64 z0) := (Q5.out.cellAt 0 (by omega)).trans (by rw [HWAY.out]; rfl)
        have f5 := Q5.out.frozenAt 0
        have ST := hide (Q5.out.stored 0 (.int .i64 z))
        dsimp only
        refine hK.out _ _ (h5) (fun hHeld => ?_)
        clear hK K
        try simp only [Act.put, List.getElem_toArray, List.getElem_cons_succ, List.getElem_cons_zero, List.setIfInBounds_toArray, List.set_cons_zero, List.set_cons_succ]
        refine wpAnyH_take (i := 6) (v := ?_) rfl (by kernel_rfl) (by kernel_rfl) (by kernel_rfl) (fun _ _ _ h => h) (Or.inl ⟨by rfl, ?_⟩) (by assumption) ?_
        rotate_left 1
        · (intro w hSw; (try dsimp only at hSw); go_simp; try with_reducible rfl)
        try simp only [Act.put, List.getElem_toArray, List.getElem_cons_succ, List.getElem_cons_zero, List.setIfInBounds_toArray, List.set_cons_zero, List.set_cons_succ]
        have h6 : (w4.setCell ⟨g0, 0, none⟩ (.int .i64 z)).cell? ⟨gb, 0, none⟩ = some (.slice (some ⟨g0, 0, none⟩) e0.way.length cr) := (World.cell?_setCell_other w4 ⟨g0, 0, none⟩ ⟨gb, 0, none⟩ (.int .i64 z) (fun e => hgne (Addr.mk.inj e).1.symm)).trans h5
        refine wpAnyH_ready (rs := [7]) (by kernel_rfl) (by simp) ?_
        refine AllReadyH.cons rfl (fun K hK => ?_) AllReadyH.nil
        try simp only [Act.put, List.getElem_toArray, List.getElem_cons_succ, List.getElem_cons_zero, List.setIfInBounds_toArray, List.set_cons_zero, List.set_cons_succ]
        go_simp
        refine hK.out _ _ (h6) (fun hHeld => ?_)
        clear hK K
        try simp only [Act.put, List.getElem_toArray, List.getElem_cons_succ, List.getElem_cons_zero, List.setIfInBounds_toArray, List.set_cons_zero, List.set_cons_succ]
        refine wpAnyH_done (by kernel_rfl) ?_ _
        go_wp2_with fail
        go_ret
        have hway := HWAY.out
        have hrl : rest.length + 1 = e0.way.length := by rw [hway]; rfl
        have hpl1 := HPL.out
        have R6 : (w4.setCell ⟨g0, 0, none⟩ (.int .i64 z)).ownsRow w.heap.size 22 1 (.slice (some ⟨gb, 0, none⟩) k co) k ((((.slice (some ⟨g0, 0, none⟩) e0.way.length cr : Value), (⟨z :: rest, 0, 0⟩ : TN)) :: ps').flatMap (Nc 0)) := R5.out.kept (grown_setC w4 g0 0 (.int .i64 z)) (.inr (fun h => by have h0 : (some gb : Option Nat) = some g0 := h; exact hgne (Option.some.inj h0)))
        have F6 := F5.out.kept (only_setC w4 ⟨g0, 0, none⟩ (.int .i64 z) (lo := g0) (hi := g0 + 1) ⟨Nat.le_refl _, Nat.lt_succ_self _⟩) (.inr (by omega))
        have W6 : RdI (w4.setCell ⟨g0, 0, none⟩ (.int .i64 z)) (w4.setCell ⟨g0, 0, none⟩ (.int .i64 z)).heap.size (some ⟨g0, 0, none⟩) (z :: rest) := by
          have h := Rd.of_own ST.out.1
          rw [hway] at h
          exact h
        have hzb : -1 ≤ z ∧ z ≤ 1001 := by simp at hz; omega
        refine ⟨some ⟨gb, 0, none⟩, co, ⟨z :: rest, 0, 0⟩ :: ps'.map (·.2), by rw [List.length_cons, List.length_map, hpl1]; rfl, ?_, ⟨by rw [List.length_cons, List.length_map]; omega, fun e he => ?_⟩, only_setNew (only_trans O4.out ho4) ⟨g0, 0, none⟩ _ (by dsimp only; omega)⟩
        · rw [List.length_cons, List.length_map, hpl1]
          refine rss_of R6 (by simp; omega) fun p hp => ?_
          rcases List.mem_cons.1 hp with rfl | hp
          · exact ⟨some ⟨g0, 0, none⟩, cr, by dsimp only; rw [List.length_cons, hrl], W6⟩
          · exact F6.way p hp
        · rcases List.mem_cons.1 he with rfl | he
          · refine ⟨by dsimp only; rw [List.length_cons]; omega, fun u hu => ?_, rfl, rfl⟩
            rcases List.mem_cons.1 hu with rfl | hu
            · exact hzb
            · exact hec.2.1 u (by rw [hway]; exact List.mem_cons_of_mem _ hu)
          · exact HREST.out e he
      · have hB0 : (v == 0) = false := by simp [hv0]
        have HV := hide hv0
        clear hv0
        by_cases hv1 : v = 1
        · subst hv1
          have h2 := HHD.out
          have f2 := HR2.out.frozenAt 0
          have hkp : 0 < k := by omega
          have hl1 : 1 ≤ e0.way.length := by omega
          have hlc : e0.way.length ≤ cr := by
            obtain ⟨_, _, e, h, _⟩ := own_shape HROW0.out
            simp only [Value.slice.injEq] at e
            omega
          by_cases hc1 : 1 < cr
          · have ST := hide (HR2.out.stored 0 (.slice (some ⟨g0, 0 + 1, none⟩) (e0.way.length - 1) (cr - 1)))
            clear hel
            go_wp2_with fail
            go_ret
            have hway := HWAY.out
            have hrl : rest.length + 1 = e0.way.length := by rw [hway]; rfl
            have hpl1 := HPL.out
            have hel := HEL.out
            have F6 := HFR.out.keptB (only_setC w2 ⟨gb, 0, none⟩ (.slice (some ⟨g0, 0 + 1, none⟩) (e0.way.length - 1) (cr - 1)) (lo := gb) (hi := gb + 1) ⟨Nat.le_refl _, Nat.lt_succ_self _⟩)
            have W6 := RdI.drop (Rd.of_own (HROW0.out.kept ST.out.2 (.inr (fun h => by have h0 : (some g0 : Option Nat) = some gb := h; exact hgne (Option.some.inj h0).symm)))) 1
            refine ⟨some ⟨gb, 0, none⟩, co, ⟨rest, 0, 0⟩ :: ps'.map (·.2), by rw [List.length_cons, List.length_map, hpl1]; rfl, ?_, ⟨by rw [List.length_cons, List.length_map]; omega, fun e he => ?_⟩, only_setNew HO2.out ⟨gb, 0, none⟩ _ hgb0⟩
            · rw [List.length_cons, List.length_map, hpl1]
              refine rss_of (ps := (.slice (some ⟨g0, 0 + 1, none⟩) (e0.way.length - 1) (cr - 1), ⟨rest, 0, 0⟩) :: ps') ST.out.1 (by simp; omega) fun p hp => ?_
              rcases List.mem_cons.1 hp with rfl | hp
              · refine ⟨some ⟨g0, 0 + 1, none⟩, cr - 1, by dsimp only; congr 1; omega, ?_⟩
                rw [show e0.way.drop 1 = rest by rw [hway]; rfl] at W6
                exact W6
              · exact F6.way p hp
            · rcases List.mem_cons.1 he with rfl | he
              · exact ⟨by dsimp only; omega, fun u hu => hec.2.1 u (by rw [hway]; exact List.mem_cons_of_mem _ hu), rfl, rfl⟩
              · exact HREST.out e he
          · have ST := hide (HR2.out.stored 0 (.slice (some ⟨g0, 0, none⟩) (e0.way.length - 1) 0))
            have HE1 := hide (show e0.way.length = 1 by omega)
            have HK1 := hide (show k = 1 by omega)
            have hcr : cr = 1 := by omega
            have hc2 : (cr : Int) = 1 := by omega
            have hl2 : (e0.way.length : Int) = 1 := by omega
            clear hel
            go_wp2_with fail
            go_ret
            have hway := HWAY.out
            have hrl : rest.length + 1 = e0.way.length := by rw [hway]; rfl
            have hpl1 := HPL.out
            have hel := HEL.out
            have F6 := HFR.out.keptB (only_setC w2 ⟨gb, 0, none⟩ (.slice (some ⟨g0, 0, none⟩) (e0.way.length - 1) 0) (lo := gb) (hi := gb + 1) ⟨Nat.le_refl _, Nat.lt_succ_self _⟩)
            have hr0 : rest = [] := by cases rest with | nil => rfl | cons y r => have := HE1.out; rw [hway] at this; simp at this
            refine ⟨some ⟨gb, 0, none⟩, co, ⟨rest, 0, 0⟩ :: ps'.map (·.2), by rw [List.length_cons, List.length_map, hpl1]; rfl, ?_, ⟨by rw [List.length_cons, List.length_map]; omega, fun e he => ?_⟩, only_setNew HO2.out ⟨gb, 0, none⟩ _ hgb0⟩
            · rw [List.length_cons, List.length_map, hpl1]
              refine rss_of (ps := (.slice (some ⟨g0, 0, none⟩) (e0.way.length - 1) 0, ⟨rest, 0, 0⟩) :: ps') ST.out.1 (by simp; omega) fun p hp => ?_
              rcases List.mem_cons.1 hp with rfl | hp
              · exact ⟨some ⟨g0, 0, none⟩, 0, by dsimp only; congr 1; omega, by dsimp only; rw [hr0]; exact Rd.nil _ _ _⟩
              · exact F6.way p hp
            · rcases List.mem_cons.1 he with rfl | he
              · exact ⟨by dsimp only; omega, fun u hu => hec.2.1 u (by rw [hway]; exact List.mem_cons_of_mem _ hu), rfl, rfl⟩
              · exact HREST.out e he
        · have hB1 : (v == 1) = false := by simp [hv1]
          have HV1 := hide hv1
          clear hv1
          by_cases hv2 : v = 2
          · subst hv2
            have hkp : 1 ≤ k := by omega
            by_cases hc1 : 1 < co
            · go_wp2_with fail
              go_ret
              have hpl1 := HPL.out
              refine ⟨some ⟨gb, 0 + 1, none⟩, co - 1, ps'.map (·.2), by rw [List.length_map, show ps'.length = k - 1 by omega]; rfl, ?_, ⟨by rw [List.length_map]; omega, HREST.out⟩, HO2.out⟩
              exact ⟨_, _, rfl, ps', rfl, Rd.drop' (Rd.of_own HR2.out) 1, HFR.out.way⟩
            · have hco1 : co = 1 := by omega
              have hk1 : k = 1 := by omega
              subst hco1 hk1
              have hpl1 := HPL.out
              obtain rfl : ps' = [] := by cases ps' with | nil => rfl | cons y r => simp at hpl1
              go_wp2_with fail
              go_ret
              exact ⟨some ⟨gb, 0, none⟩, 0, [], rfl, ⟨_, _, rfl, [], rfl, Rd.nil _ _ _, fun p hp => by cases hp⟩, ⟨by simp, fun e he => by cases he⟩, HO2.out⟩
          · have hB2 : (v == 2) = false := by simp [hv2]
            have HV2 := hide hv2
            clear hv2
            go_wp2_with fail
            go_ret
            have hpl1 := HPL.out
            refine ⟨some ⟨gb, 0, none⟩, co, e0 :: ps'.map (·.2), by rw [List.length_cons, List.length_map, hpl1]; rfl, ?_, ⟨by rw [List.length_cons, List.length_map]; omega, fun e he => ?_⟩, HO2.out⟩
            · rw [List.length_cons, List.length_map, hpl1]
              refine rss_of (ps := (.slice (some ⟨g0, 0, none⟩) e0.way.length cr, e0) :: ps') HR2.out (by simp; omega) fun p hp => ?_
              rcases List.mem_cons.1 hp with rfl | hp
              · exact HOR.out.r
              · exact HFR.out.way p hp
            · rcases List.mem_cons.1 he with rfl | he
              · exact hec
              · exact HREST.out e he
end Go.Proofs.Ytklfjekpeoigoaa
namespace Go.Proofs.Ytklfjekpeoigoaa
open Go.RowKit
set_option maxRecDepth 100000 in
set_option maxHeartbeats 4000000 in
theorem drawWants_any (b : Nat) (bs : List Int) (N : Int) (n : Nat) (A0 : Option Addr) (c0 : Nat) (w : World) (hbs : BsOk bs) (hN : N ≤ 1099509000000) (hn : 1 ≤ n) (hn11 : n ≤ 11) (h : SrcAt b bs N w) :
    Calls Try.prog 132 #[.pointer (some ⟨b, 0, none⟩), .slice A0 n c0] w fun e w' => ∃ (A : Option Addr) (c : Nat) (l : List Int), e = .returned (.slice A l.length c) ∧ (∀ W, Only b (b + 1) w' W → RdI W W.heap.size A l) ∧ (l.length ≤ 11 ∧ ∀ z ∈ l, -1 ≤ z ∧ z ≤ 201) ∧ SrcAt b bs (N + 60) w' ∧ Only b (b + 1) w w' := by
  obtain ⟨i0, hi0, hz0, hs0, hb0⟩ := info_parts int64_info
  have hbl := h.lt
  have HP := hide fun M n W (hM : M ≤ 1099511000000) (hW : SrcAt b bs M W) => pick_any b bs M n W hbs hM hW
  have HAM := hide fun M g o c xs W (hM : M ≤ 1099511000000) (hW : SrcAt b bs M W) => among_any b bs M g o c xs W hbs hM hW
  have h1 := hide (h.alloc (.cells #[] 2))
  clear h
  go_enter Try.func132, Try.ntmps132
  go_wp2_with fail
  have hr0 : (w.alloc (.cells #[] 2)).ownsRow w.heap.size 2 1 (.slice (some ⟨w.heap.size, 0, none⟩) 0 0) 0 (([] : List Int).map (Value.int .i64)) := own_new0 w w.heap.size 2 1 (Nat.le_refl _)
  have o0 : Only b (b + 1) w (w.alloc (.cells #[] 2)) := only_of_below ((Below.refl _ _).alloc (Nat.le_refl _) _)
  go_loopg [5, 6] n (fun g s i wr => ∃ (m : Nat) (acc : List Int), m ≤ n ∧ Hid (g = n - m) ∧ i = .int .i64 m ∧ Hid (acc.length = m) ∧ wr.ownsRow w.heap.size 2 1 s m (acc.map (Value.int .i64)) ∧ Hid (∀ z ∈ acc, 0 ≤ z ∧ z ≤ 4) ∧ Hid (SrcAt b bs (N + 2 * (m : Int)) wr) ∧ Hid (Only b (b + 1) w wr))
  case atStart => exact ⟨0, [], by omega, by simp [Hid], rfl, rfl, hr0, by simp [Hid], h1.out.more (by omega), o0⟩
  case round =>
    obtain ⟨m, acc, hm, hgm, rfl, hal, hown, HA, HS, HO⟩ := hrel
    clear hr0 o0 h1
    have hzw := HO.out.size
    by_cases hmt : m < n
    · have HC := hide (HP.out (N + 2 * (m : Int)) 5 _ (by omega) HS.out)
      go_wp2_with (first | (go_at_call 134; (with_reducible refine (HC.out).mono ?_); rintro e w2 ⟨y, rfl, ⟨hy0, hy1', _⟩, hs2, ho2⟩; have hy1 := hy1' (by omega); have hr2 := row_only hown ho2 (by omega); have oo2 := only_trans HO.out ho2; have hz2 := ho2.size) | (at_builtin; go_must (refine wp_app _ rfl _ _ 22 rfl (w.heap.size) 2 i0 (.int .i64 0) 1 8 Try.underlying22 hi0 hz0 hs0 hb0 rfl (by decide) _ _ _ rfl (hr2.alloc _) _ _ 1 1 [.int .i64 y] rfl rfl (rd_new _ _ _ _ (by first | rfl | simp)) (int_one _) (by omega) (by decide) (by first | omega | (simp <;> omega) | (simp; omega)) ?_); intro v4 w4 hown4 hgrow4 hat4))
      have oA := hr2.alloc (.cells #[.int .i64 y] 2)
      have o4 := only_app (only_alloc oo2 (.cells #[.int .i64 y] 2)) oA hgrow4 (Nat.le_refl _)
      have s4 := (hs2.alloc (.cells #[.int .i64 y] 2)).grown hgrow4 (fun g e => by have := (oA.lt g e).1; omega)
      go_roundg (n - (m + 1))
      case measure => have := hgm.out; omega
      case rel =>
        refine ⟨m + 1, acc ++ [y], by omega, rfl, by go_num, ?_, by rw [List.map_append]; exact hown4, ?_, s4.more (by omega), o4⟩
        · have := hal.out; unfold Hid; rw [List.length_append, this]; rfl
        · intro z hz
          rcases List.mem_append.1 hz with hz | hz
          · exact HA.out z hz
          · rw [List.mem_singleton] at hz; subst hz; omega
    · obtain rfl : m = n := by omega
      obtain ⟨A3, c3, hsh, hc3, _⟩ := own_shape hown
      subst hsh
      obtain ⟨gb, rfl, hgb0, hgb⟩ := own_posN' hown (by omega)
      have HROW := hide hown
      have HC := hide (HP.out (N + 2 * (m : Int)) 16 _ (by omega) HS.out)
      obtain ⟨y0, rest, rfl⟩ : ∃ y0 rest, acc = y0 :: rest := by
        cases acc with
        | nil => have := hal.out; simp at this; omega
        | cons y r => exact ⟨y, r, rfl⟩
      have hrl : rest.length + 1 = m := by have := hal.out; simpa using this
      have HRL := hide hrl
      clear hown HS hal hrl
      go_upto_if 21 with (go_at_call 134; (with_reducible refine (HC.out).mono ?_); rintro e w2 ⟨v, rfl, _, hs2, ho2⟩)
      have HR2 := hide (row_only HROW.out ho2 (by omega))
      have HS2 := hide hs2
      have HO2 := hide (only_trans HO.out ho2)
      have hz2 := ho2.size
      have hg2 := (HR2.out.lt gb rfl).2
      clear hs2 ho2 HC HROW HO
      by_cases hv0 : v = 0
      · subst hv0
        have HS4 := hide (HS2.out.alloc (.cells #[.int .i64 (-1), .int .i64 0, .int .i64 200, .int .i64 201] 2))
        have HR4 := hide (HR2.out.alloc (.cells #[.int .i64 (-1), .int .i64 0, .int .i64 200, .int .i64 201] 2))
        have HO4 := hide (only_alloc HO2.out (.cells #[.int .i64 (-1), .int .i64 0, .int .i64 200, .int .i64 201] 2))
        have ham : Calls Try.prog 150 #[.pointer (some ⟨b, 0, none⟩), .slice (some ⟨w2.heap.size, 0, none⟩) 4 4] (w2.alloc (.cells #[.int .i64 (-1), .int .i64 0, .int .i64 200, .int .i64 201] 2)) fun e w' => ∃ z, e = .returned (.int .i64 z) ∧ z ∈ ([(-1), 0, 200, 201] : List Int) ∧ SrcAt b bs (N + 2 * (m : Int) + 2 + 2) w' ∧ Only b (b + 1) (w2.alloc (.cells #[.int .i64 (-1), .int .i64 0, .int .i64 200, .int .i64 201] 2)) w' := HAM.out (N + 2 * (m : Int) + 2) w2.heap.size 0 4 ([(-1), 0, 200, 201] : List Int) _ (by omega) HS4.out (by omega) (by simp) (by simp) (by simp) (fun j z hj => by
            match j, hj with
            | 0, hj => simp at hj; subst hj; simp [go_sem]
            | 1, hj => simp at hj; subst hj; simp [go_sem]
            | 2, hj => simp at hj; subst hj; simp [go_sem]
            | 3, hj => simp at hj; subst hj; simp [go_sem]
            | j + 4, hj => simp at hj)
        have HAMH := hide ham
        clear ham
        go_wp2_with (go_at_call 150; (with_reducible refine (HAMH.out).mono ?_); rintro e w4 ⟨z, rfl, hz, hs4, ho4⟩; have HR5 := hide (row_only HR4.out ho4 (by omega)); have c5 : w4.cell? ⟨gb, 0, none⟩ = some (.int .i64 y0) := (by rw [HR5.out.cellAt 0 (by omega)]; rfl); have f5 := HR5.out.frozenAt 0; have HST := hide (HR5.out.stored 0 (.int .i64 z)))
        go_ret
        have hzb : -1 ≤ z ∧ z ≤ 201 := by simp at hz; omega
        have hml : (z :: rest).length = m := by have := HRL.out; simpa using this
        have hrow : (w4.setCell ⟨gb, 0, none⟩ (.int .i64 z)).ownsRow w.heap.size 2 1 (.slice (some ⟨gb, 0, none⟩) m c3) m ((z :: rest).map (Value.int .i64)) := HST.out.1
        refine ⟨some ⟨gb, 0, none⟩, c3, z :: rest, by rw [hml]; rfl, fun W hW => RdI.of_own (row_only hrow hW (by omega)), ⟨by omega, fun u hu => ?_⟩, (hs4.grown HST.out.2 (fun g h => by have h0 : (some gb : Option Nat) = some g := h; have h1 := Option.some.inj h0; omega)).more (by omega), only_grown (only_trans HO4.out ho4) HST.out.2 (fun g h => by have h0 : (some gb : Option Nat) = some g := h; have h1 := Option.some.inj h0; omega)⟩
        rcases List.mem_cons.1 hu with rfl | hu
        · exact hzb
        · have := HA.out u (List.mem_cons_of_mem _ hu); omega
      · have hB0 : (v == 0) = false := by simp [hv0]
        have HV := hide hv0
        clear hv0
        by_cases hv1 : v = 1
        · subst hv1
          by_cases hc1 : c3 = 1
          · subst hc1
            have hm1 : m = 1 := by have := hc3; omega
            subst hm1
            have hr0 : rest = [] := by have := HRL.out; exact List.length_eq_zero_iff.1 (by omega)
            subst hr0
            go_wp2_with fail
            go_ret
            exact ⟨_, _, [], rfl, fun W hW => Rd.nil _ _ _, ⟨by simp, fun u hu => by cases hu⟩, HS2.out.more (by omega), HO2.out⟩
          · have hc4 : 1 < c3 := by have := hc3; omega
            have hne1 : (c3 = 1) = False := by simp [hc1]
            go_wp2_with fail
            go_ret
            refine ⟨some ⟨gb, 0 + 1, none⟩, c3 - 1, rest, by rw [← HRL.out]; simp [hc1], fun W hW => ?_, ⟨by have := HRL.out; omega, fun u hu => by have := HA.out u (List.mem_cons_of_mem _ hu); omega⟩, HS2.out.more (by omega), HO2.out⟩
            have h := RdI.drop (Rd.of_own (row_only HR2.out hW (by omega))) 1
            exact h
        · have hB1 : (v == 1) = false := by simp [hv1]
          have HV1 := hide hv1
          clear hv1
          go_wp2_with fail
          go_ret
          have hml : (y0 :: rest).length = m := by have := HRL.out; simpa using this
          exact ⟨some ⟨gb, 0, none⟩, c3, y0 :: rest, by rw [hml]; rfl, fun W hW => RdI.of_own (row_only HR2.out hW (by omega)), ⟨by omega, fun u hu => by have := HA.out u hu; omega⟩, HS2.out.more (by omega), HO2.out⟩
end Go.Proofs.Ytklfjekpeoigoaa
