/-
  Spans in a tube, and whether a tube is free; in the reference.
-/
import Derived.Test.YtflbddfmhjlknaaSpn3
import Derived.Test.YtflbddfmhjlknaaRunG
import Derived.Deep.DeepCutAuto
namespace Go.Proofs.Ytflbddfmhjlknaa
open Go.RowKit

theorem insT_app {x : T3} : ∀ {a b : List T3}, (∀ y ∈ a, ltT x y = false) → (∀ y ∈ b, ltT x y = true) → insT x (a ++ b) = a ++ x :: b := by
  intro a
  induction a with
  | nil =>
    intro b _ h
    cases b with
    | nil => rfl
    | cons y b => rw [List.nil_append, insT, if_pos (h y (List.mem_cons_self ..))]; rfl
  | cons y a ih =>
    intro b h1 h2
    rw [List.cons_append, insT, if_neg (by rw [h1 y (List.mem_cons_self ..)]; simp), ih (fun z hz => h1 z (List.mem_cons_of_mem _ hz)) h2]; rfl
theorem insT_at {x : T3} {L : List T3} (hs : SortedT L) {k : Nat} (hk : k ≤ L.length) (h1 : ∀ j y, k = j + 1 → L[j]? = some y → ltT x y = false) (h2 : ∀ y ∈ L.drop k, ltT x y = true) : insT x L = L.take k ++ x :: L.drop k := by
  have h := insT_app (x := x) (a := L.take k) (b := L.drop k) (fun z hz => ?_) h2
  · rw [List.take_append_drop] at h; exact h
  · obtain ⟨i, hi, rfl⟩ := List.mem_iff_getElem.1 hz
    rw [List.length_take] at hi
    rw [List.getElem_take]
    obtain ⟨j, rfl⟩ : ∃ j, k = j + 1 := ⟨k - 1, by omega⟩
    have hj : j < L.length := by omega
    have hy := h1 j _ rfl (List.getElem?_eq_getElem hj)
    rcases Nat.lt_or_ge i j with hij | hij
    · have hp := (List.pairwise_iff_getElem.1 hs) i j (by omega) hj hij
      rw [ltT_no] at hp hy ⊢
      omega
    · have : i = j := by omega
      subst this; exact hy
theorem sortT_snoc (X : List T3) (x : T3) : sortT (X ++ [x]) = insT x (sortT X) := by unfold sortT; rw [List.foldl_append]; rfl
theorem pairs_at' {w : World} {B : Nat} {A : Option Addr} {ss : List T3} (h : RN 0 w B A (ss.map pairTN)) {k : Nat} (hk : k < ss.length) : ∃ b o s b' o' c', A = some ⟨b, o, none⟩ ∧ b < B ∧ b' < B ∧ ss[k]? = some s ∧ w.cell? ⟨b, o + k, none⟩ = some (.slice (some ⟨b', o', none⟩) 2 c') ∧
    w.cell? ⟨b', o', none⟩ = some (.int .i64 s.b) ∧ w.cell? ⟨b', o' + 1, none⟩ = some (.int .i64 s.c) := by
  obtain ⟨b, o, e, Aw, cw, hA, hb, he, hr, hc, _, _⟩ := h.at_ (by omega) (k := k) (by simpa using hk)
  rw [List.getElem?_map, List.getElem?_eq_getElem hk] at he
  have he' := Option.some.inj he
  subst he'
  obtain ⟨b', o', z0, hA', hb', h0, g0⟩ := hr.at_ (k := 0) (by simp [pairTN])
  obtain ⟨_, _, z1, hA1, _, h1, g1⟩ := hr.at_ (k := 1) (by simp [pairTN])
  subst hA'
  cases hA1
  simp only [pairTN, List.getElem?_cons_zero, List.getElem?_cons_succ, Option.some.injEq] at h0 h1
  subst h0 h1
  exact ⟨b, o, ss[k], b', o', cw, hA, hb, hb', List.getElem?_eq_getElem hk, by rw [show o + k = o + k * (0 + 1) by omega]; exact hc, g0, g1⟩
theorem nc0_map (ps : List (Value × TN)) : ps.flatMap (Nc 0) = ps.map (·.1) := by
  induction ps with
  | nil => rfl
  | cons p ps ih => rw [List.flatMap_cons, List.map_cons, ih]; rfl
theorem ss_one {w : World} {B : Nat} {ps : List (Value × TN)} (h : ∀ p ∈ ps, WayAt w B p) : ∀ u ∈ ps.map (·.1), u.oneCell' = true := fun u hu => by
  obtain ⟨p, hp, rfl⟩ := List.mem_map.1 hu
  obtain ⟨A, c, e, _⟩ := h p hp
  rw [e]; rfl
theorem Rd.drop4 {w : World} {B b o : Nat} {xs : List Value} (h : Rd w B (some ⟨b, o, none⟩) xs) (k : Nat) : Rd w B (some ⟨b, o + k, none⟩) (xs.drop k) := fun hn => by
  have hl : k < xs.length := by
    rcases Nat.lt_or_ge k xs.length with h | h
    · exact h
    · rw [List.drop_eq_nil_of_le h] at hn; exact (hn rfl).elim
  obtain ⟨b', o', hA, hb, hc⟩ := h (by intro e; rw [e] at hl; simp at hl)
  cases hA
  refine ⟨b, o + k, rfl, hb, fun j v hj => ?_⟩
  rw [List.getElem?_drop] at hj
  rw [Nat.add_assoc]
  exact hc (k + j) v hj
theorem Rd.take4 {w : World} {B : Nat} {A : Option Addr} {xs : List Value} (h : Rd w B A xs) (k : Nat) : Rd w B A (xs.take k) := fun hn => by
  obtain ⟨b', o', hA, hb, hc⟩ := h (by intro e; rw [e] at hn; simp at hn)
  refine ⟨b', o', hA, hb, fun j v hj => ?_⟩
  rw [List.getElem?_take] at hj
  split at hj
  · exact hc j v hj
  · cases hj
theorem own_posN4 {w : World} {base : Nat} {e : TypeId} {size n c : Nat} {A : Option Addr} {xs : List Value} (h : w.ownsRow base e size (.slice A n c) n xs) (hn : 0 < n) : ∃ g, A = some ⟨g, 0, none⟩ ∧ base ≤ g ∧ g < w.heap.size := by
  rcases own_block h with ⟨_, h0, _⟩ | ⟨g, hA, h1, h2⟩
  · omega
  · exact ⟨g, hA, h1, h2⟩
/-- The list so far: a row of its own whose elements lie before it. -/
def OutAt (w : World) (lo : Nat) (v : Value) (L : List T3) : Prop :=
  ∃ (nb g c : Nat) (ps : List (Value × TN)), v = .slice (some ⟨g, 0, none⟩) L.length c ∧ (lo ≤ nb ∧ nb ≤ w.heap.size) ∧ ps.map (·.2) = L.map pairTN ∧ w.ownsRow nb 30 1 v L.length (ps.map (·.1)) ∧ ∀ p ∈ ps, WayAt w nb p
theorem OutAt.below {w w' : World} {lo : Nat} {v : Value} {L : List T3} (h : OutAt w lo v L) (k : Below w.heap.size w w') : OutAt w' lo v L := by
  obtain ⟨nb, g, c, ps, h0, h1, h3, h4, h5⟩ := h
  refine ⟨nb, g, c, ps, h0, ⟨h1.1, Nat.le_trans h1.2 k.size⟩, h3, own_below h4 k (Nat.le_refl _), fun p hp => ?_⟩
  obtain ⟨A', c, e, r⟩ := h5 p hp
  exact ⟨A', c, e, r.below (k.mono h1.2)⟩
theorem OutAt.rn {w : World} {lo : Nat} {v : Value} {L : List T3} (h : OutAt w lo v L) : ∃ g c, v = .slice (some ⟨g, 0, none⟩) L.length c ∧ L.length ≤ c ∧ RN 0 w w.heap.size (some ⟨g, 0, none⟩) (L.map pairTN) := by
  obtain ⟨nb, g, c, ps, rfl, h1, h3, h4, h5⟩ := h
  obtain ⟨_, _, e, hc, _⟩ := own_shape h4
  simp only [Value.slice.injEq] at e
  refine ⟨g, c, rfl, by omega, ps, h3, by rw [nc0_map]; exact Rd.of_own h4, fun p hp => ?_⟩
  obtain ⟨A', c, e, r⟩ := h5 p hp
  exact ⟨A', c, e, r.more h1.2⟩
theorem OutAt.new (w : World) (lo : Nat) (h : lo ≤ w.heap.size) : OutAt (w.alloc (.cells #[] 30)) lo (.slice (some ⟨w.heap.size, 0, none⟩) 0 0) [] :=
  ⟨w.heap.size, w.heap.size, 0, [], rfl, ⟨h, by simp⟩, rfl, own_new0 w w.heap.size 30 1 (Nat.le_refl _), fun p hp => by cases hp⟩
set_option maxRecDepth 100000 in
set_option maxHeartbeats 8000000 in
theorem l06In_any (ts : List Int) (l : List TN) (t : Int) (A0 : Option Addr) (c0 : Nat) (A : Option Addr) (c : Nat) (w : World) (hts : OkTimes ts) (hl12 : l.length ≤ 12) (hlo : ∀ e ∈ l, OkWay ts e.way ∧ 0 ≤ e.p ∧ e.p ≤ 100000) (h1 : RdI w w.heap.size A0 ts) (h2 : RN 1 w w.heap.size A l) :
    Calls Try.prog 117 #[.slice A0 ts.length c0, .slice A l.length c, .int .i64 t] w fun e w' => ∃ A' c', e = .returned (.slice A' (spIn ts l t).length c') ∧ RN 0 w' w'.heap.size A' ((spIn ts l t).map pairTN) ∧ Below w.heap.size w w' := by
  obtain ⟨i0, hi0, hz0, hs0, hb0⟩ := info_parts Int64SS_info
  have HX := hide h2
  have HXO := hide hlo
  have HSPN := hide fun (e : TN) Ae ce (b2 o2 : Nat) W (hW : Below w.heap.size w W) (he : OkWay ts e.way ∧ 0 ≤ e.p ∧ e.p ≤ 100000) (hr : RdI W W.heap.size Ae e.way) (l0 : W.cell? ⟨b2, o2, none⟩ = some (.slice Ae e.way.length ce)) (l1 : W.cell? ⟨b2, o2 + 1, none⟩ = some (.int .i64 e.p)) =>
    l06Spans_any ts e.way e.p A0 c0 Ae ce b2 o2 W hts he.1 he.2.1 (by omega) ((h1.below hW).more hW.size) hr l0 l1
  have hbA : Below w.heap.size w (w.alloc (.cells #[] 30)) := (Below.refl _ _).alloc (Nat.le_refl _) _
  have hO0 := OutAt.new w w.heap.size (Nat.le_refl _)
  clear h1 h2 hts hlo
  go_enter Try.func117, Try.ntmps117
  go_wp2_with fail
  go_loopg [7, 8] l.length (fun g s i wr => ∃ k : Nat, k ≤ l.length ∧ Hid (g = l.length - k) ∧ i = .int .i64 k ∧ Hid (OutAt wr w.heap.size s (sortT (inTube ts (l.take k) t))) ∧ Hid ((inTube ts (l.take k) t).length ≤ 12 * k) ∧ Below w.heap.size w wr)
  case atStart => exact ⟨0, by omega, by simp [Hid], rfl, hO0, by simp [Hid, inTube, takenOf], hbA⟩
  case round =>
    obtain ⟨k, hk, hg, rfl, HOU, HLN, hb⟩ := hrel
    clear hbA hO0
    by_cases hlt : k < l.length
    · obtain ⟨b1, o1, z1, Az, cz, rfl, hbb, hz1, hrw, hn0, hc1, hc2⟩ := (HX.out.below hb).at_ (by omega) hlt
      have hn1 := hc1 (by omega)
      have hzo := HXO.out z1 (List.mem_of_getElem? hz1)
      have hz12 := hzo.1.1.2
      have HC := hide (HSPN.out z1 Az cz b1 (o1 + k * 2) wr hb hzo (hrw.more hb.size) hn0 hn1)
      have hsl : (spGo ts z1.p z1.way).length = z1.way.length := spGo_len _ _ _
      have HST := hide (inTube_step (ts := ts) (t := t) hz1)
      clear hz1 hrw hc1 hc2 hzo
      generalize spGo ts z1.p z1.way = ss at *
      generalize inTube ts (l.take k) t = X at *
      go_wp2_with (go_at_call 147; (with_reducible refine (HC.out).mono ?_); rintro e w2 ⟨A2, c2, rfl, r2, hb2⟩)
      have R2 := hide r2
      have HB2 := hide (hb.trans (hb2.mono hb.size))
      have HOU2 := hide (HOU.out.below hb2)
      clear r2 hb2 HC HOU hb
      go_loopg [7, 10] z1.way.length (fun gk s i wr => ∃ j : Nat, j ≤ z1.way.length ∧ Hid (gk = z1.way.length - j) ∧ i = .int .i64 j ∧ Hid (OutAt wr w.heap.size s (sortT (X ++ (ss.take j).filter (inT t)))) ∧ Below w2.heap.size w2 wr)
      case atStart => exact ⟨0, by omega, by simp [Hid], rfl, by simpa [Hid] using HOU2.out, Below.refl _ _⟩
      case round =>
        obtain ⟨j, hj, hgj, rfl, HOU, hb3⟩ := hrel
        clear HOU2
        by_cases hjt : j < z1.way.length
        · obtain ⟨pb, po, s, pb', po', pc, rfl, hpb, hpb', hs, ha0, ha1, ha2, ha3⟩ := spans_at (R2.out.below hb3) (show j < ss.length by omega)
          have HTF := hide (take_filter (p := inT t) hs)
          have hj9 : (j : Int) < z1.way.length := by omega
          clear hs
          by_cases hst : s.a = t
          · subst hst
            have hB : (s.a != s.a) = false := by simp
            have HL2 := hide (show sortT (X ++ (ss.take (j + 1)).filter (inT s.a)) = insT s (sortT (X ++ (ss.take j).filter (inT s.a))) by
              rw [HTF.out, if_pos (by simp [inT]), ← List.append_assoc, sortT_snoc])
            have HSO := hide (sortT_sorted (X ++ (ss.take j).filter (inT s.a)))
            have HLL : (sortT (X ++ (ss.take j).filter (inT s.a))).length ≤ 1000 := by
              rw [(sortT_perm _).length_eq, List.length_append]
              have h1 := HLN.out
              have h2 := List.length_filter_le (inT s.a) (ss.take j)
              rw [List.length_take] at h2
              omega
            clear HTF
            generalize sortT (X ++ (ss.take j).filter (inT s.a)) = L at *
            obtain ⟨wU, hwU⟩ : ∃ q, q = wr := ⟨wr, rfl⟩
            subst hwU
            obtain ⟨nb, g', c', ps, rfl, hnb, hps, hown, hwa⟩ := HOU.out
            have hlc : L.length ≤ c' := by
              obtain ⟨_, _, e, h, _⟩ := own_shape hown
              simp only [Value.slice.injEq] at e
              omega
            have HPS := hide hps
            have HNB := hide hnb
            have HROW := hide hown
            have HWA := hide hwa
            have HRN := hide (HOU.out.rn)
            clear hps hnb hown hwa HOU
            go_wp2_with fail
            go_still_tail 12, (by kernel_rfl)
            change wpList _ _ _ _ _ wU.drew
            have bD : Below w2.heap.size w2 wU.drew := hb3.drew
            have hown : wU.drew.ownsRow nb 30 1 (.slice (some ⟨g', 0, none⟩) L.length c') L.length (ps.map (·.1)) := HROW.out
            have HOA : Hid (OutAt wU.drew w.heap.size (.slice (some ⟨g', 0, none⟩) L.length c') L) := ⟨nb, g', c', ps, rfl, HNB.out, HPS.out, hown, fun p hp => by
              obtain ⟨A', c1, e, r⟩ := HWA.out p hp
              exact ⟨A', c1, e, r.below (Below.refl _ _).drew⟩⟩
            clear ha0 ha1 ha2 ha3 hb3 hown HROW HWA HRN HNB HPS
            generalize wU.drew = wD at *
            have HX3 : Hid (RdI (wD.alloc (.cells #[.int .i64 s.b, .int .i64 s.c] 2)) (wD.alloc (.cells #[.int .i64 s.b, .int .i64 s.c] 2)).heap.size (some ⟨wD.heap.size, 0, none⟩) [s.b, s.c]) := by
              show Rd _ _ _ [Value.int .i64 s.b, Value.int .i64 s.c]
              exact Rd.more (rd_new wD [.int .i64 s.b, .int .i64 s.c] 2 wD.heap.size rfl) (by simp)
            have HOX := hide (HOA.out.below ((Below.refl _ wD).alloc (Nat.le_refl _) (.cells #[.int .i64 s.b, .int .i64 s.c] 2)))
            have HBX := hide (bD.alloc bD.size (.cells #[.int .i64 s.b, .int .i64 s.c] 2))
            have hzx : wD.heap.size < (wD.alloc (.cells #[.int .i64 s.b, .int .i64 s.c] 2)).heap.size := by simp
            clear bD HOA
            go_upto_region 11 with fail
            generalize wD.alloc (.cells #[.int .i64 s.b, .int .i64 s.c] 2) = w5 at *
            generalize wD.heap.size = gx at *
            go_wp2_with fail
            go_loopg [12] L.length (fun gk i wr => ∃ kk : Nat, kk ≤ L.length ∧ Hid (gk = kk) ∧ i = .int .i64 kk ∧ Hid (∀ y ∈ L.drop kk, ltT s y = true) ∧ Hid (∃ n, wr = w5.drewN n))
            case atStart => exact ⟨L.length, Nat.le_refl _, rfl, rfl, by simp [Hid], ⟨0, rfl⟩⟩
            case round =>
              obtain ⟨kk, hkk, hgk, rfl, HGT, HD⟩ := hrel
              obtain ⟨n, hn⟩ := HD.out
              subst hn
              obtain ⟨g2, c2', hv2, _, hrn⟩ := HOX.out.rn
              obtain ⟨rfl, rfl⟩ : g' = g2 ∧ c' = c2' := by simpa using hv2
              have HRN := hide hrn
              clear hv2 hrn
              go_upto_region 12 with (fail)
              go_cut [95] (fun c wx => ∃ bb : Bool, c = .bool bb ∧ Hid (bb = true → ∃ jj y, kk = jj + 1 ∧ L[jj]? = some y ∧ ltT s y = true) ∧ Hid (bb = false → ∀ jj y, kk = jj + 1 → L[jj]? = some y → ltT s y = false) ∧ Hid (∃ n, wx = w5.drewN n))
              case first =>
                obtain ⟨wq, hwq⟩ : ∃ q, w5.drewN n = q := ⟨_, rfl⟩
                rcases Nat.eq_zero_or_pos kk with rfl | hkp
                · rw [hwq]
                  go_quiet (fail)
                  go_wp2_with fail
                  go_meet
                  exact ⟨false, rfl, (fun h => by cases h), (fun _ jj y h => by omega), ⟨n + nq, by rw [← hwq]; simp [World.drewN, Nat.add_assoc]⟩⟩
                · obtain ⟨jj, rfl⟩ : ∃ jj, kk = jj + 1 := ⟨kk - 1, by omega⟩
                  obtain ⟨qb, qo, y, qb', qo', qc, hqA, hqb, hqb', hy, hc0, hc1, hc2⟩ := pairs_at' HRN.out (show jj < L.length by omega)
                  cases hqA
                  obtain ⟨xb, xo, u0, hxA, _, hu0, hx0⟩ := HX3.out.at_ (k := 0) (by simp)
                  obtain ⟨_, _, u1, hxA', _, hu1, hx1⟩ := HX3.out.at_ (k := 1) (by simp)
                  cases hxA; cases hxA'
                  simp only [List.getElem?_cons_zero, List.getElem?_cons_succ, Option.some.injEq] at hu0 hu1
                  subst hu0 hu1
                  have d0 : (w5.drewN n).cell? ⟨g', 0 + jj, none⟩ = some (.slice (some ⟨qb', qo', none⟩) 2 qc) := hc0
                  have d1 : (w5.drewN n).cell? ⟨qb', qo', none⟩ = some (.int .i64 y.b) := hc1
                  have d2 : (w5.drewN n).cell? ⟨qb', qo' + 1, none⟩ = some (.int .i64 y.c) := hc2
                  have d3 : (w5.drewN n).cell? ⟨gx, 0 + 0, none⟩ = some (.int .i64 s.b) := hx0
                  have d4 : (w5.drewN n).cell? ⟨gx, 0 + 1, none⟩ = some (.int .i64 s.c) := hx1
                  rw [Nat.zero_add] at d0 d3 d4
                  have hj0 : (0 : Int) ≤ (jj : Int) := by omega
                  have hj9 : (jj : Int) < L.length := by omega
                  have hwr : IntKind.i64.wrap (jj : Int) = (jj : Int) := by rw [IntKind.wrap_i64] <;> omega
                  have hk9 : (0 : Int) < ((jj + 1 : Nat) : Int) := by omega
                  have hk1 : ((jj + 1 : Nat) : Int) - 1 = (jj : Int) := by omega
                  have HY := hide hy
                  clear hc0 hc1 hc2 hx0 hx1 hy hkp
                  rw [hwq] at d0 d1 d2 d3 d4 ⊢
                  have HWQ := hide hwq
                  clear hwq
                  by_cases e1 : s.b < y.b
                  · have hL := hide (show ltT s y = true from ltT_iff.2 (.inl e1))
                    have hd1 : decide (s.b < y.b) = true := decide_eq_true e1
                    clear e1
                    go_quiet (fail)
                    go_wp2_with fail
                    go_meet
                    exact ⟨true, rfl, (fun _ => ⟨jj, y, rfl, HY.out, hL.out⟩), (fun h => by cases h), ⟨n + nq, by rw [← HWQ.out]; simp [World.drewN, Nat.add_assoc]⟩⟩
                  · have hd1 : decide (s.b < y.b) = false := decide_eq_false e1
                    by_cases e2 : y.b = s.b
                    · have hB2 : (y.b == s.b) = true := by simp [e2]
                      by_cases e3 : s.c < y.c
                      · have hL := hide (show ltT s y = true from ltT_iff.2 (.inr ⟨e2.symm, e3⟩))
                        have hd3 : decide (s.c < y.c) = true := decide_eq_true e3
                        clear e1 e2 e3
                        go_quiet (fail)
                        go_wp2_with fail
                        go_meet
                        exact ⟨true, rfl, (fun _ => ⟨jj, y, rfl, HY.out, hL.out⟩), (fun h => by cases h), ⟨n + nq, by rw [← HWQ.out]; simp [World.drewN, Nat.add_assoc]⟩⟩
                      · have hL := hide (show ltT s y = false from ltT_no.2 (by omega))
                        have hd3 : decide (s.c < y.c) = false := decide_eq_false e3
                        clear e1 e2 e3
                        go_quiet (fail)
                        go_wp2_with fail
                        go_meet
                        exact ⟨false, rfl, (fun h => by cases h), (fun _ j2 y2 h1 h2 => by obtain rfl : jj = j2 := (by omega); obtain rfl := Option.some.inj (HY.out.symm.trans h2); exact hL.out), ⟨n + nq, by rw [← HWQ.out]; simp [World.drewN, Nat.add_assoc]⟩⟩
                    · have hB2 : (y.b == s.b) = false := by simp [e2]
                      have hL := hide (show ltT s y = false from ltT_no.2 (by omega))
                      clear e1 e2
                      go_quiet (fail)
                      go_wp2_with fail
                      go_meet
                      exact ⟨false, rfl, (fun h => by cases h), (fun _ j2 y2 h1 h2 => by obtain rfl : jj = j2 := (by omega); obtain rfl := Option.some.inj (HY.out.symm.trans h2); exact hL.out), ⟨n + nq, by rw [← HWQ.out]; simp [World.drewN, Nat.add_assoc]⟩⟩
              case rest =>
                obtain ⟨bb, rfl, HTT, HFF, HD2⟩ := hcut
                obtain ⟨n2, hn2⟩ := HD2.out
                subst hn2
                cases bb
                case true =>
                  obtain ⟨jj, y, rfl, hy, hlt2⟩ := HTT.out rfl
                  have HGT2 := hide (show ∀ z ∈ L.drop jj, ltT s z = true by
                    intro z hz
                    rw [drop_cons hy] at hz
                    rcases List.mem_cons.1 hz with rfl | hz
                    · exact hlt2
                    · exact HGT.out z hz)
                  clear hy hlt2 HTT HFF
                  go_wp2_with fail
                  go_roundg jj
                  case measure => have := hgk.out; omega
                  case rel => exact ⟨jj, by omega, rfl, by go_num, HGT2, ⟨n2, rfl⟩⟩
                case false =>
                  have HIN := hide (insT_at HSO.out hkk (HFF.out rfl) HGT.out)
                  have HOZ := hide (HOX.out.below (bdn (Below.refl _ _) n2))
                  have HXZ := hide ((HX3.out.below (bdn (Below.refl _ _) n2)).more (bdn (Below.refl 0 w5) n2).size)
                  have HBZ := hide (bdn HBX.out n2)
                  have hgx : gx < (w5.drewN n2).heap.size := hzx
                  have HEQ := hide (show L.length = L.length from rfl)
                  clear HTT HFF HD2 HRN HOX HX3 HBX hzx HGT HSO HD HEQ
                  generalize w5.drewN n2 = wz at *
                  obtain ⟨nb, g2, c2', ps, hv, hnb, hps, hown, hwa⟩ := HOZ.out
                  obtain ⟨rfl, rfl⟩ : g' = g2 ∧ c' = c2' := by simpa using hv
                  have hpl : ps.length = L.length := by have := congrArg List.length hps; simpa using this
                  have HPS := hide hps
                  have HNB := hide hnb
                  have HROW := hide hown
                  have HWA := hide hwa
                  have O6 := hide (own_new0 wz wz.heap.size 30 1 (Nat.le_refl _))
                  have B6 := hide ((Below.refl wz.heap.size wz).alloc (Nat.le_refl _) (.cells #[] 30))
                  have RD6 := hide (Rd.take4 (Rd.of_own (hown.alloc (.cells #[] 30))) kk)
                  have ONE1 := hide (show ∀ u ∈ (ps.map (·.1)).take kk, u.oneCell' = true from fun u hu => ss_one hwa u (List.mem_of_mem_take hu))
                  have ONE3 := hide (show ∀ u ∈ (ps.map (·.1)).drop kk, u.oneCell' = true from fun u hu => ss_one hwa u (List.mem_of_mem_drop hu))
                  have HL1 := hide (show ((ps.map (·.1)).take kk).length = kk * 1 by rw [List.length_take, List.length_map]; omega)
                  have HL3 := hide (show ((ps.map (·.1)).drop kk).length = (L.length - kk) * 1 by rw [List.length_drop, List.length_map]; omega)
                  have HPL := hide hpl
                  have hkc : kk ≤ c' := by omega
                  have hkc2 : (kk : Int) ≤ (c' : Int) := by omega
                  have hkk2 : (kk : Int) ≤ (L.length : Int) := by omega
                  clear hv hnb hps hown hwa hpl HOZ
                  have HDR : Hid (∀ W, Below wz.heap.size wz W → Rd W W.heap.size (some ⟨g', kk, none⟩) ((ps.map (·.1)).drop kk)) := fun W hW => by
                    have h := Rd.more (Rd.drop4 (Rd.below (Rd.of_own HROW.out) hW) kk) hW.size
                    rw [Nat.zero_add] at h
                    exact h
                  have FIN : Hid (∀ w10 v10, w10.ownsRow wz.heap.size 30 1 v10 (0 + kk + 1 + (L.length - kk)) (([] ++ (ps.map (·.1)).take kk ++ [.slice (some ⟨gx, 0, none⟩) 2 2]) ++ (ps.map (·.1)).drop kk) → Below wz.heap.size wz w10 → OutAt w10 w.heap.size v10 (insT s L)) := fun w10 v10 own10 b10 => by
                    have hlen : (insT s L).length = 0 + kk + 1 + (L.length - kk) := by
                      rw [HIN.out, List.length_append, List.length_cons, List.length_take, List.length_drop]; omega
                    obtain ⟨A9, c9, rfl, _⟩ := own_shape own10
                    obtain ⟨g9, rfl, _, _⟩ := own_posN4 own10 (by omega)
                    refine ⟨wz.heap.size, g9, c9, ps.take kk ++ [(.slice (some ⟨gx, 0, none⟩) 2 2, pairTN s)] ++ ps.drop kk, by rw [hlen], ⟨Nat.le_trans HB2.out.size HBZ.out.size, b10.size⟩, ?_, ?_, ?_⟩
                    · rw [HIN.out, List.map_append, List.map_append, List.map_take, List.map_drop, HPS.out]; simp [List.map_take, List.map_drop]
                    · rw [hlen, List.map_append, List.map_append, List.map_take, List.map_drop]
                      simpa using own10
                    · intro p hp
                      rcases List.mem_append.1 hp with hp | hp
                      · rcases List.mem_append.1 hp with hp | hp
                        · obtain ⟨A', c1, e, r⟩ := HWA.out p (List.mem_of_mem_take hp)
                          exact ⟨A', c1, e, (r.more HNB.out.2).below b10⟩
                        · rw [List.mem_singleton] at hp
                          subst hp
                          exact ⟨some ⟨gx, 0, none⟩, 2, rfl, HXZ.out.below b10⟩
                      · obtain ⟨A', c1, e, r⟩ := HWA.out p (List.mem_of_mem_drop hp)
                        exact ⟨A', c1, e, (r.more HNB.out.2).below b10⟩
                  by_cases hkc3 : kk < c'
                  · go_wp2_with (first
                      | (at_builtin; have hq9 := own9; go_must (refine wp_app _ rfl _ _ 39 rfl wz.heap.size 30 i0 (.slice none 0 0) 1 24 Try.underlying39 hi0 hz0 hs0 hb0 rfl (by decide) _ _ _ rfl own9 _ _ (L.length - kk) _ _ rfl HL3.out RD9.out ONE3.out (by omega) (by decide) (by omega) ?_); intro v10 w10 own10 gr10 hat10)
                      | (at_builtin; have hq8 := OWN8.out; go_must (refine wp_app _ rfl _ _ 39 rfl wz.heap.size 30 i0 (.slice none 0 0) 1 24 Try.underlying39 hi0 hz0 hs0 hb0 rfl (by decide) _ _ _ rfl OWN8.out _ _ 1 1 [.slice (some ⟨gx, 0, none⟩) 2 2] rfl rfl (rd_new _ _ _ _ (by first | rfl | simp)) (by intro u hu; simp at hu; subst hu; rfl) (by omega) (by decide) (by first | omega | (simp; omega)) ?_); intro v9 w9 own9 gr9 hat9; have b9 := app_below B8.out OWN8.out gr9 (Nat.le_refl _) B8.out.size; have RD9 := hide (HDR.out _ b9); have hz9 := b9.size)
                      | (at_builtin; go_must (refine wp_app _ rfl _ _ 39 rfl wz.heap.size 30 i0 (.slice none 0 0) 1 24 Try.underlying39 hi0 hz0 hs0 hb0 rfl (by decide) _ _ _ rfl O6.out _ _ kk _ _ rfl HL1.out RD6.out ONE1.out (by omega) (by decide) (by simp) ?_); intro v7 w7 own7 gr7 hat7; have b7 := app_below B6.out O6.out gr7 (Nat.le_refl _) B6.out.size; have OWN8 := hide (own7.alloc (.cells #[.slice (some ⟨gx, 0, none⟩) 2 2] 30)); have B8 := hide (b7.alloc b7.size (.cells #[.slice (some ⟨gx, 0, none⟩) 2 2] 30)); have hz7 := b7.size))
                    have b10 := app_below b9 own9 gr10 (Nat.le_refl _) hz9
                    have HO10 := hide (FIN.out _ _ own10 b10)
                    have HB10 := HBZ.out.trans (b10.mono HBZ.out.size)
                    go_roundg (z1.way.length - (j + 1))
                    case measure => have := hgj.out; omega
                    case rel => exact ⟨j + 1, by omega, rfl, by go_num, by rw [HL2.out]; exact HO10, HB10⟩
                  · have hcL : kk = L.length := by omega
                    have hcc : kk = c' := by omega
                    have HD0 := hide (show (ps.map (·.1)).drop kk = [] by rw [List.drop_eq_nil_of_le]; rw [List.length_map, HPL.out]; omega)
                    have HL0 := hide (show ([] : List Value).length = (L.length - kk) * 1 by rw [← hcL, Nat.sub_self]; rfl)
                    subst hcc
                    have HCL := hide hcL
                    clear hcL hkc hkc2 hkc3
                    go_wp2_with (first
                      | (at_builtin; have hq9 := own9; go_must (refine wp_app _ rfl _ _ 39 rfl wz.heap.size 30 i0 (.slice none 0 0) 1 24 Try.underlying39 hi0 hz0 hs0 hb0 rfl (by decide) _ _ _ rfl own9 0 (some ⟨g', 0, none⟩) 0 0 [] rfl rfl (Rd.nil _ _ _) (fun u hu => by cases hu) (by omega) (by decide) (by omega) ?_); intro v10 w10 own10 gr10 hat10)
                      | (at_builtin; have hq8 := OWN8.out; go_must (refine wp_app _ rfl _ _ 39 rfl wz.heap.size 30 i0 (.slice none 0 0) 1 24 Try.underlying39 hi0 hz0 hs0 hb0 rfl (by decide) _ _ _ rfl OWN8.out _ _ 1 1 [.slice (some ⟨gx, 0, none⟩) 2 2] rfl rfl (rd_new _ _ _ _ (by first | rfl | simp)) (by intro u hu; simp at hu; subst hu; rfl) (by omega) (by decide) (by first | omega | (simp; omega)) ?_); intro v9 w9 own9 gr9 hat9; have b9 := app_below B8.out OWN8.out gr9 (Nat.le_refl _) B8.out.size; have hz9 := b9.size)
                      | (at_builtin; go_must (refine wp_app _ rfl _ _ 39 rfl wz.heap.size 30 i0 (.slice none 0 0) 1 24 Try.underlying39 hi0 hz0 hs0 hb0 rfl (by decide) _ _ _ rfl O6.out _ _ kk _ _ rfl HL1.out RD6.out ONE1.out (by omega) (by decide) (by simp) ?_); intro v7 w7 own7 gr7 hat7; have b7 := app_below B6.out O6.out gr7 (Nat.le_refl _) B6.out.size; have OWN8 := hide (own7.alloc (.cells #[.slice (some ⟨gx, 0, none⟩) 2 2] 30)); have B8 := hide (b7.alloc b7.size (.cells #[.slice (some ⟨gx, 0, none⟩) 2 2] 30)); have hz7 := b7.size))
                    have b10 := app_below b9 own9 gr10 (Nat.le_refl _) hz9
                    have HO10 := hide (FIN.out _ _ (by rw [HD0.out, ← HCL.out, Nat.sub_self]; exact own10) b10)
                    have HB10 := HBZ.out.trans (b10.mono HBZ.out.size)
                    go_roundg (z1.way.length - (j + 1))
                    case measure => have := hgj.out; omega
                    case rel => exact ⟨j + 1, by omega, rfl, by go_num, by rw [HL2.out]; exact HO10, HB10⟩
          · have hB : (s.a != t) = true := by simp [hst]
            have HF2 := hide (show (ss.take (j + 1)).filter (inT t) = (ss.take j).filter (inT t) by rw [HTF.out]; simp [inT, hst])
            have HSTT := hide hst
            clear hst HTF
            go_wp2_with fail
            go_roundg (z1.way.length - (j + 1))
            case measure => have := hgj.out; omega
            case rel => exact ⟨j + 1, by omega, rfl, by go_num, by rw [HF2.out]; exact HOU, hb3⟩
        · have hjj : ss.take j = ss := List.take_of_length_le (by omega)
          have HN := hide (show X ++ (ss.take j).filter (inT t) = inTube ts (l.take (k + 1)) t by rw [hjj, HST.out])
          clear hjj
          go_wp2_with fail
          go_roundg (l.length - (k + 1))
          case measure => have := hg.out; omega
          case rel =>
            refine ⟨k + 1, by omega, rfl, by go_num, by rw [← HN.out]; exact HOU, ?_, HB2.out.trans (hb3.mono HB2.out.size)⟩
            rw [HST.out, List.length_append]
            have h1 := HLN.out
            have h2 := List.length_filter_le (inT t) ss
            unfold Hid
            omega
    · have hkl : l.take k = l := List.take_of_length_le (by omega)
      obtain ⟨g', c', hv, _, hr⟩ := HOU.out.rn
      subst hv
      rw [hkl] at hr
      have HR := hide hr
      have HKL := hide (show sortT (inTube ts (l.take k) t) = spIn ts l t by rw [hkl]; rfl)
      clear hkl hr
      go_wp2_with fail
      go_ret
      refine ⟨some ⟨g', 0, none⟩, c', by rw [HKL.out]; rfl, HR.out, hb⟩
end Go.Proofs.Ytflbddfmhjlknaa
