/-
  The spans of a run, and whether a run fits; in the reference.
-/
import Derived.Test.YtflbddfmhjlknaaRunE
namespace Go.Proofs.Ytflbddfmhjlknaa
open Go.RowKit

def spTN (s : T3) : TN := ⟨[s.a, s.b, s.c], 0, 0⟩
theorem spans_at {w : World} {B : Nat} {A : Option Addr} {ss : List T3} (h : RN 0 w B A (ss.map spTN)) {k : Nat} (hk : k < ss.length) : ∃ b o s b' o' c', A = some ⟨b, o, none⟩ ∧ b < B ∧ b' < B ∧ ss[k]? = some s ∧ w.cell? ⟨b, o + k, none⟩ = some (.slice (some ⟨b', o', none⟩) 3 c') ∧
    w.cell? ⟨b', o', none⟩ = some (.int .i64 s.a) ∧ w.cell? ⟨b', o' + 1, none⟩ = some (.int .i64 s.b) ∧ w.cell? ⟨b', o' + 2, none⟩ = some (.int .i64 s.c) := by
  obtain ⟨b, o, e, Aw, cw, hA, hb, he, hr, hc, _, _⟩ := h.at_ (by omega) (k := k) (by simpa using hk)
  rw [List.getElem?_map, List.getElem?_eq_getElem hk] at he
  have he' := Option.some.inj he
  subst he'
  obtain ⟨b', o', z0, hA', hb', h0, g0⟩ := hr.at_ (k := 0) (by simp [spTN])
  obtain ⟨_, _, z1, hA1, _, h1, g1⟩ := hr.at_ (k := 1) (by simp [spTN])
  obtain ⟨_, _, z2, hA2, _, h2, g2⟩ := hr.at_ (k := 2) (by simp [spTN])
  subst hA'
  cases hA1; cases hA2
  simp only [spTN, List.getElem?_cons_zero, List.getElem?_cons_succ, Option.some.injEq] at h0 h1 h2
  subst h0 h1 h2
  exact ⟨b, o, ss[k], b', o', cw, hA, hb, hb', List.getElem?_eq_getElem hk, by rw [show o + k = o + k * (0 + 1) by omega]; exact hc, g0, g1, g2⟩
theorem sp_small {ss : List T3} (h : ss.length ≤ 1000) : SmallN (ss.map spTN) := by
  unfold SmallN
  rw [List.length_map, List.map_map]
  have : (ss.map ((fun e : TN => e.way.length) ∘ spTN)).sum = 3 * ss.length := by
    clear h
    induction ss with
    | nil => rfl
    | cons s ss ih => rw [List.map_cons, List.sum_cons, List.length_cons, ih]; simp [spTN]; omega
  rw [this]; omega
set_option maxRecDepth 100000 in
set_option maxHeartbeats 4000000 in
theorem l06Spans_any (ts way : List Int) (f : Int) (A0 : Option Addr) (c0 : Nat) (Aw : Option Addr) (cw : Nat) (b o : Nat) (w : World) (hts : OkTimes ts) (hw : OkWay ts way) (hf : 0 ≤ f) (hf' : f ≤ 2000000) (h1 : RdI w w.heap.size A0 ts) (h2 : RdI w w.heap.size Aw way) (k0 : w.cell? ⟨b, o, none⟩ = some (.slice Aw way.length cw)) (k1 : w.cell? ⟨b, o + 1, none⟩ = some (.int .i64 f)) :
    Calls Try.prog 147 #[.slice A0 ts.length c0, .pointer (some ⟨b, o, none⟩)] w fun e w' => ∃ A' c', e = .returned (.slice A' way.length c') ∧ RN 0 w' w'.heap.size A' ((spGo ts f way).map spTN) ∧ Below w.heap.size w w' := by
  obtain ⟨i0, hi0, hz0, hs0, hb0⟩ := info_parts Int64SS_info
  have hbl := World.block_lt_of_cell? w _ k0
  obtain ⟨⟨hw1, hw2⟩, hin⟩ := hw
  obtain ⟨⟨ht1, ht2⟩, htv⟩ := hts
  have HN := hide hin
  have HV := hide htv
  have HX := hide h1; have HW := hide h2
  have K0 := hide k0
  clear h1 h2 hin htv
  go_enter Try.func147, Try.ntmps147
  go_wp2_with fail
  have ho1 := own_new0 w w.heap.size 30 1 (Nat.le_refl _)
  have hb1 : Below w.heap.size w (w.alloc (.cells #[] 30)) := (Below.refl _ _).alloc (Nat.le_refl _) _
  clear k0 k1
  go_loopg [5, 6, 7] way.length (fun g s a i wr => ∃ (k : Nat) (f' : Int) (ps : List (Value × TN)) (acc : List T3), k ≤ way.length ∧ Hid (g = way.length - k) ∧ i = .int .i64 k ∧ a = .int .i64 f' ∧ 0 ≤ f' ∧ f' ≤ 2000000 + 1000 * k ∧ Hid (ps.map (·.2) = acc.map spTN) ∧ wr.ownsRow w.heap.size 30 1 s k (ps.flatMap (Nc 0)) ∧ Hid (FamO wr s.ownBlock w.heap.size wr.heap.size ps) ∧
    Hid (spGo ts f way = acc ++ spGo ts f' (way.drop k)) ∧ Below w.heap.size w wr)
  case atStart => exact ⟨0, f, [], [], by omega, by simp [Hid], rfl, rfl, hf, by omega, by simp [Hid], ho1, trivial, by simp [Hid], hb1⟩
  case round =>
    obtain ⟨k, f', ps, acc, hk, hg, rfl, rfl, hf0, hf9, HP, hown, HF, HS, hb⟩ := hrel
    clear ho1 hb1
    have hsz := hb.size
    have q0 := (hb.cell (p := ⟨b, o, none⟩) hbl).trans K0.out
    by_cases hlt : k < way.length
    · obtain ⟨b1, o1, t1, rfl, hbb1, hz1, hca⟩ := (HW.out.below hb).at_ hlt
      have hi1 := HN.out t1 (List.mem_of_getElem? hz1)
      obtain ⟨n1, rfl⟩ := Int.eq_ofNat_of_zero_le hi1.1
      obtain ⟨b2, o2, tv, rfl, hbb2, hz2, hcb⟩ := (HX.out.below hb).at_ (show n1 < ts.length by omega)
      have htv := HV.out tv (List.mem_of_getElem? hz2)
      obtain ⟨htv1, htv2⟩ := htv
      have HS' := HS.out
      rw [spGo_drop hz1, tm_get hz2] at HS'
      have HQ := hide (show spGo ts f way = (acc ++ [⟨(n1 : Int), f', f' + tv⟩]) ++ spGo ts (f' + tv) (way.drop (k + 1)) by rw [HS', List.append_assoc]; rfl)
      clear HS' HS hz1 hz2
      have hn1 : (n1 : Int) < ts.length := by omega
      have hn0 : (0 : Int) ≤ (n1 : Int) := by omega
      clear hi1
      have hbl' : b < wr.heap.size := Nat.lt_of_lt_of_le hbl hsz
      have O3 : O_Int64S (wr.alloc (.cells #[.int .i64 (n1 : Int), .int .i64 f', .int .i64 (f' + tv)] 2)) wr.heap.size (wr.alloc (.cells #[.int .i64 (n1 : Int), .int .i64 f', .int .i64 (f' + tv)] 2)).heap.size (.slice (some ⟨wr.heap.size, 0, none⟩) 3 3) [(n1 : Int), f', f' + tv] := OwnV.of_row (World.ownsRow_lit (e := 2) (size := 1) wr #[.int .i64 (n1 : Int), .int .i64 f', .int .i64 (f' + tv)] 3 (Nat.le_refl _) (by unfold maxLen; omega) (by simp)) (by simp)
      have hlg := hide fun g h => (hown.lt g h).2
      have hu1 := hown.alloc (.cells #[.int .i64 (n1 : Int), .int .i64 f', .int .i64 (f' + tv)] 2)
      have hba := hb.alloc hsz (.cells #[.int .i64 (n1 : Int), .int .i64 f', .int .i64 (f' + tv)] 2)
      have hsa : wr.heap.size + 1 ≤ (wr.alloc (.cells #[.int .i64 (n1 : Int), .int .i64 f', .int .i64 (f' + tv)] 2)).heap.size := by simp
      have F1 : FamO (wr.alloc (.cells #[.int .i64 (n1 : Int), .int .i64 f', .int .i64 (f' + tv)] 2)) u5.ownBlock w.heap.size (wr.alloc (.cells #[.int .i64 (n1 : Int), .int .i64 f', .int .i64 (f' + tv)] 2)).heap.size (ps ++ [(.slice (some ⟨wr.heap.size, 0, none⟩) 3 3, spTN ⟨(n1 : Int), f', f' + tv⟩)]) :=
        (HF.out.below ((Below.refl _ wr).alloc (Nat.le_refl _) _) (Nat.le_refl _)).snoc (p := (.slice (some ⟨wr.heap.size, 0, none⟩) 3 3, spTN ⟨(n1 : Int), f', f' + tv⟩)) (Nat.le_refl _) (by omega) (Nat.le_refl _) (fun g hg => .inr (hlg.out g hg)) O3 hsz
      have hsb : (wr.alloc (.cells #[.int .i64 (n1 : Int), .int .i64 f', .int .i64 (f' + tv)] 2)).heap.size ≤ ((wr.alloc (.cells #[.int .i64 (n1 : Int), .int .i64 f', .int .i64 (f' + tv)] 2)).alloc (.cells #[.slice (some ⟨wr.heap.size, 0, none⟩) 3 3] 30)).heap.size := by simp
      have F2 := (F1.below ((Below.refl _ (wr.alloc (.cells #[.int .i64 (n1 : Int), .int .i64 f', .int .i64 (f' + tv)] 2))).alloc (Nat.le_refl _) (.cells #[.slice (some ⟨wr.heap.size, 0, none⟩) 3 3] 30)) (Nat.le_refl _)).widen (hi' := ((wr.alloc (.cells #[.int .i64 (n1 : Int), .int .i64 f', .int .i64 (f' + tv)] 2)).alloc (.cells #[.slice (some ⟨wr.heap.size, 0, none⟩) 3 3] 30)).heap.size) hsb (Nat.le_refl _)
      have hu2 := hu1.alloc (.cells #[.slice (some ⟨wr.heap.size, 0, none⟩) 3 3] 30)
      have hbb := hba.alloc hba.size (.cells #[.slice (some ⟨wr.heap.size, 0, none⟩) 3 3] 30)
      have F3 := hide F2
      have U2 := hide hu2
      have BB := hide hbb
      clear O3 F1 F2 hu1 hu2 hba hbb
      go_wp2_with (at_builtin; go_must (refine wp_app _ rfl _ _ 39 rfl w.heap.size 30 i0 (.slice none 0 0) 1 24 Try.underlying39 hi0 hz0 hs0 hb0 rfl (by decide) _ _ _ rfl U2.out _ _ 1 1 [.slice (some ⟨wr.heap.size, 0, none⟩) 3 3] rfl rfl (rd_new _ _ _ _ (by simp)) (by intro u hu; simp at hu; subst hu; rfl) (by omega) (by decide) BB.out.size ?_); intro v' w2 hown' hgrow hat)
      have hb4 := app_below BB.out U2.out hgrow (Nat.le_refl _) BB.out.size
      have F4 := famO_grown F3.out U2.out hgrow hat
      go_roundg (way.length - (k + 1))
      case measure => have := hg.out; omega
      case rel => exact ⟨k + 1, f' + tv, ps ++ [(.slice (some ⟨wr.heap.size, 0, none⟩) 3 3, spTN ⟨(n1 : Int), f', f' + tv⟩)], acc ++ [⟨(n1 : Int), f', f' + tv⟩], by omega, rfl, by go_num, by go_num, by omega, by omega, by unfold Hid; rw [List.map_append, HP.out, List.map_append]; rfl, by rw [List.flatMap_append]; exact hown', hide F4, HQ, hb4⟩
    · obtain rfl : k = way.length := by omega
      have hS := HS.out
      rw [List.drop_length, spGo, List.append_nil] at hS
      obtain ⟨A', c', hsh, _⟩ := own_shape hown
      subst hsh
      go_wp2_with fail
      go_ret
      exact ⟨A', c', rfl, ⟨ps, by rw [hS]; exact HP.out, Rd.of_own hown, HF.out.way⟩, hb⟩
theorem sp_get {ts way : List Int} {f : Int} {k : Nat} (h : k < (spGo ts f way).length) : ∃ s, (spGo ts f way)[k]? = some s := ⟨_, List.getElem?_eq_getElem h⟩
def meetAt (ss tt : List T3) : Int := firstI (fun s => tt.any (meet s)) ss 0
end Go.Proofs.Ytflbddfmhjlknaa
