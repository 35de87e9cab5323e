/-
  The laws' helpers mark and held for lists whose elements hold a list of numbers, by contract.
-/
import Derived.Test.YtflbddfmhjlknaaNestL
namespace Go.Proofs.Ytflbddfmhjlknaa
open Go.RowKit

theorem own_only {w w' : World} {g a b n c s : Nat} {e : TypeId} {xs : List Value} (h : w.ownsRow g e s (.slice (some ⟨g, 0, none⟩) n c) n xs) (k : Only a b w w') (hd : b ≤ g ∨ g < a) : w'.ownsRow g e s (.slice (some ⟨g, 0, none⟩) n c) n xs := by
  refine ⟨h.1, ?_⟩
  rcases h.2 with h0 | ⟨g', cap, cur, he, hb, hg, rest⟩
  · exact .inl h0
  · simp only [Value.slice.injEq, Option.some.injEq, Addr.mk.injEq, and_true, true_and] at he
    obtain ⟨rfl, rfl⟩ := he
    exact .inr ⟨g, _, cur, rfl, hb, (k.2.2.2.2 g (lt_of_block hg) (by omega)).trans hg, rest⟩
theorem onv_block {e : TypeId} {s : Nat} {w : World} {lo hi n : Nat} {v : Value} {xs : List Value} (h : OwnV e s w lo hi v n xs) (hn : 0 < n) : ∃ g c, v = .slice (some ⟨g, 0, none⟩) n c ∧ lo ≤ g ∧ g < hi ∧ w.ownsRow g e s v n xs ∧ w.ownsRow lo e s v n xs := by
  obtain ⟨⟨A, c, rfl⟩, _, h0 | ⟨ho, hlt⟩⟩ := h
  · omega
  · rcases ho.2 with ⟨_, h0⟩ | ⟨g, cap, cur, he, hb, hg, rest⟩
    · omega
    · simp only [Value.slice.injEq, true_and] at he
      obtain ⟨rfl, rfl⟩ := he
      exact ⟨g, _, rfl, hb, hlt g rfl, ⟨ho.1, .inr ⟨g, _, cur, rfl, Nat.le_refl _, hg, rest⟩⟩, ho⟩
theorem set_mid {α : Type} {us vs : List α} {p q : α} {j : Nat} (h : us.length = j) : (us ++ p :: vs).set j q = (us ++ [q]) ++ vs := by
  rw [List.set_append_right _ _ (by omega), h, Nat.sub_self, List.set_cons_zero, List.append_assoc]; rfl
theorem get_mid {α : Type} {us vs : List α} {p : α} {j : Nat} (h : us.length = j) : (us ++ p :: vs)[j]? = some p := by
  rw [List.getElem?_append_right (by omega), h, Nat.sub_self]; rfl
theorem mark1 {L : List (Value × TN)} {k : Nat} {p : Value × TN} (h : L[k]? = some p) (way : List Int) (a : Int) : (L.flatMap (Nc 1)).set (k * 2 + 1) (.int .i64 a) = (L.set k (p.1, ⟨way, a, p.2.q⟩)).flatMap (Nc 1) :=
  flatMap_set (Nc 1) 2 (fun _ => rfl) L k 1 p (p.1, ⟨way, a, p.2.q⟩) (.int .i64 a) h (by omega) rfl
theorem mark2 {L : List (Value × TN)} {k : Nat} {p : Value × TN} (h : L[k]? = some p) (way : List Int) (a b : Int) : ((L.flatMap (Nc 2)).set (k * 3 + 1) (.int .i64 a)).set (k * 3 + 2) (.int .i64 b) = (L.set k (p.1, ⟨way, a, b⟩)).flatMap (Nc 2) := by
  have h1 := flatMap_set (Nc 2) 3 (fun _ => rfl) L k 1 p (p.1, ⟨way, a, p.2.q⟩) (.int .i64 a) h (by omega) rfl
  have h2 := flatMap_set (Nc 2) 3 (fun _ => rfl) (L.set k (p.1, ⟨way, a, p.2.q⟩)) k 2 (p.1, ⟨way, a, p.2.q⟩) (p.1, ⟨way, a, b⟩) (.int .i64 b) (List.getElem?_set_self (lt_of_get h)) (by omega) rfl
  rw [h1, h2, set_set_same]
theorem mark0 {L : List (Value × TN)} {k : Nat} {p : Value × TN} (h : L[k]? = some p) (z : TN) : L.flatMap (Nc 0) = (L.set k (p.1, z)).flatMap (Nc 0) := by
  have h1 := flatMap_set (Nc 0) 1 (fun _ => rfl) L k 0 p (p.1, z) p.1 h (by omega) rfl
  rw [Nat.add_zero, Nat.mul_one] at h1
  rw [← h1]
  have h2 := flatMap_get (Nc 0) 1 (fun _ => rfl) L k 0 p h (by omega)
  rw [Nat.add_zero, Nat.mul_one] at h2
  refine (List.ext_getElem? fun i => ?_)
  by_cases hi : i = k
  · subst hi; rw [List.getElem?_set_self (lt_of_get h2), h2]; rfl
  · rw [List.getElem?_set_ne (fun e => hi e.symm)]
theorem take_next {α : Type} {x : List α} {j : Nat} {e : α} (h : x[j]? = some e) : x.take (j + 1) = x.take j ++ [e] := by
  obtain ⟨hl, he⟩ := List.getElem?_eq_some_iff.1 h
  rw [List.take_succ_eq_append_getElem hl, he]
theorem mkN_next {m : Nat} {x : List TN} {j : Nat} {e : TN} (h : x[j]? = some e) (k : Int) : mkN m (x.take (j + 1)) k = mkN m (x.take j) k ++ [⟨mark_Int64S e.way (k + cntN m (x.take j)), if 1 ≤ m then k + cntN m (x.take j) + e.way.length else e.p, if 2 ≤ m then k + cntN m (x.take j) + e.way.length + 1 else e.q⟩] := by
  rw [take_next h, mkN_append, mkN, mkN]
theorem cntN_le {m : Nat} (hm : m ≤ 2) {x : List TN} (hs : SmallN x) (j : Nat) : 0 ≤ cntN m (x.take j) ∧ cntN m (x.take j) ≤ 4194304 := by
  have h1 := cntN_bd m hm x
  have h2 := cntN_bd m hm (x.take j)
  have h3 := cntN_bd m hm (x.drop j)
  have h4 := cntN_append m (x.take j) (x.drop j)
  rw [List.take_append_drop] at h4
  unfold SmallN at hs
  omega
set_option maxRecDepth 100000 in
set_option maxHeartbeats 4000000 in
theorem L_mark_Int64SS (x : List TN) (v : Value) (k : Int) (lo hi : Nat) (w : World) (hk0 : 0 ≤ k) (hk1 : k ≤ 1099491627776) (hh : hi ≤ w.heap.size) (h : O_Int64SS w lo hi v x) :
    Calls Try.prog 56 #[v, .int .i64 k] w fun e w' => e = .returned (.int .i64 (k + cnt_Int64SS x)) ∧ O_Int64SS w' lo hi v (mark_Int64SS x k) ∧ Only lo hi w w' := by
  have hs := h.small
  have hxl : x.length ≤ 1048576 := by unfold SmallN at hs; omega
  by_cases hx0 : x = []
  · subst hx0
    obtain ⟨A, c, rfl, _⟩ := h.r
    go_enter Try.func56, Try.ntmps56
    go_wp2_with fail
    go_loopg [1, 5] 0 (fun g l i wr => i = .int .i64 0 ∧ l = .int .i64 k ∧ w = wr)
    case atStart => exact ⟨rfl, rfl, rfl⟩
    case round =>
      obtain ⟨rfl, rfl, rfl⟩ := hrel
      go_wp2_with fail
      go_ret
      exact ⟨by simp [cnt_Int64SS, cntN], O_Int64SS.nil _ _ _ _ _, only_of_below (Below.refl _ _)⟩
  have hxp : 0 < x.length := List.length_pos_iff.2 hx0
  obtain ⟨ps, hP, hO, hF, _⟩ := h
  obtain ⟨g, c, rfl, hlg, hgh, how0, _⟩ := onv_block hO hxp
  have HS := hide hs
  have HP0 := hide hP
  have HF0 : Hid (FamO w (some g) lo hi ps) := hF
  have how0 := hide how0
  clear hs hP hF hO hx0
  go_enter Try.func56, Try.ntmps56
  go_wp2_with fail
  go_loopg [1, 5] x.length (fun gk kk i wr => ∃ (j : Nat) (pm pr : List (Value × TN)) (mid : Nat), j ≤ x.length ∧ Hid (gk = x.length - j) ∧ i = .int .i64 j ∧ kk = .int .i64 (k + cntN 0 (x.take j)) ∧ Hid (pm.map (·.2) = mkN 0 (x.take j) k) ∧ Hid (pr.map (·.2) = x.drop j) ∧ Hid (pm.length = j) ∧
    Hid (wr.ownsRow g 30 1 (.slice (some ⟨g, 0, none⟩) x.length c) x.length ((pm ++ pr).flatMap (Nc 0))) ∧ Hid (FamO wr (some g) lo mid pm) ∧ lo ≤ mid ∧ mid ≤ hi ∧ Hid (FamO wr (some g) mid hi pr) ∧ Hid (Only lo hi w wr))
  case atStart => exact ⟨0, [], ps, lo, by omega, by simp [Hid], rfl, by simp [cntN], by simp [Hid, mkN], by simpa [Hid] using HP0.out, rfl, how0, trivial, Nat.le_refl _, by omega, HF0, hide (only_of_below (Below.refl _ _))⟩
  case round =>
    obtain ⟨j, pm, pr0, mid, hj, hg, rfl, rfl, HM, HR, hpl, how, HF1, hlm, hmh, HF2, HO⟩ := hrel
    clear how0 HP0 HF0
    obtain ⟨hc0, hc1⟩ := cntN_le (m := 0) (by omega) HS.out j
    by_cases hlt : j < x.length
    · obtain ⟨z1, hz1⟩ : ∃ z, x[j]? = some z := ⟨_, List.getElem?_eq_getElem hlt⟩
      have hpr := HR.out
      rw [drop_cons hz1] at hpr
      match pr0, hpr with
      | p :: pr, hpr =>
      rw [List.map_cons] at hpr
      obtain ⟨hp2, hpr'⟩ := List.cons.inj hpr
      obtain ⟨a, b, hma, hab, hbh, hgab0, ho, HF3⟩ := HF2.out
      obtain ⟨sv, z1'⟩ := p
      obtain rfl : z1' = z1 := hp2
      dsimp only at ho
      obtain ⟨Aw, cw, rfl⟩ := ho.1
      have hgab := hgab0 g rfl
      have hla : lo ≤ a := by omega
      have hwl : z1'.way.length ≤ 1048576 := HS.out.way hz1
      have HZ := hide hz1
      have HPR := hide hpr'
      have HF4 := hide HF3
      have hct := hide (cntN_take (m := 0) hz1)
      clear hgab0 hpr hpr' hz1 HF3 HF2 HR
      have HC := hide (L_mark_Int64S z1'.way _ (k + cntN 0 (x.take j)) a b wr (by omega) (by omega) ho)
      rw [show cnt_Int64S z1'.way = z1'.way.length from rfl] at HC
      have hr0 : wr.cell? ⟨g, j * 1, none⟩ = some (.slice Aw z1'.way.length cw) := (how.out.cellAt (j * 1) (by omega)).trans (flatMap_get _ 1 (fun _ => rfl) _ j 0 _ (get_mid hpl.out) (by omega))
      clear ho
      rw [Nat.mul_one] at hr0
      go_wp2_with (go_at_call 54; refine (HC.out).mono ?_; rintro e w1 ⟨rfl, o1, s1⟩; have how1 := own_only how.out s1 hgab)
      have hfin := mark0 (get_mid (us := pm) (vs := pr) (p := (.slice Aw z1'.way.length cw, z1')) hpl.out) ⟨mark_Int64S z1'.way (k + cntN 0 (x.take j)), z1'.p, z1'.q⟩
      rw [set_mid hpl.out] at hfin
      have HF1' := (HF1.out.kept s1 (.inl hma))
      have HF4' := (HF4.out.kept s1 (.inr (Nat.le_refl _)))
      have o2 := (o1)
      go_roundg (x.length - (j + 1))
      case measure => have := hg.out; omega
      case rel =>
        refine ⟨j + 1, pm ++ [(.slice Aw z1'.way.length cw, ⟨mark_Int64S z1'.way (k + cntN 0 (x.take j)), z1'.p, z1'.q⟩)], pr, b, by omega, rfl, by go_num, ?_, ?_, HPR, ?_, by rw [← hfin]; exact how1, ?_, by omega, hbh, HF4', only_trans HO.out (s1.wider hla hbh)⟩
        · rw [hct.out]; go_num
        · unfold Hid; rw [mkN_next HZ.out, List.map_append, HM.out]; rfl
        · unfold Hid; rw [List.length_append, hpl.out]; rfl
        · exact HF1'.snoc (hi := b) (p := (.slice Aw z1'.way.length cw, ⟨mark_Int64S z1'.way (k + cntN 0 (x.take j)), z1'.p, z1'.q⟩)) hma hab (Nat.le_refl _) (fun g' hg' => by cases hg'; omega) o2 hlm
    · obtain rfl : j = x.length := by omega
      have hM := HM.out
      rw [List.take_length] at hM
      have hR := HR.out
      rw [List.drop_length] at hR
      have hpr : pr0 = [] := List.map_eq_nil_iff.1 hR
      subst hpr
      have hw := how.out
      rw [List.append_nil] at hw
      have HE := hide (show k + cntN 0 (x.take x.length) = k + cnt_Int64SS x by rw [List.take_length]; rfl)
      clear hR
      go_wp2_with fail
      go_ret
      refine ⟨rfl, ⟨pm, hM, ?_, HF1.out.widen hmh (Nat.le_refl _), mkN_small HS.out⟩, HO.out⟩
      unfold mark_Int64SS
      rw [mkN_len]
      exact ⟨⟨_, _, rfl⟩, hxl, .inr ⟨own_base hw hlg, fun g' hg' => by cases hg'; exact hgh⟩⟩
set_option maxRecDepth 100000 in
set_option maxHeartbeats 4000000 in
theorem L_held_Int64SS (x : List TN) (v : Value) (k : Int) (lo hi : Nat) (w : World) (hk0 : 0 ≤ k) (hk1 : k ≤ 1099491627776) (hh : hi ≤ w.heap.size) (h : O_Int64SS w lo hi v (mark_Int64SS x k)) :
    Calls Try.prog 57 #[v, .int .i64 k] w fun e w' => e = .returned (.int .i64 (k + cnt_Int64SS x)) ∧ Below w.heap.size w w' := by
  have hs0 := h.small
  have hs : SmallN x := by unfold SmallN at hs0 ⊢; unfold mark_Int64SS at hs0; rw [mkN_len, mkN_sum] at hs0; exact hs0
  have hxl : x.length ≤ 1048576 := by unfold SmallN at hs; omega
  obtain ⟨ps, hP, hO, hF, _⟩ := h
  unfold mark_Int64SS at hP hO
  rw [mkN_len] at hO
  have hpl : ps.length = x.length := by have := congrArg List.length hP; simpa [mkN_len] using this
  obtain ⟨A, c, rfl, hrd⟩ := hO.rd
  have HX := hide hrd
  have HS := hide hs
  have HP := hide hP
  have HF := hide hF
  clear hs hs0 hP hO hF hrd
  go_enter Try.func57, Try.ntmps57
  go_wp2_with fail
  go_loopg [1, 5] x.length (fun gk kk i wr => ∃ (j : Nat), j ≤ x.length ∧ Hid (gk = x.length - j) ∧ i = .int .i64 j ∧ kk = .int .i64 (k + cntN 0 (x.take j)) ∧ Below w.heap.size w wr)
  case atStart => exact ⟨0, by omega, by simp [Hid], rfl, by simp [cntN], Below.refl _ _⟩
  case round =>
    obtain ⟨j, hj, hg, rfl, rfl, hb⟩ := hrel
    obtain ⟨hc0, hc1⟩ := cntN_le (m := 0) (by omega) HS.out j
    by_cases hlt : j < x.length
    · obtain ⟨z1, hz1⟩ : ∃ z, x[j]? = some z := ⟨_, List.getElem?_eq_getElem hlt⟩
      obtain ⟨b1, o1, p, rfl, hb1, hp, hcc⟩ := Rd.elem (Nc 0) 1 (fun _ => rfl) (HX.out.below hb) (by omega) (k := j) (by omega)
      obtain ⟨a, b, hla, hab, hbh, _, ho⟩ := HF.out.at_ hp
      have hp2 : p.2 = ⟨mark_Int64S z1.way (k + cntN 0 (x.take j)), z1.p, z1.q⟩ := by
        have h1 : (ps.map (·.2))[j]? = some p.2 := by rw [List.getElem?_map, hp]; rfl
        rw [HP.out, mkN_get _ k hz1] at h1
        exact (Option.some.inj h1).symm
      obtain ⟨sv, z2⟩ := p
      dsimp only at hp2 ho
      subst hp2
      dsimp only at ho
      have hwl : z1.way.length ≤ 1048576 := HS.out.way hz1
      obtain ⟨Aw, cw, rfl⟩ := ho.1
      have ho' : O_Int64S wr a b (.slice Aw (mark_Int64S z1.way (k + cntN 0 (x.take j))).length cw) (mark_Int64S z1.way (k + cntN 0 (x.take j))) := ho.below hb (by omega)
      have HC := hide (L_held_Int64S z1.way _ (k + cntN 0 (x.take j)) a b wr (by omega) (by omega) ho')
      rw [show cnt_Int64S z1.way = z1.way.length from rfl] at HC
      have hct := hide (cntN_take (m := 0) hz1)
      have hbl : b1 < wr.heap.size := by have := hb.size; omega
      have hr0 : wr.cell? ⟨b1, o1 + j * 1, none⟩ = some (.slice Aw (mark_Int64S z1.way (k + cntN 0 (x.take j))).length cw) := by have := hcc 0 (by omega); rw [Nat.add_zero] at this; rw [this]; rfl
      clear ho ho' hp hz1 hcc
      rw [Nat.mul_one] at hr0
      go_wp2_with (go_at_call 122; refine (HC.out).mono ?_; rintro e w1 ⟨rfl, hb1⟩)
      go_roundg (x.length - (j + 1))
      case measure => have := hg.out; omega
      case rel => exact ⟨j + 1, by omega, rfl, by go_num, by rw [hct.out]; go_num, hb.trans (hb1.mono hb.size)⟩
    · obtain rfl : j = x.length := by omega
      have HE := hide (show k + cntN 0 (x.take x.length) = k + cnt_Int64SS x by rw [List.take_length]; rfl)
      go_wp2_with fail
      go_ret
      exact ⟨by rw [← HE.out]; rfl, hb⟩
set_option maxRecDepth 100000 in
set_option maxHeartbeats 4000000 in
theorem L_mark_RunS (x : List TN) (v : Value) (k : Int) (lo hi : Nat) (w : World) (hk0 : 0 ≤ k) (hk1 : k ≤ 1099491627776) (hh : hi ≤ w.heap.size) (h : O_RunS w lo hi v x) :
    Calls Try.prog 55 #[v, .int .i64 k] w fun e w' => e = .returned (.int .i64 (k + cnt_RunS x)) ∧ O_RunS w' lo hi v (mark_RunS x k) ∧ Only lo hi w w' := by
  have hs := h.small
  have hxl : x.length ≤ 1048576 := by unfold SmallN at hs; omega
  by_cases hx0 : x = []
  · subst hx0
    obtain ⟨A, c, rfl, _⟩ := h.r
    go_enter Try.func55, Try.ntmps55
    go_wp2_with fail
    go_loopg [1, 5] 0 (fun g l i wr => i = .int .i64 0 ∧ l = .int .i64 k ∧ w = wr)
    case atStart => exact ⟨rfl, rfl, rfl⟩
    case round =>
      obtain ⟨rfl, rfl, rfl⟩ := hrel
      go_wp2_with fail
      go_ret
      exact ⟨by simp [cnt_RunS, cntN], O_RunS.nil _ _ _ _ _, only_of_below (Below.refl _ _)⟩
  have hxp : 0 < x.length := List.length_pos_iff.2 hx0
  obtain ⟨ps, hP, hO, hF, _⟩ := h
  obtain ⟨g, c, rfl, hlg, hgh, how0, _⟩ := onv_block hO hxp
  have HS := hide hs
  have HP0 := hide hP
  have HF0 : Hid (FamO w (some g) lo hi ps) := hF
  have how0 := hide how0
  clear hs hP hF hO hx0
  go_enter Try.func55, Try.ntmps55
  go_wp2_with fail
  go_loopg [1, 5] x.length (fun gk kk i wr => ∃ (j : Nat) (pm pr : List (Value × TN)) (mid : Nat), j ≤ x.length ∧ Hid (gk = x.length - j) ∧ i = .int .i64 j ∧ kk = .int .i64 (k + cntN 1 (x.take j)) ∧ Hid (pm.map (·.2) = mkN 1 (x.take j) k) ∧ Hid (pr.map (·.2) = x.drop j) ∧ Hid (pm.length = j) ∧
    Hid (wr.ownsRow g 136 2 (.slice (some ⟨g, 0, none⟩) x.length c) x.length ((pm ++ pr).flatMap (Nc 1))) ∧ Hid (FamO wr (some g) lo mid pm) ∧ lo ≤ mid ∧ mid ≤ hi ∧ Hid (FamO wr (some g) mid hi pr) ∧ Hid (Only lo hi w wr))
  case atStart => exact ⟨0, [], ps, lo, by omega, by simp [Hid], rfl, by simp [cntN], by simp [Hid, mkN], by simpa [Hid] using HP0.out, rfl, how0, trivial, Nat.le_refl _, by omega, HF0, hide (only_of_below (Below.refl _ _))⟩
  case round =>
    obtain ⟨j, pm, pr0, mid, hj, hg, rfl, rfl, HM, HR, hpl, how, HF1, hlm, hmh, HF2, HO⟩ := hrel
    clear how0 HP0 HF0
    obtain ⟨hc0, hc1⟩ := cntN_le (m := 1) (by omega) HS.out j
    by_cases hlt : j < x.length
    · obtain ⟨z1, hz1⟩ : ∃ z, x[j]? = some z := ⟨_, List.getElem?_eq_getElem hlt⟩
      have hpr := HR.out
      rw [drop_cons hz1] at hpr
      match pr0, hpr with
      | p :: pr, hpr =>
      rw [List.map_cons] at hpr
      obtain ⟨hp2, hpr'⟩ := List.cons.inj hpr
      obtain ⟨a, b, hma, hab, hbh, hgab0, ho, HF3⟩ := HF2.out
      obtain ⟨sv, z1'⟩ := p
      obtain rfl : z1' = z1 := hp2
      dsimp only at ho
      obtain ⟨Aw, cw, rfl⟩ := ho.1
      have hgab := hgab0 g rfl
      have hla : lo ≤ a := by omega
      have hwl : z1'.way.length ≤ 1048576 := HS.out.way hz1
      have HZ := hide hz1
      have HPR := hide hpr'
      have HF4 := hide HF3
      have hct := hide (cntN_take (m := 1) hz1)
      clear hgab0 hpr hpr' hz1 HF3 HF2 HR
      have HC := hide (L_mark_Int64S z1'.way _ (k + cntN 1 (x.take j)) a b wr (by omega) (by omega) ho)
      rw [show cnt_Int64S z1'.way = z1'.way.length from rfl] at HC
      have hr0 : wr.cell? ⟨g, j * 2, none⟩ = some (.slice Aw z1'.way.length cw) := (how.out.cellAt (j * 2) (by omega)).trans (flatMap_get _ 2 (fun _ => rfl) _ j 0 _ (get_mid hpl.out) (by omega))
      clear ho
      go_wp2_with (go_at_call 54; refine (HC.out).mono ?_; rintro e w1 ⟨rfl, o1, s1⟩; have how1 := own_only how.out s1 hgab; have hq1 : w1.cell? ⟨g, j * 2 + 1, none⟩ = some (.int .i64 z1'.p) := (how1.cellAt (j * 2 + 1) (by omega)).trans (flatMap_get _ 2 (fun _ => rfl) _ j 1 _ (get_mid hpl.out) (by omega)); have hf1 := how1.frozenAt (j * 2 + 1))
      have hs1 := how1.stored (j * 2 + 1) (.int .i64 ((k + cntN 1 (x.take j)) + z1'.way.length))
      have hfin := mark1 (get_mid (us := pm) (vs := pr) (p := (.slice Aw z1'.way.length cw, z1')) hpl.out) (mark_Int64S z1'.way (k + cntN 1 (x.take j))) (k + cntN 1 (x.take j) + z1'.way.length)
      rw [set_mid hpl.out] at hfin
      have KO := onlyN_set (w := w1) (b := g) (j := j * 2 + 1) (v := .int .i64 ((k + cntN 1 (x.take j)) + z1'.way.length)) (lo := g) (hi := g + 1) (Nat.le_refl _) (by omega)
      have HF1' := (HF1.out.kept s1 (.inl hma)).keptB KO
      have HF4' := (HF4.out.kept s1 (.inr (Nat.le_refl _))).keptB KO
      have o2 := (o1.kept KO (by omega))
      go_roundg (x.length - (j + 1))
      case measure => have := hg.out; omega
      case rel =>
        refine ⟨j + 1, pm ++ [(.slice Aw z1'.way.length cw, ⟨mark_Int64S z1'.way (k + cntN 1 (x.take j)), k + cntN 1 (x.take j) + z1'.way.length, z1'.q⟩)], pr, b, by omega, rfl, by go_num, ?_, ?_, HPR, ?_, by rw [← hfin]; exact hs1.1, ?_, by omega, hbh, HF4', only_trans HO.out (only_trans (s1.wider hla hbh) (KO.wider hlg (by omega)))⟩
        · rw [hct.out]; go_num
        · unfold Hid; rw [mkN_next HZ.out, List.map_append, HM.out]; rfl
        · unfold Hid; rw [List.length_append, hpl.out]; rfl
        · exact HF1'.snoc (hi := b) (p := (.slice Aw z1'.way.length cw, ⟨mark_Int64S z1'.way (k + cntN 1 (x.take j)), k + cntN 1 (x.take j) + z1'.way.length, z1'.q⟩)) hma hab (Nat.le_refl _) (fun g' hg' => by cases hg'; omega) o2 hlm
    · obtain rfl : j = x.length := by omega
      have hM := HM.out
      rw [List.take_length] at hM
      have hR := HR.out
      rw [List.drop_length] at hR
      have hpr : pr0 = [] := List.map_eq_nil_iff.1 hR
      subst hpr
      have hw := how.out
      rw [List.append_nil] at hw
      have HE := hide (show k + cntN 1 (x.take x.length) = k + cnt_RunS x by rw [List.take_length]; rfl)
      clear hR
      go_wp2_with fail
      go_ret
      refine ⟨rfl, ⟨pm, hM, ?_, HF1.out.widen hmh (Nat.le_refl _), mkN_small HS.out⟩, HO.out⟩
      unfold mark_RunS
      rw [mkN_len]
      exact ⟨⟨_, _, rfl⟩, hxl, .inr ⟨own_base hw hlg, fun g' hg' => by cases hg'; exact hgh⟩⟩
end Go.Proofs.Ytflbddfmhjlknaa
