/-
  Moves that bring what is wanted: plain definitions and laws.
  Many moves are sent: the contracts of the reference and of the program.
-/
import Derived.Test.YtklfjekpeoigoaaQMovesBack13
import Derived.Test.YtklfjekpeoigoaaQMovesBack4
namespace Go.Proofs.Ytklfjekpeoigoaa

/-- By how many each station has more than it wants. -/
def deltas : List Int → List Int → List Int
  | s :: st, w :: wa => (s - w) :: deltas st wa
  | _, _ => []
def dAt (D : List Int) (i : Nat) : Int := (D[i]?).getD 0
def mbN (D : List Int) (to fr : Nat) : Int := min (dAt D fr) (-(dAt D to))
def mbStep (s : List Int × List T3) (to fr : Nat) : List Int × List T3 :=
  if 0 < mbN s.1 to fr then ((s.1.set fr (dAt s.1 fr - mbN s.1 to fr)).set to (dAt s.1 to + mbN s.1 to fr), s.2 ++ [⟨fr, to, mbN s.1 to fr⟩]) else s
def mbIn (n to k : Nat) (s : List Int × List T3) : List Int × List T3 := ((List.range n).drop k).foldl (fun s (fr : Nat) => mbStep s to fr) s
def mbOut (n k : Nat) (s : List Int × List T3) : List Int × List T3 := ((List.range n).drop k).foldl (fun s (to : Nat) => mbIn n to 0 s) s
theorem mbIn_end (n to : Nat) (s : List Int × List T3) : mbIn n to n s = s := by unfold mbIn; rw [List.drop_eq_nil_of_le (by simp)]; rfl
theorem mbOut_end (n : Nat) (s : List Int × List T3) : mbOut n n s = s := by unfold mbOut; rw [List.drop_eq_nil_of_le (by simp)]; rfl
theorem mbIn_step {n to k : Nat} (hk : k < n) (s : List Int × List T3) : mbIn n to k s = mbIn n to (k + 1) (mbStep s to k) := by
  unfold mbIn
  rw [List.drop_eq_getElem_cons (by simpa using hk), List.foldl_cons, List.getElem_range]
theorem mbOut_step {n k : Nat} (hk : k < n) (s : List Int × List T3) : mbOut n k s = mbOut n (k + 1) (mbIn n k 0 s) := by
  unfold mbOut
  rw [List.drop_eq_getElem_cons (by simpa using hk), List.foldl_cons, List.getElem_range]
def movesBack (st wa : List Int) : List T3 × Int :=
  if codeWa st wa = 0 then (if st.sum < wa.sum then ([], 5) else ((mbOut st.length 0 (deltas st wa, [])).2, 0)) else ([], codeWa st wa)
theorem deltas_len : ∀ {st wa : List Int}, wa.length = st.length → (deltas st wa).length = st.length := by
  intro st
  induction st with
  | nil => intro wa _; cases wa <;> rfl
  | cons s st ih => intro wa h; cases wa with
    | nil => simp at h
    | cons w wa => simp only [deltas, List.length_cons]; rw [ih (by simpa using h)]
theorem deltas_get : ∀ {st wa : List Int} {i : Nat} {s w : Int}, st[i]? = some s → wa[i]? = some w → (deltas st wa)[i]? = some (s - w) := by
  intro st
  induction st with
  | nil => intro wa i s w h; simp at h
  | cons a st ih =>
    intro wa i s w h1 h2
    cases wa with
    | nil => simp at h2
    | cons b wa =>
      cases i with
      | zero => simp at h1 h2; subst h1 h2; rfl
      | succ i => simp only [deltas, List.getElem?_cons_succ] at *; exact ih h1 h2
theorem deltas_inv : ∀ {st wa : List Int} {i : Nat} {d : Int}, (deltas st wa)[i]? = some d → ∃ s w, st[i]? = some s ∧ wa[i]? = some w ∧ d = s - w := by
  intro st
  induction st with
  | nil => intro wa i d h; cases wa <;> simp [deltas] at h
  | cons a st ih =>
    intro wa i d h
    cases wa with
    | nil => simp [deltas] at h
    | cons b wa =>
      cases i with
      | zero => simp [deltas] at h; exact ⟨a, b, rfl, rfl, h.symm⟩
      | succ i => simp only [deltas, List.getElem?_cons_succ] at h ⊢; exact ih h
theorem dAt_get {D : List Int} {i : Nat} {d : Int} (h : D[i]? = some d) : dAt D i = d := by simp [dAt, h]
/-- What the walks keep: D within bounds. -/
def DOk (n : Nat) (D : List Int) : Prop := D.length = n ∧ ∀ d ∈ D, -200 ≤ d ∧ d ≤ 200
theorem DOk.start {st wa : List Int} (h : codeWa st wa = 0) : DOk st.length (deltas st wa) := by
  obtain ⟨h1, h2, h3⟩ := codeWa_ok h
  refine ⟨deltas_len h2, fun d hd => ?_⟩
  obtain ⟨i, hi⟩ := List.getElem?_of_mem hd
  obtain ⟨s, w, hs, hw, rfl⟩ := deltas_inv hi
  have := stock_bd h1 s (List.mem_of_getElem? hs)
  have := h3 w (List.mem_of_getElem? hw)
  omega
section
variable {D S : List Int} {to fr : Nat} {a b m : Int}
theorem mb_ne (hfr : D[fr]? = some a) (hto : D[to]? = some b) (h : 0 < min a (-b)) : fr ≠ to := by
  rintro rfl
  rw [hfr] at hto
  injection hto with hto
  subst hto
  omega
theorem mb_get (hfr : D[fr]? = some a) (hto : D[to]? = some b) (hne : fr ≠ to) {i : Nat} : ((D.set fr (a - m)).set to (b + m))[i]? = if i = to then some (b + m) else if i = fr then some (a - m) else D[i]? := by
  have h1 := lt_of_get hfr
  have h2 := lt_of_get hto
  rw [List.getElem?_set, List.getElem?_set, List.length_set]
  by_cases e1 : to = i
  · subst e1; simp [h2]
  · rw [if_neg e1]
    rw [if_neg (show ¬ i = to from fun e => e1 e.symm)]
    by_cases e2 : fr = i
    · subst e2; simp [h1]
    · rw [if_neg e2]
      rw [if_neg (show ¬ i = fr from fun e => e2 e.symm)]
theorem mb_mem (hfr : D[fr]? = some a) (hto : D[to]? = some b) (hne : fr ≠ to) {d : Int} (hd : d ∈ (D.set fr (a - m)).set to (b + m)) : d = b + m ∨ d = a - m ∨ d ∈ D := by
  obtain ⟨i, hi⟩ := List.getElem?_of_mem hd
  rw [mb_get hfr hto hne] at hi
  split at hi
  · left; injection hi with hi; exact hi.symm
  · split at hi
    · right; left; injection hi with hi; exact hi.symm
    · right; right; exact List.mem_of_getElem? hi
theorem DOk.next {n : Nat} (h : DOk n D) (hfr : D[fr]? = some a) (hto : D[to]? = some b) (hm : m = min a (-b)) (h0 : 0 < m) : DOk n ((D.set fr (a - m)).set to (b + m)) := by
  have hne := mb_ne hfr hto (by omega)
  have ha := h.2 a (List.mem_of_getElem? hfr)
  have hb := h.2 b (List.mem_of_getElem? hto)
  refine ⟨by rw [List.length_set, List.length_set]; exact h.1, fun d hd => ?_⟩
  rcases mb_mem hfr hto hne hd with rfl | rfl | hd
  · omega
  · omega
  · exact h.2 d hd
theorem mbStep_yes (out : List T3) (hfr : D[fr]? = some a) (hto : D[to]? = some b) (hm : m = min a (-b)) (h0 : 0 < m) : mbStep (D, out) to fr = ((D.set fr (a - m)).set to (b + m), out ++ [⟨fr, to, m⟩]) := by
  unfold mbStep mbN
  dsimp only
  rw [dAt_get hfr, dAt_get hto, ← hm, if_pos h0]
theorem mbStep_no (out : List T3) (hfr : D[fr]? = some a) (hto : D[to]? = some b) (h0 : ¬ 0 < min a (-b)) : mbStep (D, out) to fr = (D, out) := by
  unfold mbStep mbN
  dsimp only
  rw [dAt_get hfr, dAt_get hto, if_neg h0]
end
/-- A row that reads a number of each delta. -/
def ViaD (f : Nat → Int → Int) (D S : List Int) : Prop := S.length = D.length ∧ ∀ (i : Nat) (d : Int), D[i]? = some d → S[i]? = some (f i d)
theorem ViaD.next {f : Nat → Int → Int} {D S : List Int} {to fr : Nat} {a b m x y : Int} (h : ViaD f D S) (hfr : D[fr]? = some a) (hto : D[to]? = some b) (hne : fr ≠ to) (hx : x = f fr (a - m)) (hy : y = f to (b + m)) : ViaD f ((D.set fr (a - m)).set to (b + m)) ((S.set fr x).set to y) := by
  have l1 := lt_of_get hfr
  have l2 := lt_of_get hto
  refine ⟨by simp [h.1], fun i d hd => ?_⟩
  rw [mb_get hfr hto hne] at hd
  rw [List.getElem?_set, List.getElem?_set, List.length_set, h.1]
  split at hd
  · rename_i e; subst e; injection hd with hd; subst hd; simp [l2, hy]
  · rename_i e
    rw [if_neg (fun e' => e e'.symm)]
    split at hd
    · rename_i e2; subst e2; injection hd with hd; subst hd; simp [l1, hx]
    · rename_i e2
      rw [if_neg (fun e' => e2 e'.symm)]
      exact h.2 i d hd
/-- One place alone is set, where the other place's number stays. -/
theorem ViaD.next1 {f : Nat → Int → Int} {D S : List Int} {to fr : Nat} {a b m y : Int} (h : ViaD f D S) (hfr : D[fr]? = some a) (hto : D[to]? = some b) (hne : fr ≠ to) (hx : f fr a = f fr (a - m)) (hy : y = f to (b + m)) : ViaD f ((D.set fr (a - m)).set to (b + m)) (S.set to y) := by
  have h1 := h.next (x := f fr (a - m)) (y := y) hfr hto hne rfl hy
  have h2 : S.set fr (f fr (a - m)) = S := by
    apply List.ext_getElem?
    intro i
    rw [List.getElem?_set]
    by_cases e : fr = i
    · subst e
      rw [if_pos rfl, if_pos (by rw [h.1]; exact lt_of_get hfr), ← hx, h.2 fr a hfr]
    · rw [if_neg e]
  rw [h2] at h1; exact h1
theorem ViaD.next2 {f : Nat → Int → Int} {D S : List Int} {to fr : Nat} {a b m x : Int} (h : ViaD f D S) (hfr : D[fr]? = some a) (hto : D[to]? = some b) (hne : fr ≠ to) (hx : x = f fr (a - m)) (hy : f to b = f to (b + m)) : ViaD f ((D.set fr (a - m)).set to (b + m)) (S.set fr x) := by
  have h1 := h.next (x := x) (y := f to (b + m)) hfr hto hne hx rfl
  have h2 : (S.set fr x).set to (f to (b + m)) = S.set fr x := by
    apply List.ext_getElem?
    intro i
    rw [List.getElem?_set]
    by_cases e : to = i
    · subst e
      rw [if_pos rfl, if_pos (by rw [List.length_set, h.1]; exact lt_of_get hto), ← hy, List.getElem?_set_ne (by omega), h.2 to b hto]
    · rw [if_neg e]
  rw [h2] at h1; exact h1
def shF (_ : Nat) (d : Int) : Int := max 0 (-d)
def moF (_ : Nat) (d : Int) : Int := max 0 d
def ownF (wa : List Int) (i : Nat) (d : Int) : Int := dAt wa i + d
theorem via_sh {st wa : List Int} (h : wa.length = st.length) : ViaD shF (deltas st wa) (shGo st wa) := by
  refine ⟨by rw [shGo_len h, deltas_len h], fun i d hd => ?_⟩
  obtain ⟨s, w, hs, hw, rfl⟩ := deltas_inv hd
  rw [shGo_get hs hw]; unfold shF; congr 1; omega
theorem via_mo {st wa : List Int} (h : wa.length = st.length) : ViaD moF (deltas st wa) (moGo st wa) := by
  refine ⟨by rw [moGo_len h, deltas_len h], fun i d hd => ?_⟩
  obtain ⟨s, w, hs, hw, rfl⟩ := deltas_inv hd
  rw [moGo_get hs hw]; rfl
theorem via_own {st wa : List Int} (h : wa.length = st.length) : ViaD (ownF wa) (deltas st wa) st := by
  refine ⟨by rw [deltas_len h], fun i d hd => ?_⟩
  obtain ⟨s, w, hs, hw, rfl⟩ := deltas_inv hd
  rw [hs]; unfold ownF; rw [dAt_get hw]; congr 1; omega
end Go.Proofs.Ytklfjekpeoigoaa
namespace Go.Proofs.Ytklfjekpeoigoaa
open Go.RowKit

theorem vMoves_false {n : Int} {ms : List T3} (h : ms.all (okMove n) = false) : vMoves n ms = false := by simp [vMoves, h]
theorem sendFrom_cons {zs zs' : List Int} {ms : List T3} {k : Nat} {m : T3} (hm : ms[k]? = some m) (h : send1 zs m = some zs') : sendFrom zs (ms.drop k) k = sendFrom zs' (ms.drop (k + 1)) (k + 1) := by
  rw [drop_cons hm, sendFrom, h]
theorem sendFrom_stop {zs : List Int} {ms : List T3} {k : Nat} {m : T3} (hm : ms[k]? = some m) (h : send1 zs m = none) : sendFrom zs (ms.drop k) k = (zs, (k : Int)) := by
  rw [drop_cons hm, sendFrom, h]

set_option maxRecDepth 100000 in
set_option maxHeartbeats 8000000 in
theorem S_SendAll (zs : List Int) (v : Value) (ms : List T3) (u : Value) (w : World) (hs : zs.length ≤ 1048576) (_ : ∀ z ∈ zs, -9223372036854775808 ≤ z ∧ z ≤ 9223372036854775807) (h : R_Int64S w w.heap.size v zs) (hs2 : ms.length ≤ 1048576) (_ : ∀ z ∈ ms, z.Fits) (hq : R_MoveS w w.heap.size u ms) :
    Calls Try.prog 32 #[v, u] w fun e w' => ∃ r, e = .returned (.tuple #[r, .int .i64 (sendAll zs ms).2.1, .int .i64 (sendAll zs ms).2.2]) ∧ O_Int64S w' w.heap.size w'.heap.size r (sendAll zs ms).1 ∧ Below w.heap.size w w' := by
  obtain ⟨A, cA, rfl, h1⟩ := h
  obtain ⟨A2, c2, rfl, h2⟩ := hq
  have HX := hide h1; clear h1
  have HM := hide h2; clear h2
  have HV := hide (l07Ok_any zs A cA w hs HX.out)
  cases hv : vStock zs
  · rw [hv] at HV
    have HR := hide (show sendAll zs ms = ([], 0, 1) by simp [sendAll, hv])
    clear hv
    go_enter Try.func32, Try.ntmps32
    go_wp2_with (go_at_call 143; refine (HV.out).mono ?_; rintro e w' ⟨rfl, rfl⟩)
    go_ret3
    exact ⟨_, by rw [HR.out]; rfl, by rw [HR.out]; exact O_Int64S.nil _ _ _ _ _, Below.refl _ _⟩
  rw [hv] at HV
  obtain ⟨hst, hl2, hl10⟩ := stOk_of hv
  have HST := hide hst
  have HR0 := hide (show sendAll zs ms = (if vMoves zs.length ms then ((sendFrom zs ms 0).1, (sendFrom zs ms 0).2, 0) else ([], 0, 2)) by simp [sendAll, hv])
  clear hv hst
  go_enter Try.func32, Try.ntmps32
  go_wp2_with (go_at_call 143; refine (HV.out).mono ?_; rintro e w' ⟨rfl, rfl⟩)
  go_loopg [7] ms.length (fun g i wr => ∃ k : Nat, k ≤ ms.length ∧ Hid (g = ms.length - k) ∧ i = .int .i64 k ∧ Hid (ms.all (okMove zs.length) = (ms.drop k).all (okMove zs.length)) ∧ Below w.heap.size w wr)
  case atStart => exact ⟨0, by omega, by simp [Hid], rfl, by simp [Hid], Below.refl _ _⟩
  case round =>
    obtain ⟨k, hk, hg, rfl, HS, hb⟩ := hrel
    by_cases hlt : k < ms.length
    · obtain ⟨b1, o1, m1, rfl, _, hm1, hca, hcb, hcc⟩ := (HM.out.below hb).at_ hlt
      have HS' := HS.out; rw [all_drop _ _ _ _ hm1] at HS'
      have HQ := hide HS'; clear HS' hm1
      have HC := hide (l07Move_any (zs.length : Int) m1 b1 (o1 + k * 3) wr (by omega) (by omega) hca hcb hcc)
      cases ho : okMove zs.length m1
      · rw [ho] at HC HQ
        have HR := hide (show sendAll zs ms = ([], 0, 2) by rw [HR0.out, vMoves_false (by rw [HQ.out]; rfl)]; rfl)
        clear ho
        go_wp2_with (go_at_call 144; refine (HC.out).mono ?_; rintro e w1 ⟨rfl, hb1⟩)
        go_ret3
        exact ⟨_, by rw [HR.out]; rfl, by rw [HR.out]; exact O_Int64S.nil _ _ _ _ _, hb.trans (hb1.mono hb.size)⟩
      · rw [ho] at HC HQ
        clear ho
        go_wp2_with (go_at_call 144; refine (HC.out).mono ?_; rintro e w1 ⟨rfl, hb1⟩)
        go_roundg (ms.length - (k + 1))
        case measure => have := hg.out; omega
        case rel => exact ⟨k + 1, by omega, rfl, by go_num, hide (by have := HQ.out; simpa using this), hb.trans (hb1.mono hb.size)⟩
    · have HA : Hid (ms.all (okMove zs.length) = true) := by
        have := HS.out; rw [List.drop_eq_nil_of_le (by omega)] at this; exact this
      clear HS
      by_cases hl : ms.length ≤ 40
      case neg =>
        have HR := hide (show sendAll zs ms = ([], 0, 2) by rw [HR0.out, show vMoves zs.length ms = false by simp [vMoves]; omega]; rfl)
        go_wp2_with fail
        go_ret3
        exact ⟨_, by rw [HR.out]; rfl, by rw [HR.out]; exact O_Int64S.nil _ _ _ _ _, hb⟩
      have HR1 := hide (show sendAll zs ms = ((sendFrom zs ms 0).1, (sendFrom zs ms 0).2, 0) by rw [HR0.out, show vMoves zs.length ms = true by simp [vMoves, HA.out, hl]]; rfl)
      have HC := hide (l00Own_any zs A cA wr hs ((HX.out.below hb).more hb.size))
      go_wp2_with (go_at_call 137; refine (HC.out).mono ?_; rintro e w1 ⟨A3, c3, rfl, ho3, hb1⟩)
      have hb2 := hb.trans (hb1.mono hb.size)
      have ho3' := own_base ho3 hb.size
      have HO3 := hide ho3'
      clear ho3 ho3' HC
      go_loopg [9] ms.length (fun g i wq => ∃ (k : Nat) (xs : List Int), k ≤ ms.length ∧ Hid (g = ms.length - k) ∧ i = .int .i64 k ∧ xs.length = zs.length ∧ Hid (StOk xs) ∧ Hid (sendFrom zs ms 0 = sendFrom xs (ms.drop k) k) ∧ Hid (wq.ownsRow w.heap.size 2 1 (.slice A3 zs.length c3) zs.length (xs.map (Value.int .i64))) ∧ Below w.heap.size w wq)
      case atStart => exact ⟨0, zs, by omega, by simp [Hid], rfl, rfl, HST, by simp [Hid], HO3, hb2⟩
      case round =>
        obtain ⟨k2, xs, hk2, hg2, rfl, hxl, HSX, HSE, HOX, hbq⟩ := hrel
        have HXL := hide hxl; clear hxl
        by_cases hlt2 : k2 < ms.length
        · obtain ⟨b1, o1, m1, rfl, hb1lt, hm1, hca, hcb, hcc⟩ := (HM.out.below hbq).at_ hlt2
          have hok : okMove xs.length m1 = true := by
            rw [HXL.out]; exact List.all_eq_true.1 HA.out m1 (List.mem_of_getElem? hm1)
          obtain ⟨i, j, za, zb, hmm, hza, hzb, hij, hc1, hc2⟩ := move_at hok
          have hS := send1_at (c := m1.c) hza hzb
          rw [← hmm] at hS
          obtain ⟨ma, mb, mc⟩ := m1
          simp only [T3.mk.injEq, and_true] at hmm
          obtain ⟨rfl, rfl⟩ := hmm
          dsimp only at *
          obtain ⟨hza1, hza2⟩ := stOk_bd HSX.out hza
          obtain ⟨hzb1, hzb2⟩ := stOk_bd HSX.out hzb
          have HOX' : Hid (wr.ownsRow w.heap.size 2 1 (.slice A3 xs.length c3) xs.length (xs.map (Value.int .i64))) := by rw [HXL.out]; exact HOX.out
          by_cases hlt : za < mc
          · rw [if_pos hlt] at hS
            have HE := hide (HSE.out.trans (sendFrom_stop hm1 hS))
            have HC := hide (l07Send_f w.heap.size xs A3 c3 i j mc za b1 (o1 + k2 * 3) wr hza (by rw [HXL.out]; exact hs) hlt HOX'.out hca hcb hcc)
            rw [HXL.out] at HC
            clear hS hza hzb hij hm1 hok hlt
            go_wp2_with (go_at_call 139; refine (HC.out).mono ?_; rintro e w3 ⟨rfl, hb3⟩)
            go_ret3
            refine ⟨_, by rw [HR1.out, HE.out]; rfl, ?_, hbq.trans (hb3.mono hbq.size)⟩
            rw [HR1.out, HE.out]
            exact O_int_of (own_below HOX.out hb3 (Nat.le_refl _)) hs
          · rw [if_neg hlt] at hS
            have HE := hide (HSE.out.trans (sendFrom_cons hm1 hS))
            have hnp : ∀ g, A3 = some ⟨g, 0, none⟩ → b1 ≠ g := fun g hg => by
              have := HOX.out.lt g (by rw [hg]; rfl); omega
            have HC := hide (l07Send_t w.heap.size xs A3 c3 i j mc za zb b1 (o1 + k2 * 3) wr hza hzb hij (by rw [HXL.out]; exact hs) (by omega) hc1 (by omega) hzb1 (by omega) HOX'.out hnp hca hcb hcc)
            have HSN := hide (stOk_send HSX.out hza hzb hij hc1 (by omega))
            have HLT := hide HOX.out.lt
            rw [HXL.out] at HC
            clear hS hza hzb hij hm1 hok hnp HOX'
            go_wp2_with (go_at_call 139; refine (HC.out).mono ?_; rintro e w3 ⟨rfl, ho5, hg5⟩)
            have HO5 := hide ho5; clear ho5
            have hb5 : Below w.heap.size w w3 := hbq.grown hg5 hbq.size (fun g hg => (HLT.out g hg).1)
            go_roundg (ms.length - (k2 + 1))
            case measure => have := hg2.out; omega
            case rel => exact ⟨k2 + 1, _, by omega, rfl, by go_num, by rw [List.length_set, List.length_set]; exact HXL.out, HSN, HE, HO5, hb5⟩
        · have HE : Hid (sendFrom zs ms 0 = (xs, -1)) := by
            have := HSE.out; rw [List.drop_eq_nil_of_le (by omega)] at this; exact this
          go_wp2_with fail
          go_ret3
          refine ⟨_, by rw [HR1.out, HE.out]; rfl, ?_, hbq⟩
          rw [HR1.out, HE.out]
          exact O_int_of HOX.out hs
set_option maxRecDepth 100000 in
set_option maxHeartbeats 8000000 in
theorem P_SendAll (zs : List Int) (v : Value) (ms : List T3) (u : Value) (w : World) (hs : zs.length ≤ 1048576) (_ : ∀ z ∈ zs, -9223372036854775808 ≤ z ∧ z ≤ 9223372036854775807) (h : R_Int64S w w.heap.size v zs) (hs2 : ms.length ≤ 1048576) (_ : ∀ z ∈ ms, z.Fits) (hq : R_MoveS w w.heap.size u ms) :
    Calls Try.prog 31 #[v, u] w fun e w' => ∃ r, e = .returned (.tuple #[r, .int .i64 (sendAll zs ms).2.1, .int .i64 (sendAll zs ms).2.2]) ∧ O_Int64S w' w.heap.size w'.heap.size r (sendAll zs ms).1 ∧ Below w.heap.size w w' := by
  obtain ⟨A, cA, rfl, h1⟩ := h
  obtain ⟨A2, c2, rfl, h2⟩ := hq
  have HX := hide h1; clear h1
  have HM := hide h2; clear h2
  have HV := hide (implValidStock_any zs A cA w hs HX.out)
  cases hv : vStock zs
  · rw [hv] at HV
    have HR := hide (show sendAll zs ms = ([], 0, 1) by simp [sendAll, hv])
    clear hv
    go_enter Try.func31, Try.ntmps31
    go_wp2_with (go_at_call 37; refine (HV.out).mono ?_; rintro e w1 ⟨rfl, hb1⟩)
    go_ret3
    exact ⟨_, by rw [HR.out]; rfl, by rw [HR.out]; exact O_Int64S.nil _ _ _ _ _, hb1⟩
  rw [hv] at HV
  obtain ⟨hst, hl2, hl10⟩ := stOk_of hv
  have HST := hide hst
  have HR0 := hide (show sendAll zs ms = (if vMoves zs.length ms then ((sendFrom zs ms 0).1, (sendFrom zs ms 0).2, 0) else ([], 0, 2)) by simp [sendAll, hv])
  have HMV := hide fun W (hW : Below w.heap.size w W) => areMoves_any (zs.length : Int) ms A2 c2 W (by omega) (by omega) hs2 ((HM.out.below hW).more hW.size)
  clear hv hst
  cases hm : vMoves zs.length ms
  · rw [hm] at HMV
    have HR := hide (show sendAll zs ms = ([], 0, 2) by rw [HR0.out, hm]; rfl)
    clear hm
    go_enter Try.func31, Try.ntmps31
    go_wp2_with (first | (go_at_call 37; refine (HV.out).mono ?_; rintro e w1 ⟨rfl, hb1⟩) | (go_at_call 141; refine (HMV.out _ hb1).mono ?_; rintro e w2 ⟨rfl, hb2⟩))
    go_ret3
    exact ⟨_, by rw [HR.out]; rfl, by rw [HR.out]; exact O_Int64S.nil _ _ _ _ _, hb1.trans (hb2.mono hb1.size)⟩
  rw [hm] at HMV
  have HA : Hid (ms.all (okMove zs.length) = true) := by
    unfold vMoves at hm; rw [Bool.and_eq_true] at hm; exact hm.1
  have hl40 : ms.length ≤ 40 := by
    unfold vMoves at hm; rw [Bool.and_eq_true, decide_eq_true_eq] at hm; exact hm.2
  have HR1 := hide (show sendAll zs ms = ((sendFrom zs ms 0).1, (sendFrom zs ms 0).2, 0) by rw [HR0.out, hm]; rfl)
  clear hm
  have HCL := hide fun W (hW : Below w.heap.size w W) => cloneI_any zs A cA W hs ((HX.out.below hW).more hW.size)
  go_enter Try.func31, Try.ntmps31
  go_wp2_with (first | (go_at_call 37; refine (HV.out).mono ?_; rintro e w1 ⟨rfl, hb1⟩) | (go_at_call 141; refine (HMV.out _ hb1).mono ?_; rintro e w2 ⟨rfl, hb2'⟩; have hb2 := hb1.trans (hb2'.mono hb1.size)) | (go_at_call 142; refine (HCL.out _ hb2).mono ?_; rintro e w3 ⟨A3, c3, rfl, ho3, hb3'⟩))
  have hb3 := hb2.trans (hb3'.mono hb2.size)
  obtain ⟨g, rfl, hgb', hgs⟩ := own_pos' ho3 (by omega)
  have hgb : w.heap.size ≤ g := Nat.le_trans hb2.size hgb'
  have ho3' := own_base ho3 hb2.size
  have HO3 := hide ho3'
  have hgs3 : g < w3.heap.size := hgs
  clear ho3 ho3'
  go_loopg [24] ms.length (fun gk i wq => ∃ (k : Nat) (xs : List Int), k ≤ ms.length ∧ Hid (gk = ms.length - k) ∧ i = .int .i64 k ∧ xs.length = zs.length ∧ Hid (StOk xs) ∧ Hid (sendFrom zs ms 0 = sendFrom xs (ms.drop k) k) ∧ Hid (wq.ownsRow w.heap.size 2 1 (.slice (some ⟨g, 0, none⟩) zs.length c3) zs.length (xs.map (Value.int .i64))) ∧ Below w.heap.size w wq ∧ g < wq.heap.size)
  case atStart => exact ⟨0, zs, by omega, by simp [Hid], rfl, rfl, HST, by simp [Hid], HO3, hb3, hgs⟩
  case round =>
    obtain ⟨k2, xs, hk2, hg2, rfl, hxl, HSX, HSE, HOX, hbq, hgq⟩ := hrel
    have HXL := hide hxl; clear hxl
    by_cases hlt2 : k2 < ms.length
    · obtain ⟨b1, o1, m1, rfl, hb1lt, hm1, hca, hcb, hcc⟩ := (HM.out.below hbq).at_ hlt2
      have hok : okMove xs.length m1 = true := by
        rw [HXL.out]; exact List.all_eq_true.1 HA.out m1 (List.mem_of_getElem? hm1)
      obtain ⟨i, j, za, zb, hmm, hza, hzb, hij, hc1, hc2⟩ := move_at hok
      have hS := send1_at (c := m1.c) hza hzb
      rw [← hmm] at hS
      obtain ⟨ma, mb, mc⟩ := m1
      simp only [T3.mk.injEq, and_true] at hmm
      obtain ⟨rfl, rfl⟩ := hmm
      dsimp only at *
      obtain ⟨hza1, hza2⟩ := stOk_bd HSX.out hza
      obtain ⟨hzb1, hzb2⟩ := stOk_bd HSX.out hzb
      have hi : i < zs.length := by rw [← HXL.out]; exact lt_of_get hza
      have hj : j < zs.length := by rw [← HXL.out]; exact lt_of_get hzb
      have hbsz := hbq.size
      have hM : Hid (ms[k2]? = some ⟨i, j, mc⟩) := hm1
      have HZA := hide hza; have HZB := hide hzb; have HIJ := hide hij
      have HOM : Hid (((wr.alloc (.cells #[.int .i64 i, .int .i64 j, .int .i64 mc] 143))).ownsRow w.heap.size 2 1 (.slice (some ⟨g, 0, none⟩) zs.length c3) zs.length (xs.map (Value.int .i64))) := HOX.out.alloc _
      have hxa := own_int_at HOM.out hza
      have hna : ((wr.alloc (.cells #[.int .i64 i, .int .i64 j, .int .i64 mc] 143))).cell? ⟨wr.heap.size, 0, none⟩ = some (.int .i64 i) := by simp [go_sem]
      have hnb : ((wr.alloc (.cells #[.int .i64 i, .int .i64 j, .int .i64 mc] 143))).cell? ⟨wr.heap.size, 1, none⟩ = some (.int .i64 j) := by simp [go_sem]
      have hnc : ((wr.alloc (.cells #[.int .i64 i, .int .i64 j, .int .i64 mc] 143))).cell? ⟨wr.heap.size, 2, none⟩ = some (.int .i64 mc) := by simp [go_sem]
      have hb6 : Below w.heap.size w (wr.alloc (.cells #[.int .i64 i, .int .i64 j, .int .i64 mc] 143)) := hbq.alloc hbq.size _
      clear hza hzb hij hm1 hok
      by_cases hlt : za < mc
      · rw [if_pos hlt] at hS
        have HE := hide (HSE.out.trans (sendFrom_stop hM.out hS))
        clear hS
        go_wp2_with fail
        go_quiet (fail)
        go_wp2_with fail
        go_ret3
        refine ⟨_, by rw [HR1.out, HE.out]; rfl, ?_, bdn hb6 _⟩
        rw [HR1.out, HE.out]
        have h6 : ((wr.alloc (.cells #[.int .i64 i, .int .i64 j, .int .i64 mc] 143)).drewN nq).ownsRow w.heap.size 2 1 (.slice (some ⟨g, 0, none⟩) zs.length c3) zs.length (xs.map (Value.int .i64)) := HOM.out
        exact O_int_of h6 hs
      · rw [if_neg hlt] at hS
        have HE := hide (HSE.out.trans (sendFrom_cons hM.out hS))
        have HSN := hide (stOk_send HSX.out HZA.out HZB.out HIJ.out hc1 (by omega))
        clear hS
        go_wp2_with fail
        go_quiet (fail)
        go_wp2_with fail
        have hb7 : Below w.heap.size w ((wr.alloc (.cells #[.int .i64 i, .int .i64 j, .int .i64 mc] 143)).drewN nq) := bdn hb6 _
        have HOX4 : Hid (((wr.alloc (.cells #[.int .i64 i, .int .i64 j, .int .i64 mc] 143)).drewN nq).ownsRow w.heap.size 2 1 (.slice (some ⟨g, 0, none⟩) zs.length c3) zs.length (xs.map (Value.int .i64))) := HOM.out
        have e0 : ((wr.alloc (.cells #[.int .i64 i, .int .i64 j, .int .i64 mc] 143)).drewN nq).cell? ⟨wr.heap.size, 0, none⟩ = _ := hna
        have e1 : ((wr.alloc (.cells #[.int .i64 i, .int .i64 j, .int .i64 mc] 143)).drewN nq).cell? ⟨wr.heap.size, 1, none⟩ = _ := hnb
        have e2 : ((wr.alloc (.cells #[.int .i64 i, .int .i64 j, .int .i64 mc] 143)).drewN nq).cell? ⟨wr.heap.size, 2, none⟩ = _ := hnc
        have hszq : wr.heap.size + 1 ≤ ((wr.alloc (.cells #[.int .i64 i, .int .i64 j, .int .i64 mc] 143)).drewN nq).heap.size := by simp
        clear hna hnb hnc hxa HOM hb6 hca hcb hcc
        generalize (wr.alloc (.cells #[.int .i64 i, .int .i64 j, .int .i64 mc] 143)).drewN nq = w4 at *
        have hxa := own_int_at HOX4.out HZA.out
        have hxf := HOX4.out.frozenAt i
        go_still_tail 9, (by kernel_rfl)
        change wpList _ _ _ _ _ w4.drew
        have hb8 : Below w.heap.size w w4.drew := hb7.drew
        have HO4 : Hid (w4.drew.ownsRow w.heap.size 2 1 (.slice (some ⟨g, 0, none⟩) zs.length c3) zs.length (xs.map (Value.int .i64))) := HOX4.out
        have f0 : w4.drew.cell? ⟨wr.heap.size, 0, none⟩ = _ := e0
        have f1 : w4.drew.cell? ⟨wr.heap.size, 1, none⟩ = _ := e1
        have f2 : w4.drew.cell? ⟨wr.heap.size, 2, none⟩ = _ := e2
        clear e0 e1 e2 hxa hxf
        generalize w4.drew = wd at *
        have hxa := own_int_at HO4.out HZA.out
        have hxf := HO4.out.frozenAt i
        have hs1 := own_int_set HO4.out i (za - mc)
        have HO5 := hide hs1.1
        have hb9 : Below w.heap.size w (wd.setCell ⟨g, i, none⟩ (.int .i64 (za - mc))) := hb8.setCell (by dsimp only; omega) _
        have hcb := own_int_at HO5.out (show (xs.set i (za - mc))[j]? = some zb by rw [List.getElem?_set_ne HIJ.out]; exact HZB.out)
        have hfb := HO5.out.frozenAt j
        have d0 := (World.cell?_setCell_other wd ⟨g, i, none⟩ ⟨wr.heap.size, 0, none⟩ (.int .i64 (za - mc)) (fun e => by have := (Addr.mk.inj e).1; omega)).trans f0
        have d1 := (World.cell?_setCell_other wd ⟨g, i, none⟩ ⟨wr.heap.size, 1, none⟩ (.int .i64 (za - mc)) (fun e => by have := (Addr.mk.inj e).1; omega)).trans f1
        have d2 := (World.cell?_setCell_other wd ⟨g, i, none⟩ ⟨wr.heap.size, 2, none⟩ (.int .i64 (za - mc)) (fun e => by have := (Addr.mk.inj e).1; omega)).trans f2
        clear hs1
        go_wp2_with fail
        generalize wd.setCell ⟨g, i, none⟩ (.int .i64 (za - mc)) = we at *
        go_still_tail 9, (by kernel_rfl)
        change wpList _ _ _ _ _ we.drew
        have hb10 : Below w.heap.size w we.drew := hb9.drew
        have HO6 : Hid (we.drew.ownsRow w.heap.size 2 1 (.slice (some ⟨g, 0, none⟩) zs.length c3) zs.length ((xs.set i (za - mc)).map (Value.int .i64))) := HO5.out
        clear hcb hfb f0 f1 f2 hxa hxf d0 d1 d2
        generalize we.drew = wf at *
        have hcb := own_int_at HO6.out (show (xs.set i (za - mc))[j]? = some zb by rw [List.getElem?_set_ne HIJ.out]; exact HZB.out)
        have hfb := HO6.out.frozenAt j
        have hs2 := own_int_set HO6.out j (zb + mc)
        have HS2 := hide hs2
        clear hs2
        go_wp2_with fail
        go_roundg (ms.length - (k2 + 1))
        case measure => have := hg2.out; omega
        case rel => exact ⟨k2 + 1, _, by omega, rfl, by go_num, by rw [List.length_set, List.length_set]; exact HXL.out, HSN, HE, hide HS2.out.1, hb10.setCell (by dsimp only; omega) _, (HS2.out.1.lt g rfl).2⟩
    · have HE : Hid (sendFrom zs ms 0 = (xs, -1)) := by
        have := HSE.out; rw [List.drop_eq_nil_of_le (by omega)] at this; exact this
      go_wp2_with fail
      go_ret3
      refine ⟨_, by rw [HR1.out, HE.out]; rfl, ?_, hbq⟩
      rw [HR1.out, HE.out]
      exact O_int_of HOX.out hs
end Go.Proofs.Ytklfjekpeoigoaa
