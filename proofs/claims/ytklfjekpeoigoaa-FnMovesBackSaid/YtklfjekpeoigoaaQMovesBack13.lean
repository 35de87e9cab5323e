/-
  What is wanted at stations: the codes; what each station has fewer or more than it wants.
-/
import Derived.Test.YtklfjekpeoigoaaQMovesBack4
namespace Go.Proofs.Ytklfjekpeoigoaa
open Go.RowKit

def codeWa (st wa : List Int) : Int := if vStock st = true then (if wa.length = st.length ∧ wa.all (inB 0 200) = true then 0 else 2) else 1
theorem codeWa_ok {st wa : List Int} (h : codeWa st wa = 0) : vStock st = true ∧ wa.length = st.length ∧ ∀ z ∈ wa, 0 ≤ z ∧ z ≤ 200 := by
  unfold codeWa at h
  split at h
  · rename_i hv
    split at h
    · rename_i hw
      exact ⟨hv, hw.1, fun z hz => inB_iff.1 (List.all_eq_true.1 hw.2 z hz)⟩
    · cases h
  · cases h
theorem codeWa_cases (st wa : List Int) : codeWa st wa = 0 ∨ codeWa st wa = 1 ∨ codeWa st wa = 2 := by unfold codeWa; split <;> (try split) <;> simp
def shGo : List Int → List Int → List Int
  | s :: st, w :: wa => max 0 (w - s) :: shGo st wa
  | _, _ => []
def moGo : List Int → List Int → List Int
  | s :: st, w :: wa => max 0 (s - w) :: moGo st wa
  | _, _ => []
theorem shGo_len : ∀ {st wa : List Int}, wa.length = st.length → (shGo st wa).length = st.length := by
  intro st
  induction st with
  | nil => intro wa _; cases wa <;> rfl
  | cons s st ih => intro wa h; cases wa with
    | nil => simp at h
    | cons w wa => simp only [shGo, List.length_cons]; rw [ih (by simpa using h)]
theorem moGo_len : ∀ {st wa : List Int}, wa.length = st.length → (moGo st wa).length = st.length := by
  intro st
  induction st with
  | nil => intro wa _; cases wa <;> rfl
  | cons s st ih => intro wa h; cases wa with
    | nil => simp at h
    | cons w wa => simp only [moGo, List.length_cons]; rw [ih (by simpa using h)]
theorem shGo_get : ∀ {st wa : List Int} {i : Nat} {s w : Int}, st[i]? = some s → wa[i]? = some w → (shGo st wa)[i]? = some (max 0 (w - s)) := by
  intro st
  induction st with
  | nil => intro wa i s w h; simp at h
  | cons a st ih =>
    intro wa i s w h1 h2
    cases wa with
    | nil => simp at h2
    | cons b wa =>
      cases i with
      | zero => simp at h1 h2; subst h1 h2; rfl
      | succ i => simp only [shGo, List.getElem?_cons_succ] at *; exact ih h1 h2
theorem moGo_get : ∀ {st wa : List Int} {i : Nat} {s w : Int}, st[i]? = some s → wa[i]? = some w → (moGo st wa)[i]? = some (max 0 (s - w)) := by
  intro st
  induction st with
  | nil => intro wa i s w h; simp at h
  | cons a st ih =>
    intro wa i s w h1 h2
    cases wa with
    | nil => simp at h2
    | cons b wa =>
      cases i with
      | zero => simp at h1 h2; subst h1 h2; rfl
      | succ i => simp only [moGo, List.getElem?_cons_succ] at *; exact ih h1 h2
def shortStations (st wa : List Int) : List Int × Int := if codeWa st wa = 0 then (shGo st wa, 0) else ([], codeWa st wa)
theorem take_snocG {α : Type} {xs : List α} {k : Nat} {x : α} (h : xs[k]? = some x) : xs.take (k + 1) = xs.take k ++ [x] := by
  obtain ⟨hl, he⟩ := List.getElem?_eq_some_iff.1 h
  rw [List.take_succ_eq_append_getElem hl, he]
theorem stock_bd {st : List Int} (h : vStock st = true) : ∀ z ∈ st, 0 ≤ z ∧ z ≤ 200 := fun z hz => by
  obtain ⟨i, hi⟩ := List.getElem?_of_mem hz
  exact stOk_bd (stOk_of h).1 hi
set_option maxRecDepth 100000 in
set_option maxHeartbeats 4000000 in
theorem l07Code_any (st wa : List Int) (A : Option Addr) (c : Nat) (A2 : Option Addr) (c2 : Nat) (w : World) (hx : st.length ≤ 1048576) (hy : wa.length ≤ 1048576) (h1 : RdI w w.heap.size A st) (h2 : RdI w w.heap.size A2 wa) :
    Calls Try.prog 119 #[.slice A st.length c, .slice A2 wa.length c2] w fun e w' => e = .returned (.int .i64 (codeWa st wa)) ∧ w = w' := by
  have HC := hide (l07Ok_any st A c w hx h1)
  have HX := hide h2
  clear h1 h2
  cases hv : vStock st
  · have HR := hide (show codeWa st wa = 1 by simp [codeWa, hv])
    rw [hv] at HC
    clear hv
    go_enter Try.func119, Try.ntmps119
    go_wp2_with (go_at_call 143; refine (HC.out).mono ?_; rintro e w' ⟨rfl, rfl⟩)
    go_ret
    exact ⟨ret_i HR.out.symm, rfl⟩
  have HR0 := hide (show codeWa st wa = if wa.length = st.length ∧ wa.all (inB 0 200) = true then 0 else 2 by simp [codeWa, hv])
  rw [hv] at HC
  clear hv
  go_enter Try.func119, Try.ntmps119
  go_wp2_with (go_at_call 143; refine (HC.out).mono ?_; rintro e w' ⟨rfl, rfl⟩)
  go_loopg [5] wa.length (fun g i wr => ∃ k : Nat, k ≤ wa.length ∧ Hid (g = wa.length - k) ∧ i = .int .i64 k ∧ Hid (wa.all (inB 0 200) = (wa.drop k).all (inB 0 200)) ∧ w = wr)
  case atStart => exact ⟨0, by omega, by simp [Hid], rfl, by simp [Hid], rfl⟩
  case round =>
    obtain ⟨k, hk, hg, rfl, HS, rfl⟩ := hrel
    by_cases hlt : k < wa.length
    · obtain ⟨b1, o1, z1, rfl, _, hz1, hc1⟩ := HX.out.at_ hlt
      have HS' := HS.out; rw [all_drop _ _ _ _ hz1] at HS'
      have HQ := hide HS'; clear HS' hz1
      by_cases hz : 0 ≤ z1 ∧ z1 ≤ 200
      · have HB := hide (inB_t hz)
        obtain ⟨hz0, hz9⟩ := hz
        go_wp2_with (go_at_call 148; first | (refine (l00In_t _ _ _ _ (by omega)).mono ?_; rintro e w' ⟨rfl, rfl⟩) | (refine (l00In_f _ _ _ _ (by omega)).mono ?_; rintro e w' ⟨rfl, rfl⟩))
        go_roundg (wa.length - (k + 1))
        case measure => have := hg.out; omega
        case rel => exact ⟨k + 1, by omega, rfl, by go_num, hide (by have := HQ.out; rw [HB.out] at this; simpa using this), rfl⟩
      · have hz' : z1 < 0 ∨ 200 < z1 := by omega
        have HB := hide (inB_f hz')
        have HR := hide (show codeWa st wa = 2 by rw [HR0.out, if_neg (fun h => by rw [HQ.out, HB.out] at h; simp at h)])
        clear hz
        go_wp2_with (go_at_call 148; first | (refine (l00In_t _ _ _ _ (by omega)).mono ?_; rintro e w' ⟨rfl, rfl⟩) | (refine (l00In_f _ _ _ _ (by omega)).mono ?_; rintro e w' ⟨rfl, rfl⟩))
        go_ret
        exact ⟨ret_i HR.out.symm, rfl⟩
    · have HA : Hid (wa.all (inB 0 200) = true) := by
        have := HS.out; rw [List.drop_eq_nil_of_le (by omega)] at this; exact this
      by_cases hl : wa.length = st.length
      · have HR := hide (show codeWa st wa = 0 by rw [HR0.out, if_pos ⟨hl, HA.out⟩])
        have hB : ((wa.length : Int) != (st.length : Int)) = false := by simp [hl]
        have hlh := hide hl
        clear hl HR0
        go_wp2_with fail
        go_ret
        exact ⟨ret_i HR.out.symm, rfl⟩
      · have HR := hide (show codeWa st wa = 2 by rw [HR0.out, if_neg (fun h => hl h.1)])
        have hB : ((wa.length : Int) != (st.length : Int)) = true := by simp; omega
        clear hl HR0
        go_wp2_with fail
        go_ret
        exact ⟨ret_i HR.out.symm, rfl⟩
set_option maxRecDepth 100000 in
set_option maxHeartbeats 4000000 in
theorem wantsCode_any (st wa : List Int) (A : Option Addr) (c : Nat) (A2 : Option Addr) (c2 : Nat) (w : World) (hx : st.length ≤ 1048576) (hy : wa.length ≤ 1048576) (h1 : RdI w w.heap.size A st) (h2 : RdI w w.heap.size A2 wa) :
    Calls Try.prog 124 #[.slice A st.length c, .slice A2 wa.length c2] w fun e w' => e = .returned (.int .i64 (codeWa st wa)) ∧ Below w.heap.size w w' := by
  have HC := hide (implValidStock_any st A c w hx h1)
  have HO := hide fun W (hW : Below w.heap.size w W) => outside_any wa 0 200 A2 c2 W (by omega) ((h2.below hW).more hW.size)
  rw [any_not_all] at HO
  clear h1 h2
  cases hv : vStock st
  · have HR := hide (show codeWa st wa = 1 by simp [codeWa, hv])
    rw [hv] at HC
    clear hv
    go_enter Try.func124, Try.ntmps124
    go_wp2_with (go_at_call 37; refine (HC.out).mono ?_; rintro e w1 ⟨rfl, hb1⟩)
    go_ret
    exact ⟨ret_i HR.out.symm, hb1⟩
  have HR0 := hide (show codeWa st wa = if wa.length = st.length ∧ wa.all (inB 0 200) = true then 0 else 2 by simp [codeWa, hv])
  rw [hv] at HC
  clear hv
  by_cases hl : wa.length = st.length
  · have hB : ((wa.length : Int) != (st.length : Int)) = false := by simp [hl]
    cases ha : wa.all (inB 0 200)
    · have HR := hide (show codeWa st wa = 2 by rw [HR0.out, if_neg (by simp [ha])])
      rw [ha] at HO
      have hlh := hide hl
      clear hl ha HR0
      go_enter Try.func124, Try.ntmps124
      go_wp2_with (first | (go_at_call 37; refine (HC.out).mono ?_; rintro e w1 ⟨rfl, hb1⟩) | (go_at_call 147; refine (HO.out _ hb1).mono ?_; rintro e w2 ⟨rfl, hb2⟩))
      go_ret
      exact ⟨ret_i HR.out.symm, hb1.trans (hb2.mono hb1.size)⟩
    · have HR := hide (show codeWa st wa = 0 by rw [HR0.out, if_pos ⟨hl, ha⟩])
      rw [ha] at HO
      have hlh := hide hl
      clear hl ha HR0
      go_enter Try.func124, Try.ntmps124
      go_wp2_with (first | (go_at_call 37; refine (HC.out).mono ?_; rintro e w1 ⟨rfl, hb1⟩) | (go_at_call 147; refine (HO.out _ hb1).mono ?_; rintro e w2 ⟨rfl, hb2⟩))
      go_ret
      exact ⟨ret_i HR.out.symm, hb1.trans (hb2.mono hb1.size)⟩
  · have hB : ((wa.length : Int) != (st.length : Int)) = true := by simp; omega
    have HR := hide (show codeWa st wa = 2 by rw [HR0.out, if_neg (fun h => hl h.1)])
    clear hl HR0
    go_enter Try.func124, Try.ntmps124
    go_wp2_with (go_at_call 37; refine (HC.out).mono ?_; rintro e w1 ⟨rfl, hb1⟩)
    go_ret
    exact ⟨ret_i HR.out.symm, hb1⟩
end Go.Proofs.Ytklfjekpeoigoaa
