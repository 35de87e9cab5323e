/-
  Rooms and guests: which are valid, in the program and in the reference; the contracts in the laws' words.
-/
import Derived.Test.YtckkmgbclefljaaInts
import Derived.Test.YtckkmgbclefljaaRec
import Derived.Test.YtckkmgbclefljaaLib
import Derived.Test.YtckkmgbclefljaaLawH
namespace Go.Proofs.Ytckkmgbclefljaa
open Go.RowKit

def okG (n : Int) (g : T2) : Bool := inB (-1) (n - 1) g.a && inB (-1) (n - 1) g.b
theorem okG_iff {n : Int} {g : T2} : okG n g = true ↔ (-1 ≤ g.a ∧ g.a ≤ n - 1) ∧ (-1 ≤ g.b ∧ g.b ≤ n - 1) := by simp [okG, inB]
def nonneg (z : Int) : Bool := decide (0 ≤ z)
/-- The free places behind these guests. -/
def freeGo : List Int → List T2 → List Int
  | out, [] => out
  | out, g :: gs => freeGo (if 0 ≤ g.a then (match out[g.a.toNat]? with | some x => out.set g.a.toNat (x - 1) | none => out) else out) gs
def vRooms (rooms : List Int) (list : List T2) : Bool :=
  rooms.all (inB 1 4) && ((list.all (okG rooms.length) && (freeGo rooms list).all nonneg) && (inB 1 8 rooms.length && decide (list.length ≤ 8)))
theorem freeGo_len : ∀ (gs : List T2) (out : List Int), (freeGo out gs).length = out.length := by
  intro gs
  induction gs with
  | nil => intro out; rfl
  | cons g gs ih =>
    intro out
    rw [freeGo, ih]
    split
    · split <;> simp
    · rfl
theorem freeGo_le : ∀ (gs : List T2) (out : List Int), (∀ z ∈ out, z ≤ 4) → ∀ z ∈ freeGo out gs, z ≤ 4 := by
  intro gs
  induction gs with
  | nil => intro out h; exact h
  | cons g gs ih =>
    intro out h
    rw [freeGo]
    apply ih
    split
    · split
      · rename_i x hx
        intro z hz
        rcases List.mem_or_eq_of_mem_set hz with hz | rfl
        · exact h z hz
        · have := h x (List.mem_of_getElem? hx); omega
      · exact h
    · exact h
theorem freeGo_skip {out : List Int} {gs : List T2} {k : Nat} {g : T2} (hg : gs[k]? = some g) (ha : g.a < 0) : freeGo out (gs.drop k) = freeGo out (gs.drop (k + 1)) := by
  rw [drop_cons hg, freeGo, if_neg (by omega)]
theorem freeGo_take {out : List Int} {gs : List T2} {k i : Nat} {g : T2} {x : Int} (hg : gs[k]? = some g) (ha : g.a = (i : Int)) (hx : out[i]? = some x) : freeGo out (gs.drop k) = freeGo (out.set i (x - 1)) (gs.drop (k + 1)) := by
  rw [drop_cons hg, freeGo, if_pos (by omega), ha, Int.toNat_natCast, hx]
theorem all_set {p : Int → Bool} : ∀ {out : List Int} {i : Nat} {x v : Int}, out[i]? = some x → (p v = true → p x = true) → ((out.set i v).all p) = (out.all p && p v) := by
  intro out
  induction out with
  | nil => intro i x v h; simp at h
  | cons y ys ih =>
    intro i x v h hp
    cases i with
    | zero =>
      simp at h; subst h
      simp only [List.set_cons_zero, List.all_cons]
      cases hv : p v
      · simp
      · simp [hp hv]
    | succ i =>
      simp only [List.set_cons_succ, List.all_cons]
      rw [ih (by simpa using h) hp, Bool.and_assoc]
theorem own_pos' {w : World} {base : Nat} {e : TypeId} {size n c : Nat} {A : Option Addr} {xs : List Value} (h : w.ownsRow base e size (.slice A n c) n xs) (hn : 0 < n) : ∃ g, A = some ⟨g, 0, none⟩ ∧ base ≤ g ∧ g < w.heap.size := by
  rcases own_block h with ⟨_, h0, _⟩ | ⟨g, hA, h1, h2⟩
  · omega
  · exact ⟨g, hA, h1, h2⟩
theorem own_int_at {w : World} {base : Nat} {e : TypeId} {n c g : Nat} {zs : List Int} (h : w.ownsRow base e 1 (.slice (some ⟨g, 0, none⟩) n c) n (zs.map (Value.int .i64))) {i : Nat} {z : Int} (hz : zs[i]? = some z) : w.cell? ⟨g, i, none⟩ = some (.int .i64 z) := by
  have hl := h.1
  have hi := lt_of_get hz
  simp only [List.length_map, Nat.mul_one] at hl
  rw [h.cellAt i (by omega), List.getElem?_map, hz]; rfl
theorem own_int_set {w : World} {base : Nat} {e : TypeId} {n c g : Nat} {zs : List Int} (h : w.ownsRow base e 1 (.slice (some ⟨g, 0, none⟩) n c) n (zs.map (Value.int .i64))) (i : Nat) (z : Int) :
    (w.setCell ⟨g, i, none⟩ (.int .i64 z)).ownsRow base e 1 (.slice (some ⟨g, 0, none⟩) n c) n ((zs.set i z).map (Value.int .i64)) ∧ w.grownBy (w.setCell ⟨g, i, none⟩ (.int .i64 z)) (some g) := by
  have := h.stored i (.int .i64 z)
  rw [← List.map_set] at this
  exact this

set_option maxRecDepth 100000 in
set_option maxHeartbeats 1000000 in
theorem l00Own_any (xs : List Int) (A : Option Addr) (c : Nat) (w : World) (hx : xs.length ≤ 1048576) (h1 : RdI w w.heap.size A xs) :
    Calls Try.prog 88 #[.slice A xs.length c] w fun e w' => ∃ A' c', e = .returned (.slice A' xs.length c') ∧ w'.ownsRow w.heap.size 2 1 (.slice A' xs.length c') xs.length (xs.map (Value.int .i64)) ∧ Below w.heap.size w w' := by
  obtain ⟨i0, hi0, hz0, hs0, hb0⟩ := info_parts int64_info
  have HX := hide h1; clear h1
  go_enter Try.func88, Try.ntmps88
  have ho0 := own_new0 w w.heap.size 2 1 (Nat.le_refl _)
  have hb1 : Below w.heap.size w (w.alloc (.cells #[] 2)) := (Below.refl _ _).alloc (Nat.le_refl _) _
  have HR := hide (Rd.below HX.out hb1)
  go_wp2_with (at_builtin; go_must (refine wp_app _ rfl _ _ 28 rfl w.heap.size 2 i0 (.int .i64 0) 1 8 Try.underlying28 hi0 hz0 hs0 hb0 rfl (by decide) _ _ _ rfl ho0 _ _ xs.length c _ rfl (by simp) HR.out (ints_one _) (by omega) (by decide) (by simp) ?_); intro v' w1 hown' hgrow hat)
  go_ret
  simp only [Nat.zero_add, List.nil_append] at hown'
  obtain ⟨A', c', rfl, _⟩ := own_shape hown'
  exact ⟨A', c', rfl, hown', app_below hb1 ho0 hgrow (Nat.le_refl _) (by simp)⟩
set_option maxRecDepth 100000 in
set_option maxHeartbeats 4000000 in
theorem l10Free_any (rooms : List Int) (A : Option Addr) (c : Nat) (gs : List T2) (A2 : Option Addr) (c2 : Nat) (w : World) (hx : rooms.length ≤ 1048576) (hy : gs.length ≤ 1048576)
    (hall : rooms.all (inB 1 4) = true) (h1 : RdI w w.heap.size A rooms) (h2 : Rd2 w w.heap.size A2 gs) :
    Calls Try.prog 78 #[.slice A rooms.length c, .slice A2 gs.length c2] w fun e w' => ∃ v, e = .returned (.tuple #[v, .bool (gs.all (okG rooms.length) && (freeGo rooms gs).all nonneg)]) ∧ Below w.heap.size w w' := by
  have HX := hide h1; have HM := hide h2
  clear h1 h2
  have HO := hide (l00Own_any rooms A c w hx HX.out)
  have HA0 : Hid (∀ z ∈ rooms, 1 ≤ z ∧ z ≤ 4) := fun z hz => by have := List.all_eq_true.1 hall z hz; rwa [inB_iff] at this
  have HN : Hid (rooms.all nonneg = true) := List.all_eq_true.2 fun z hz => by have := HA0.out z hz; simp [nonneg]; omega
  clear hall
  go_enter Try.func78, Try.ntmps78
  go_wp2_with (go_at_call 88; refine (HO.out).mono ?_; rintro e w1 ⟨A3, c3, rfl, ho3, hb1⟩)
  have HO3 := hide ho3
  clear ho3 HO
  go_loopg [7, 8] gs.length (fun gk f i wr => ∃ (k : Nat) (out : List Int), k ≤ gs.length ∧ Hid (gk = gs.length - k) ∧ i = .int .i64 k ∧ f = .bool (out.all nonneg) ∧ Hid (out.length = rooms.length) ∧ Hid (∀ z ∈ out, -(k : Int) ≤ z ∧ z ≤ 4) ∧
    Hid (gs.all (okG rooms.length) = (gs.drop k).all (okG rooms.length)) ∧ Hid (freeGo rooms gs = freeGo out (gs.drop k)) ∧ Hid (wr.ownsRow w.heap.size 2 1 (.slice A3 rooms.length c3) rooms.length (out.map (Value.int .i64))) ∧ Below w.heap.size w wr)
  case atStart => exact ⟨0, rooms, by omega, by simp [Hid], rfl, by rw [HN.out], by simp [Hid], hide (fun z hz => by have := HA0.out z hz; omega), by simp [Hid], by simp [Hid], HO3, hb1⟩
  case round =>
    obtain ⟨k, out, hk, hg, rfl, rfl, HL, HB, HS, HF, HOW, hb⟩ := hrel
    clear hb1 HO3
    by_cases hlt : k < gs.length
    · obtain ⟨b1, o1, g1, rfl, _, hg1, hca, hcb⟩ := (HM.out.below hb).at_ hlt
      have HS' := HS.out; rw [all_drop _ _ _ _ hg1] at HS'
      have HQ := hide HS'
      have HG := hide hg1
      clear HS' hg1 HS
      by_cases hga : -1 ≤ g1.a ∧ g1.a ≤ (rooms.length : Int) - 1
      case neg =>
        have hga' : g1.a < -1 ∨ (rooms.length : Int) - 1 < g1.a := by omega
        have HK := hide (show okG rooms.length g1 = false by simp [okG, inB_f hga'])
        clear hga
        go_wp2_with (go_at_call 75; first | (refine (l00In_t _ _ _ _ (by omega)).mono ?_; rintro e w' ⟨rfl, rfl⟩) | (refine (l00In_f _ _ _ _ (by omega)).mono ?_; rintro e w' ⟨rfl, rfl⟩))
        go_ret2
        exact ⟨_, by rw [HQ.out, HK.out]; rfl, hb⟩
      by_cases hgb : -1 ≤ g1.b ∧ g1.b ≤ (rooms.length : Int) - 1
      case neg =>
        have hgb' : g1.b < -1 ∨ (rooms.length : Int) - 1 < g1.b := by omega
        have HK := hide (show okG rooms.length g1 = false by simp [okG, inB_f hgb'])
        clear hgb
        go_wp2_with (go_at_call 75; first | (refine (l00In_t _ _ _ _ (by omega)).mono ?_; rintro e w' ⟨rfl, rfl⟩) | (refine (l00In_f _ _ _ _ (by omega)).mono ?_; rintro e w' ⟨rfl, rfl⟩))
        go_ret2
        exact ⟨_, by rw [HQ.out, HK.out]; rfl, hb⟩
      have HK := hide (okG_iff.2 ⟨hga, hgb⟩)
      have HQ' := hide (show gs.all (okG rooms.length) = (gs.drop (k + 1)).all (okG rooms.length) by rw [HQ.out, HK.out]; rfl)
      obtain ⟨hga1, hga2⟩ := hga
      obtain ⟨hgb1, hgb2⟩ := hgb
      by_cases hneg : g1.a < 0
      · have HF' := hide (HF.out.trans (freeGo_skip HG.out hneg))
        go_wp2_with (go_at_call 75; first | (refine (l00In_t _ _ _ _ (by omega)).mono ?_; rintro e w' ⟨rfl, rfl⟩) | (refine (l00In_f _ _ _ _ (by omega)).mono ?_; rintro e w' ⟨rfl, rfl⟩))
        go_roundg (gs.length - (k + 1))
        case measure => have := hg.out; omega
        case rel => exact ⟨k + 1, out, by omega, rfl, by go_num, rfl, HL, hide (fun z hz => by have := HB.out z hz; omega), HQ', HF', HOW, hb⟩
      · obtain ⟨i, hi⟩ := Int.eq_ofNat_of_zero_le (show 0 ≤ g1.a by omega)
        have hir : i < rooms.length := by omega
        have hio : i < out.length := by rw [HL.out]; exact hir
        obtain ⟨x, hx1⟩ : ∃ x, out[i]? = some x := ⟨_, List.getElem?_eq_getElem hio⟩
        obtain ⟨hxa, hxb⟩ := HB.out x (List.mem_of_getElem? hx1)
        have HF' := hide (HF.out.trans (freeGo_take HG.out hi hx1))
        have HNN := hide (all_set (p := nonneg) (v := x - 1) hx1 (by simp [nonneg]; omega))
        have HB' : Hid (∀ z ∈ out.set i (x - 1), -((k + 1 : Nat) : Int) ≤ z ∧ z ≤ 4) := fun z hz => by
          rcases List.mem_or_eq_of_mem_set hz with hz | rfl
          · have := HB.out z hz; omega
          · omega
        rw [hi] at hca
        obtain ⟨g, rfl, hgb', hgs⟩ := own_pos' HOW.out (by omega)
        have hxc := own_int_at HOW.out hx1
        have hxf := HOW.out.frozenAt i
        have hs1 := own_int_set HOW.out i (x - 1)
        have HS1 := hide hs1.1
        have hxc2 := own_int_at HS1.out (show (out.set i (x - 1))[i]? = some (x - 1) by simp [hio])
        have hb2 : Below w.heap.size w (wr.setCell ⟨g, i, none⟩ (.int .i64 (x - 1))) := hb.setCell hgb' _
        have hbl := World.block_lt_of_cell? wr _ hca
        have hd1 : (wr.setCell ⟨g, i, none⟩ (.int .i64 (x - 1))).cell? ⟨b1, o1 + k * 2, none⟩ = some (.int .i64 i) := by
          rw [World.cell?_setCell_other _ _ _ _ (fun e => by have := (Addr.mk.inj e).1; omega)]; exact hca
        have HI := hide hi; have HX1 := hide hx1
        clear hi hx1 hs1 hneg
        cases hn : out.all nonneg
        · have HN2 := hide (show ((out.set i (x - 1)).all nonneg) = false by rw [HNN.out, hn]; rfl)
          clear hn
          go_wp2_with (go_at_call 75; first | (refine (l00In_t _ _ _ _ (by omega)).mono ?_; rintro e w' ⟨rfl, rfl⟩) | (refine (l00In_f _ _ _ _ (by omega)).mono ?_; rintro e w' ⟨rfl, rfl⟩))
          go_roundg (gs.length - (k + 1))
          case measure => have := hg.out; omega
          case rel => exact ⟨k + 1, out.set i (x - 1), by omega, rfl, by go_num, (by have h := HN2.out; first | (rw [h]; done) | (rw [h]; rfl) | (rw [h]; simp <;> omega)), by rw [List.length_set]; exact HL, HB', HQ', HF', HS1, hb2⟩
        · by_cases hx0 : 0 ≤ x - 1
          · have HN2 := hide (show ((out.set i (x - 1)).all nonneg) = true by rw [HNN.out, hn, Bool.true_and]; exact decide_eq_true hx0)
            clear hn
            go_wp2_with (go_at_call 75; first | (refine (l00In_t _ _ _ _ (by omega)).mono ?_; rintro e w' ⟨rfl, rfl⟩) | (refine (l00In_f _ _ _ _ (by omega)).mono ?_; rintro e w' ⟨rfl, rfl⟩))
            go_roundg (gs.length - (k + 1))
            case measure => have := hg.out; omega
            case rel => exact ⟨k + 1, out.set i (x - 1), by omega, rfl, by go_num, (by have h := HN2.out; first | (rw [h]; done) | (rw [h]; rfl) | (rw [h]; simp <;> omega)), by rw [List.length_set]; exact HL, HB', HQ', HF', HS1, hb2⟩
          · have HN2 := hide (show ((out.set i (x - 1)).all nonneg) = false by rw [HNN.out, hn, Bool.true_and]; exact decide_eq_false hx0)
            clear hn
            go_wp2_with (go_at_call 75; first | (refine (l00In_t _ _ _ _ (by omega)).mono ?_; rintro e w' ⟨rfl, rfl⟩) | (refine (l00In_f _ _ _ _ (by omega)).mono ?_; rintro e w' ⟨rfl, rfl⟩))
            go_roundg (gs.length - (k + 1))
            case measure => have := hg.out; omega
            case rel => exact ⟨k + 1, out.set i (x - 1), by omega, rfl, by go_num, (by have h := HN2.out; first | (rw [h]; done) | (rw [h]; rfl) | (rw [h]; simp <;> omega)), by rw [List.length_set]; exact HL, HB', HQ', HF', HS1, hb2⟩
    · have hS := HS.out
      have hF := HF.out
      rw [List.drop_eq_nil_of_le (by omega)] at hS hF
      have HS2 := hide hS; have HF2 := hide hF
      clear hS hF
      go_wp2_with fail
      go_ret2
      exact ⟨_, by rw [HS2.out, HF2.out]; rfl, hb⟩
set_option maxRecDepth 100000 in
set_option maxHeartbeats 4000000 in
theorem l10Ok_any (rooms : List Int) (A : Option Addr) (c : Nat) (gs : List T2) (A2 : Option Addr) (c2 : Nat) (w : World) (hx : rooms.length ≤ 1048576) (hy : gs.length ≤ 1048576)
    (h1 : RdI w w.heap.size A rooms) (h2 : Rd2 w w.heap.size A2 gs) :
    Calls Try.prog 57 #[.slice A rooms.length c, .slice A2 gs.length c2] w fun e w' => e = .returned (.bool (vRooms rooms gs)) ∧ Below w.heap.size w w' := by
  have HX := hide h1; have HM := hide h2
  clear h1 h2
  go_enter Try.func57, Try.ntmps57
  go_wp2_with fail
  go_loopg [5] rooms.length (fun g i wr => ∃ k : Nat, k ≤ rooms.length ∧ Hid (g = rooms.length - k) ∧ i = .int .i64 k ∧ Hid (rooms.all (inB 1 4) = (rooms.drop k).all (inB 1 4)) ∧ w = wr)
  case atStart => exact ⟨0, by omega, by simp [Hid], rfl, by simp [Hid], rfl⟩
  case round =>
    obtain ⟨k, hk, hg, rfl, HS, rfl⟩ := hrel
    by_cases hlt : k < rooms.length
    · obtain ⟨b1, o1, z1, rfl, _, hz1, hc1⟩ := HX.out.at_ hlt
      have HS' := HS.out; rw [all_drop _ _ _ _ hz1] at HS'
      have HQ := hide HS'; clear HS' hz1
      by_cases hz : 1 ≤ z1 ∧ z1 ≤ 4
      · have HB := hide (inB_t hz)
        obtain ⟨hz0, hz9⟩ := hz
        go_wp2_with (go_at_call 75; first | (refine (l00In_t _ _ _ _ (by omega)).mono ?_; rintro e w' ⟨rfl, rfl⟩) | (refine (l00In_f _ _ _ _ (by omega)).mono ?_; rintro e w' ⟨rfl, rfl⟩))
        go_roundg (rooms.length - (k + 1))
        case measure => have := hg.out; omega
        case rel => exact ⟨k + 1, by omega, rfl, by go_num, hide (by have := HQ.out; rw [HB.out] at this; simpa using this), rfl⟩
      · have hz' : z1 < 1 ∨ 4 < z1 := by omega
        have HB := hide (inB_f hz')
        clear hz
        go_wp2_with (go_at_call 75; first | (refine (l00In_t _ _ _ _ (by omega)).mono ?_; rintro e w' ⟨rfl, rfl⟩) | (refine (l00In_f _ _ _ _ (by omega)).mono ?_; rintro e w' ⟨rfl, rfl⟩))
        go_ret
        exact ⟨ret_b (by unfold vRooms; rw [HQ.out, HB.out]; rfl), Below.refl _ _⟩
    · have HA : Hid (rooms.all (inB 1 4) = true) := by
        have := HS.out; rw [List.drop_eq_nil_of_le (by omega)] at this; exact this
      have HC := hide (l10Free_any rooms A c gs A2 c2 w hx hy HA.out HX.out HM.out)
      cases hf : (gs.all (okG rooms.length) && (freeGo rooms gs).all nonneg)
      · rw [hf] at HC
        have HR := hide (show vRooms rooms gs = false by simp only [vRooms, hf, Bool.false_and, Bool.and_false])
        clear hf
        go_wp2_with (go_at_call 78; refine (HC.out).mono ?_; rintro e w1 ⟨v, rfl, hb1⟩)
        go_ret
        exact ⟨ret_b HR.out.symm, hb1⟩
      · rw [hf] at HC
        by_cases hl : 1 ≤ rooms.length ∧ rooms.length ≤ 8
        · have HR := hide (show vRooms rooms gs = decide (gs.length ≤ 8) by unfold vRooms; rw [HA.out, hf, inB_t (lo := 1) (hi := 8) (n := (rooms.length : Int)) (by omega)]; rfl)
          obtain ⟨hl1, hl8⟩ := hl
          clear hf
          go_wp2_with (first | (go_at_call 78; refine (HC.out).mono ?_; rintro e w1 ⟨v, rfl, hb1⟩) | (go_at_call 75; first | (refine (l00In_t _ _ _ _ (by omega)).mono ?_; rintro e w' ⟨rfl, rfl⟩) | (refine (l00In_f _ _ _ _ (by omega)).mono ?_; rintro e w' ⟨rfl, rfl⟩)))
          go_ret
          exact ⟨ret_b (by rw [HR.out]; simp <;> omega), hb1⟩
        · have hl' : (rooms.length : Int) < 1 ∨ 8 < (rooms.length : Int) := by omega
          have HR := hide (show vRooms rooms gs = false by unfold vRooms; rw [inB_f (lo := 1) (hi := 8) (n := (rooms.length : Int)) hl']; simp only [Bool.false_and, Bool.and_false])
          clear hf hl
          go_wp2_with (first | (go_at_call 78; refine (HC.out).mono ?_; rintro e w1 ⟨v, rfl, hb1⟩) | (go_at_call 75; first | (refine (l00In_t _ _ _ _ (by omega)).mono ?_; rintro e w' ⟨rfl, rfl⟩) | (refine (l00In_f _ _ _ _ (by omega)).mono ?_; rintro e w' ⟨rfl, rfl⟩)))
          go_ret
          exact ⟨ret_b HR.out.symm, hb1⟩
theorem S_ValidRooms (x : List Int) (v : Value) (y : List T2) (u : Value) (w : World) (hx : x.length ≤ 1048576) (_ : ∀ z ∈ x, -9223372036854775808 ≤ z ∧ z ≤ 9223372036854775807) (h : R_Int64S w w.heap.size v x) (hy : y.length ≤ 1048576) (_ : ∀ z ∈ y, z.Fits) (k : R_GuestS w w.heap.size u y) :
    Calls Try.prog 24 #[v, u] w fun e w' => e = .returned (.bool (vRooms x y)) ∧ Below w.heap.size w w' := by
  obtain ⟨A, c, rfl, r⟩ := h
  obtain ⟨A2, c2, rfl, r2⟩ := k
  have HC := hide (l10Ok_any x A c y A2 c2 w hx hy r r2)
  clear r r2
  go_enter Try.func24, Try.ntmps24
  go_wp2_with (go_at_call 57; refine (HC.out).mono ?_; rintro e w1 ⟨rfl, hb1⟩)
  go_ret
  exact ⟨rfl, hb1⟩
set_option maxRecDepth 100000 in
set_option maxHeartbeats 4000000 in
theorem validRooms1_any (n : Int) (z : T2) (b : Nat) (w : World) (hc : w.cell? ⟨b, 0, none⟩ = some (.int .i64 (n - 1))) :
    Calls Try.prog 61 #[.agg #[.int .i64 z.a, .int .i64 z.b], .pointer (some ⟨b, 0, none⟩)] w fun e w' => e = .returned (.bool (!okG n z)) ∧ Below w.heap.size w w' := by
  have hlt := World.block_lt_of_cell? w _ hc
  dsimp only at hlt
  by_cases h1 : -1 ≤ z.a ∧ z.a ≤ n - 1
  case neg =>
    have h1' : z.a < -1 ∨ n - 1 < z.a := by omega
    have HK := hide (show okG n z = false by simp [okG, inB_f h1'])
    clear h1
    go_enter Try.func61, Try.ntmps61
    go_wp2_with (go_at_call 58; first | (refine (within_t _ _ _ _ (by omega)).mono ?_; rintro e w' ⟨rfl, rfl⟩) | (refine (within_f _ _ _ _ (by omega)).mono ?_; rintro e w' ⟨rfl, rfl⟩))
    go_ret
    exact ⟨ret_b (by rw [HK.out]; rfl), (by repeat (first | exact Below.refl _ _ | assumption | (refine Below.alloc ?_ (by simp <;> omega) _) | refine Below.drew ?_ | refine bdn ?_ _))⟩
  by_cases h2 : -1 ≤ z.b ∧ z.b ≤ n - 1
  case neg =>
    have h2' : z.b < -1 ∨ n - 1 < z.b := by omega
    have HK := hide (show okG n z = false by simp [okG, inB_f h2'])
    clear h2
    go_enter Try.func61, Try.ntmps61
    go_wp2_with (go_at_call 58; first | (refine (within_t _ _ _ _ (by omega)).mono ?_; rintro e w' ⟨rfl, rfl⟩) | (refine (within_f _ _ _ _ (by omega)).mono ?_; rintro e w' ⟨rfl, rfl⟩))
    go_ret
    exact ⟨ret_b (by rw [HK.out]; rfl), (by repeat (first | exact Below.refl _ _ | assumption | (refine Below.alloc ?_ (by simp <;> omega) _) | refine Below.drew ?_ | refine bdn ?_ _))⟩
  have HK := hide (okG_iff.2 ⟨h1, h2⟩)
  go_enter Try.func61, Try.ntmps61
  go_wp2_with (go_at_call 58; first | (refine (within_t _ _ _ _ (by omega)).mono ?_; rintro e w' ⟨rfl, rfl⟩) | (refine (within_f _ _ _ _ (by omega)).mono ?_; rintro e w' ⟨rfl, rfl⟩))
  go_ret
  exact ⟨ret_b (by rw [HK.out]; rfl), (by repeat (first | exact Below.refl _ _ | assumption | (refine Below.alloc ?_ (by simp <;> omega) _) | refine Below.drew ?_ | refine bdn ?_ _))⟩
set_option maxRecDepth 100000 in
set_option maxHeartbeats 4000000 in
theorem freePlaces_any (rooms : List Int) (A : Option Addr) (c : Nat) (gs : List T2) (A2 : Option Addr) (c2 : Nat) (w : World) (hx : rooms.length ≤ 1048576) (hy : gs.length ≤ 1048576)
    (hall : ∀ z ∈ rooms, 1 ≤ z ∧ z ≤ 4) (hok : ∀ g ∈ gs, okG rooms.length g = true) (h1 : RdI w w.heap.size A rooms) (h2 : Rd2 w w.heap.size A2 gs) :
    Calls Try.prog 62 #[.slice A rooms.length c, .slice A2 gs.length c2] w fun e w' => ∃ A' c', e = .returned (.slice A' rooms.length c') ∧ w'.ownsRow w.heap.size 2 1 (.slice A' rooms.length c') rooms.length ((freeGo rooms gs).map (Value.int .i64)) ∧ Below w.heap.size w w' := by
  have HX := hide h1; have HM := hide h2
  clear h1 h2
  have HO := hide (cloneI_any rooms A c w hx HX.out)
  have HA0 := hide hall
  have HOK := hide hok
  clear hall hok
  go_enter Try.func62, Try.ntmps62
  go_wp2_with (go_at_call 82; refine (HO.out).mono ?_; rintro e w1 ⟨A3, c3, rfl, ho3, hb1⟩)
  have HO3 := hide ho3
  clear ho3 HO
  go_loopg [12] gs.length (fun gk i wr => ∃ (k : Nat) (out : List Int), k ≤ gs.length ∧ Hid (gk = gs.length - k) ∧ i = .int .i64 k ∧ Hid (out.length = rooms.length) ∧ Hid (∀ z ∈ out, -(k : Int) ≤ z ∧ z ≤ 4) ∧
    Hid (freeGo rooms gs = freeGo out (gs.drop k)) ∧ Hid (wr.ownsRow w.heap.size 2 1 (.slice A3 rooms.length c3) rooms.length (out.map (Value.int .i64))) ∧ Below w.heap.size w wr)
  case atStart => exact ⟨0, rooms, by omega, by simp [Hid], rfl, by simp [Hid], hide (fun z hz => by have := HA0.out z hz; omega), by simp [Hid], HO3, hb1⟩
  case round =>
    obtain ⟨k, out, hk, hg, rfl, HL, HB, HF, HOW, hb⟩ := hrel
    clear hb1 HO3
    by_cases hlt : k < gs.length
    · obtain ⟨b1, o1, g1, rfl, _, hg1, hca, hcb⟩ := (HM.out.below hb).at_ hlt
      have hsz := hb.size
      obtain ⟨⟨hga1, hga2⟩, _, _⟩ := okG_iff.1 (HOK.out g1 (List.mem_of_getElem? hg1))
      have HG := hide hg1
      clear hg1
      have hb2 : Below w.heap.size w (wr.alloc (.cells #[.int .i64 g1.a, .int .i64 g1.b] 61)) := hb.alloc hb.size _
      by_cases hneg : g1.a < 0
      · have HF' := hide (HF.out.trans (freeGo_skip HG.out hneg))
        go_wp2_with fail
        go_roundg (gs.length - (k + 1))
        case measure => have := hg.out; omega
        case rel => exact ⟨k + 1, out, by omega, rfl, by go_num, HL, hide (fun z hz => by have := HB.out z hz; omega), HF', hide (HOW.out.alloc _), hb2⟩
      · obtain ⟨i, hi⟩ := Int.eq_ofNat_of_zero_le (show 0 ≤ g1.a by omega)
        have hir : i < rooms.length := by omega
        have hio : i < out.length := by rw [HL.out]; exact hir
        obtain ⟨x, hx1⟩ : ∃ x, out[i]? = some x := ⟨_, List.getElem?_eq_getElem hio⟩
        obtain ⟨hxa, hxb⟩ := HB.out x (List.mem_of_getElem? hx1)
        have HF' := hide (HF.out.trans (freeGo_take HG.out hi hx1))
        have HB' : Hid (∀ z ∈ out.set i (x - 1), -((k + 1 : Nat) : Int) ≤ z ∧ z ≤ 4) := fun z hz => by
          rcases List.mem_or_eq_of_mem_set hz with hz | rfl
          · have := HB.out z hz; omega
          · omega
        rw [hi] at hca
        obtain ⟨g, rfl, hgb', hgs⟩ := own_pos' HOW.out (by omega)
        have HOA : Hid ((wr.alloc (.cells #[.int .i64 i, .int .i64 g1.b] 61)).ownsRow w.heap.size 2 1 (.slice (some ⟨g, 0, none⟩) rooms.length c3) rooms.length (out.map (Value.int .i64))) := HOW.out.alloc _
        have hxc := own_int_at HOA.out hx1
        have hxf := HOA.out.frozenAt i
        have hs1 := own_int_set HOW.out i (x - 1)
        have HS1 := hide (hs1.1.alloc (.cells #[.int .i64 i, .int .i64 g1.b] 61))
        have hb3 : Below w.heap.size w ((wr.setCell ⟨g, i, none⟩ (.int .i64 (x - 1))).alloc (.cells #[.int .i64 i, .int .i64 g1.b] 61)) := (hb.setCell hgb' _).alloc (by simp; omega) _
        have HI := hide hi; have HX1 := hide hx1
        clear hi hx1 hs1 hneg hb2
        go_wp2_with fail
        go_roundg (gs.length - (k + 1))
        case measure => have := hg.out; omega
        case rel => exact ⟨k + 1, out.set i (x - 1), by omega, rfl, by go_num, by rw [List.length_set]; exact HL, HB', HF', HS1, hb3⟩
    · have hF := HF.out
      rw [List.drop_eq_nil_of_le (by omega)] at hF
      have HF2 := hide hF
      clear hF
      go_wp2_with fail
      go_ret
      refine ⟨_, _, rfl, ?_, hb⟩
      rw [HF2.out]
      exact HOW.out
theorem vRooms_eq {rooms : List Int} {gs : List T2} (h1 : rooms.all (inB 1 4) = true) (h2 : 1 ≤ rooms.length ∧ rooms.length ≤ 8) (h3 : gs.length ≤ 8) (h4 : gs.all (okG rooms.length) = true) : vRooms rooms gs = (freeGo rooms gs).all (inB 0 4) := by
  unfold vRooms
  rw [h1, h4, inB_t (lo := 1) (hi := 8) (n := (rooms.length : Int)) (by omega), decide_eq_true h3]
  simp only [Bool.true_and, Bool.and_true]
  have hle := freeGo_le gs rooms (fun z hz => by have := List.all_eq_true.1 h1 z hz; rw [inB_iff] at this; omega)
  rw [Bool.eq_iff_iff, List.all_eq_true, List.all_eq_true]
  constructor
  · intro h z hz; have := h z hz; have := hle z hz; rw [inB_iff]; simp only [nonneg, decide_eq_true_eq] at *; omega
  · intro h z hz; have := h z hz; rw [inB_iff] at this; simp only [nonneg, decide_eq_true_eq]; omega
set_option maxRecDepth 100000 in
set_option maxHeartbeats 4000000 in
theorem P_ValidRooms (x : List Int) (v : Value) (y : List T2) (u : Value) (w : World) (hx : x.length ≤ 1048576) (_ : ∀ z ∈ x, -9223372036854775808 ≤ z ∧ z ≤ 9223372036854775807) (h : R_Int64S w w.heap.size v x) (hy : y.length ≤ 1048576) (_ : ∀ z ∈ y, z.Fits) (k : R_GuestS w w.heap.size u y) :
    Calls Try.prog 26 #[v, u] w fun e w' => e = .returned (.bool (vRooms x y)) ∧ Below w.heap.size w w' := by
  obtain ⟨A, c, rfl, r⟩ := h
  obtain ⟨A2, c2, rfl, r2⟩ := k
  have HX := hide r; have HM := hide r2
  clear r r2
  have hb0 : Below w.heap.size w (w.alloc (.cells #[.int .i64 ((x.length : Int) - 1)] 2)) := (by repeat (first | exact Below.refl _ _ | assumption | (refine Below.alloc ?_ (by simp <;> omega) _) | refine Below.drew ?_ | refine bdn ?_ _))
  have hcell : (w.alloc (.cells #[.int .i64 ((x.length : Int) - 1)] 2)).cell? ⟨w.heap.size, 0, none⟩ = some (.int .i64 ((x.length : Int) - 1)) := by simp [go_sem]
  have hszo : (w.alloc (.cells #[.int .i64 ((x.length : Int) - 1)] 2)).heap.size = w.heap.size + 1 := by simp
  by_cases hl : 1 ≤ x.length ∧ x.length ≤ 8
  case neg =>
    have hl' : (x.length : Int) < 1 ∨ 8 < (x.length : Int) := by omega
    have HR := hide (show vRooms x y = false by unfold vRooms; rw [inB_f (lo := 1) (hi := 8) (n := (x.length : Int)) hl']; simp only [Bool.false_and, Bool.and_false])
    clear hl hcell hszo
    go_enter Try.func26, Try.ntmps26
    go_wp2_with (go_at_call 58; first | (refine (within_t _ _ _ _ (by omega)).mono ?_; rintro e w' ⟨rfl, rfl⟩) | (refine (within_f _ _ _ _ (by omega)).mono ?_; rintro e w' ⟨rfl, rfl⟩))
    go_ret
    exact ⟨ret_b HR.out.symm, hb0⟩
  obtain ⟨hl1, hl8⟩ := hl
  have HO := hide fun W (hW : Below w.heap.size w W) (lo hi : Int) => outside_any x lo hi A c W (by omega) ((HX.out.below hW).more hW.size)
  cases ho : x.all (inB 1 4)
  · have HR := hide (show vRooms x y = false by unfold vRooms; rw [ho]; rfl)
    have HO1 := hide (HO.out _ hb0 1 4)
    rw [any_not_all, ho] at HO1
    clear ho hcell hszo
    go_enter Try.func26, Try.ntmps26
    go_wp2_with (first | (go_at_call 58; first | (refine (within_t _ _ _ _ (by omega)).mono ?_; rintro e w' ⟨rfl, rfl⟩) | (refine (within_f _ _ _ _ (by omega)).mono ?_; rintro e w' ⟨rfl, rfl⟩)) | (go_at_call 59; refine (HO1.out).mono ?_; rintro e w1 ⟨rfl, hb1⟩))
    go_ret
    exact ⟨ret_b HR.out.symm, hb0.trans (hb1.mono hb0.size)⟩
  have HO1 := hide (HO.out _ hb0 1 4)
  rw [any_not_all, ho] at HO1
  have HA0 : Hid (∀ z ∈ x, 1 ≤ z ∧ z ≤ 4) := fun z hz => by have := List.all_eq_true.1 ho z hz; rwa [inB_iff] at this
  have HALL := hide ho
  clear ho
  by_cases hy8 : y.length ≤ 8
  case neg =>
    have HR := hide (show vRooms x y = false by simp [vRooms]; omega)
    clear hcell hszo
    go_enter Try.func26, Try.ntmps26
    go_wp2_with (first | (go_at_call 58; first | (refine (within_t _ _ _ _ (by omega)).mono ?_; rintro e w' ⟨rfl, rfl⟩) | (refine (within_f _ _ _ _ (by omega)).mono ?_; rintro e w' ⟨rfl, rfl⟩)) | (go_at_call 59; refine (HO1.out).mono ?_; rintro e w1 ⟨rfl, hb1⟩))
    go_ret
    exact ⟨ret_b HR.out.symm, hb0.trans (hb1.mono hb0.size)⟩
  have hcf := callFunc_gen (P := Try.prog) (F := 61) Try.func61 (by kernel_rfl) (by kernel_rfl)
  have HCF := hide fun W (hW : Below w.heap.size w W) (hc : W.cell? ⟨w.heap.size, 0, none⟩ = some (.int .i64 ((x.length : Int) - 1))) =>
    containsFuncGuest_any (fun z => !okG x.length z) 61 #[.pointer (some ⟨w.heap.size, 0, none⟩)] y A2 c2 W (by omega) hcf ((HM.out.below hW).more hW.size)
      (fun z W' hW' => by
        have hlt := World.block_lt_of_cell? W _ hc
        exact validRooms1_any (x.length : Int) z w.heap.size W' (by rw [hW'.cell hlt]; exact hc))
  have HC0 := hide hcell
  have HSZ := hide hszo
  clear hcf hcell hszo
  cases hg : y.all (okG x.length)
  · rw [any_not_all, hg] at HCF
    have HR := hide (show vRooms x y = false by simp only [vRooms, hg, Bool.false_and, Bool.and_false])
    clear hg
    go_enter Try.func26, Try.ntmps26
    go_wp2_with (first | (go_at_call 58; first | (refine (within_t _ _ _ _ (by omega)).mono ?_; rintro e w' ⟨rfl, rfl⟩) | (refine (within_f _ _ _ _ (by omega)).mono ?_; rintro e w' ⟨rfl, rfl⟩)) | (go_at_call 59; refine (HO1.out).mono ?_; rintro e w1 ⟨rfl, hb1⟩; have hb2 := hb0.trans (hb1.mono hb0.size); have HC1 := hide ((hb1.cell (p := ⟨w.heap.size, 0, none⟩) (by rw [HSZ.out]; exact Nat.lt_succ_self _)).trans HC0.out)) | (go_at_call 60; refine (HCF.out _ hb2 HC1.out).mono ?_; rintro e w2 ⟨rfl, hb3⟩))
    go_ret
    exact ⟨ret_b HR.out.symm, hb2.trans (hb3.mono hb2.size)⟩
  rw [any_not_all, hg] at HCF
  have HR := hide (vRooms_eq HALL.out ⟨hl1, hl8⟩ hy8 hg)
  have HFP := hide fun W (hW : Below w.heap.size w W) => freePlaces_any x A c y A2 c2 W hx hy HA0.out (List.all_eq_true.1 hg) ((HX.out.below hW).more hW.size) ((HM.out.below hW).more hW.size)
  have hfl := freeGo_len y x
  have HFL := hide hfl
  clear hg hfl
  go_enter Try.func26, Try.ntmps26
  go_wp2_with (first | (go_at_call 58; first | (refine (within_t _ _ _ _ (by omega)).mono ?_; rintro e w' ⟨rfl, rfl⟩) | (refine (within_f _ _ _ _ (by omega)).mono ?_; rintro e w' ⟨rfl, rfl⟩)) | (go_at_call 59; refine (HO1.out).mono ?_; rintro e w1 ⟨rfl, hb1⟩; have hb2 := hb0.trans (hb1.mono hb0.size); have HC1 := hide ((hb1.cell (p := ⟨w.heap.size, 0, none⟩) (by rw [HSZ.out]; exact Nat.lt_succ_self _)).trans HC0.out)) | (go_at_call 60; refine (HCF.out _ hb2 HC1.out).mono ?_; rintro e w2 ⟨rfl, hb3⟩; have hb4 := hb2.trans (hb3.mono hb2.size)) | (go_at_call 62; fail))
  refine (HFP.out _ hb4).mono ?_
  rintro e w3 ⟨A', c', rfl, ho3, hb5⟩
  have hrd := RdI.of_own ho3
  have hb6 := hb4.trans (hb5.mono hb4.size)
  have HOL := hide (outside_any (freeGo x y) 0 4 A' c' w3 (by rw [HFL.out]; omega) hrd)
  rw [HFL.out, any_not_all, ← HR.out] at HOL
  clear ho3 hrd
  go_wp2_with (go_at_call 59; refine (HOL.out).mono ?_; rintro e w4 ⟨rfl, hb7⟩)
  go_ret
  exact ⟨ret_b (by simp), hb6.trans (hb7.mono hb6.size)⟩
end Go.Proofs.Ytckkmgbclefljaa
