/-
  Zones and their changes: which are valid, in the program and in the reference.
-/
import Derived.Test.YtofjnmeblmbnmaaDoorQLevels1
import Derived.Deep.RegionHeld3
namespace Go.Proofs.YtofjnmeblmbnmaaDoor
open Go.RowKit

def cmp3 (a b : Int) : Int := if a < b then -1 else if b < a then 1 else 0
def firstNZ : List Int → Int
  | [] => 0
  | d :: ds => if d = 0 then firstNZ ds else d
def cmpC (a b : T3) : Int := firstNZ [cmp3 a.a b.a, cmp3 a.b b.b]
def ltC (a b : T3) : Bool := decide (a.a < b.a ∨ (a.a = b.a ∧ a.b < b.b))
theorem cmpC_lt (a b : T3) : decide (0 ≤ cmpC a b) = !ltC a b := by
  unfold cmpC firstNZ cmp3 ltC
  by_cases h1 : a.a < b.a
  · rw [if_pos h1]; simp [h1]
  · rw [if_neg h1]
    by_cases h2 : b.a < a.a
    · rw [if_pos h2]; simp; omega
    · rw [if_neg h2]
      simp only [if_true, firstNZ]
      by_cases h3 : a.b < b.b
      · rw [if_pos h3]; simp; omega
      · rw [if_neg h3]
        by_cases h4 : b.b < a.b
        · rw [if_pos h4]; simp; omega
        · rw [if_neg h4]; simp; omega
def okC (n : Int) (c : T3) : Bool := inB 0 10000 c.a && (inB 0 (n - 1) c.b && inB (-100) 100 c.c)
theorem okC_iff {n : Int} {c : T3} : okC n c = true ↔ (0 ≤ c.a ∧ c.a ≤ 10000) ∧ (0 ≤ c.b ∧ c.b ≤ n - 1) ∧ (-100 ≤ c.c ∧ c.c ≤ 100) := by simp [okC, inB]
def okNext (p : Option T3) (c : T3) : Bool := match p with | none => true | some a => ltC a c
/-- The changes are of so many zones, in order, behind p. -/
def chOk (n : Int) : Option T3 → List T3 → Bool
  | _, [] => true
  | p, c :: cs => okC n c && (okNext p c && chOk n (some c) cs)
def prevOf (cs : List T3) (k : Nat) : Option T3 := match k with | 0 => none | k + 1 => cs[k]?
def vZoned (x : TZ) : Bool := inB 1 8 x.z && (decide (x.of.length ≤ 24) && (decide (x.ch.length ≤ 60) && (x.of.all (inB 0 (x.z - 1)) && chOk x.z none x.ch)))
theorem chOk_step {n : Int} {cs : List T3} {k : Nat} {c : T3} (h : cs[k]? = some c) : chOk n (prevOf cs k) (cs.drop k) = (okC n c && (okNext (prevOf cs k) c && chOk n (prevOf cs (k + 1)) (cs.drop (k + 1)))) := by
  rw [drop_cons h, chOk]
  have : prevOf cs (k + 1) = some c := h
  rw [this]

set_option maxRecDepth 100000 in
theorem isNaN_any (z : Int) (w : World) : Calls Tryd.prog 119 #[.int .i64 z] w fun e w' => e = .returned (.bool false) ∧ w = w' := by
  go_enter Tryd.func119, Tryd.ntmps119
  go_wp2_with fail
  go_ret
  exact ⟨ret_b (by simp), rfl⟩
set_option maxRecDepth 100000 in
theorem compare_any (a b : Int) (w : World) : Calls Tryd.prog 110 #[.int .i64 a, .int .i64 b] w fun e w' => e = .returned (.int .i64 (cmp3 a b)) ∧ w = w' := by
  by_cases h1 : a < b
  · have R := hide (show cmp3 a b = -1 by simp [cmp3, h1])
    go_enter Tryd.func110, Tryd.ntmps110
    go_wp2_with (go_at_call 119; refine (isNaN_any _ _).mono ?_; rintro e w' ⟨rfl, rfl⟩)
    go_ret
    exact ⟨by rw [R.out]; rfl, rfl⟩
  by_cases h2 : b < a
  · have R := hide (show cmp3 a b = 1 by simp [cmp3, h1, h2])
    go_enter Tryd.func110, Tryd.ntmps110
    go_wp2_with (go_at_call 119; refine (isNaN_any _ _).mono ?_; rintro e w' ⟨rfl, rfl⟩)
    go_ret
    exact ⟨by rw [R.out]; rfl, rfl⟩
  have R := hide (show cmp3 a b = 0 by simp [cmp3, h1, h2])
  go_enter Tryd.func110, Tryd.ntmps110
  go_wp2_with (go_at_call 119; refine (isNaN_any _ _).mono ?_; rintro e w' ⟨rfl, rfl⟩)
  go_ret
  exact ⟨by rw [R.out]; rfl, rfl⟩
theorem firstNZ_drop {ds : List Int} {k : Nat} {d : Int} (h : ds[k]? = some d) : firstNZ (ds.drop k) = if d = 0 then firstNZ (ds.drop (k + 1)) else d := by rw [drop_cons h, firstNZ]
set_option maxRecDepth 100000 in
set_option maxHeartbeats 1000000 in
theorem or_any (ds : List Int) (A : Option Addr) (c : Nat) (w : World) (hd : ds.length ≤ 1048576) (h1 : RdI w w.heap.size A ds) : Calls Tryd.prog 109 #[.slice A ds.length c] w fun e w' => e = .returned (.int .i64 (firstNZ ds)) ∧ w = w' := by
  have HX := hide h1; clear h1
  go_enter Tryd.func109, Tryd.ntmps109
  go_wp2_with fail
  go_loopg [8] ds.length (fun g i wr => ∃ k : Nat, k ≤ ds.length ∧ Hid (g = ds.length - k) ∧ i = .int .i64 k ∧ Hid (firstNZ ds = firstNZ (ds.drop k)) ∧ w = wr)
  case atStart => exact ⟨0, by omega, by simp [Hid], rfl, by simp [Hid], rfl⟩
  case round =>
    obtain ⟨k, hk, hg, rfl, HS, rfl⟩ := hrel
    by_cases hlt : k < ds.length
    · obtain ⟨b1, o1, z1, rfl, _, hz1, hc1⟩ := HX.out.at_ hlt
      have HS' := HS.out; rw [firstNZ_drop hz1] at HS'
      clear hz1
      by_cases hz : z1 = 0
      · subst hz
        have HQ := hide HS'; clear HS'
        go_wp2_with fail
        go_roundg (ds.length - (k + 1))
        case measure => have := hg.out; omega
        case rel => exact ⟨k + 1, by omega, rfl, by go_num, hide (by have := HQ.out; simpa using this), rfl⟩
      · have hne : (z1 != 0) = true := by simp [hz]
        have HQ := hide (HS'.trans (if_neg hz)); clear HS'
        go_wp2_with fail
        go_ret
        exact ⟨by rw [HQ.out]; rfl, rfl⟩
    · have HQ := hide (HS.out.trans (show firstNZ (ds.drop k) = 0 by rw [List.drop_eq_nil_of_le (by omega), firstNZ]))
      go_wp2_with fail
      go_ret
      exact ⟨by rw [HQ.out]; rfl, rfl⟩
set_option maxRecDepth 100000 in
set_option maxHeartbeats 4000000 in
theorem compareChanges_any (a b : T3) (w : World) : Calls Tryd.prog 84 #[.agg #[.int .i64 a.a, .int .i64 a.b, .int .i64 a.c], .agg #[.int .i64 b.a, .int .i64 b.b, .int .i64 b.c]] w fun e w' => e = .returned (.int .i64 (cmpC a b)) ∧ Below w.heap.size w w' := by
  have b0 : Below w.heap.size w ((w.alloc (.cells #[.int .i64 a.a, .int .i64 a.b, .int .i64 a.c] 41)).alloc (.cells #[.int .i64 b.a, .int .i64 b.b, .int .i64 b.c] 41)) := (by repeat (first | exact Below.refl _ _ | assumption | (refine Below.alloc ?_ (by simp <;> omega) _) | refine Below.drew ?_ | refine bdn ?_ _))
  have k0 : ((w.alloc (.cells #[.int .i64 a.a, .int .i64 a.b, .int .i64 a.c] 41)).alloc (.cells #[.int .i64 b.a, .int .i64 b.b, .int .i64 b.c] 41)).cell? ⟨w.heap.size, 0, none⟩ = some (.int .i64 a.a) := by simp [go_sem]
  have k1 : ((w.alloc (.cells #[.int .i64 a.a, .int .i64 a.b, .int .i64 a.c] 41)).alloc (.cells #[.int .i64 b.a, .int .i64 b.b, .int .i64 b.c] 41)).cell? ⟨w.heap.size, 1, none⟩ = some (.int .i64 a.b) := by simp [go_sem]
  have k2 : ((w.alloc (.cells #[.int .i64 a.a, .int .i64 a.b, .int .i64 a.c] 41)).alloc (.cells #[.int .i64 b.a, .int .i64 b.b, .int .i64 b.c] 41)).cell? ⟨w.heap.size + 1, 0, none⟩ = some (.int .i64 b.a) := by simp [go_sem]
  have k3 : ((w.alloc (.cells #[.int .i64 a.a, .int .i64 a.b, .int .i64 a.c] 41)).alloc (.cells #[.int .i64 b.a, .int .i64 b.b, .int .i64 b.c] 41)).cell? ⟨w.heap.size + 1, 1, none⟩ = some (.int .i64 b.b) := by simp [go_sem]
  have z0 : w.heap.size + 2 ≤ ((w.alloc (.cells #[.int .i64 a.a, .int .i64 a.b, .int .i64 a.c] 41)).alloc (.cells #[.int .i64 b.a, .int .i64 b.b, .int .i64 b.c] 41)).heap.size := by simp
  go_enter Tryd.func84, Tryd.ntmps84
  go_wp2_with fail
  generalize ((w.alloc (.cells #[.int .i64 a.a, .int .i64 a.b, .int .i64 a.c] 41)).alloc (.cells #[.int .i64 b.a, .int .i64 b.b, .int .i64 b.c] 41)) = w0 at *
  have e0 : w0.drew.cell? ⟨w.heap.size, 0, none⟩ = some (.int .i64 a.a) := k0
  have e1 : w0.drew.cell? ⟨w.heap.size, 1, none⟩ = some (.int .i64 a.b) := k1
  have e2 : w0.drew.cell? ⟨w.heap.size + 1, 0, none⟩ = some (.int .i64 b.a) := k2
  have e3 : w0.drew.cell? ⟨w.heap.size + 1, 1, none⟩ = some (.int .i64 b.b) := k3
  have bd : Below w.heap.size w w0.drew := b0.drew
  have zd : w.heap.size + 2 ≤ w0.drew.heap.size := z0
  have g0 : (w0.alloc (.cells #[.int .i64 (cmp3 a.a b.a), .int .i64 (cmp3 a.b b.b)] 3)).drew.cell? ⟨w.heap.size, 0, none⟩ = some (.int .i64 a.a) := (World.cell?_alloc_old _ _ _ (by dsimp only; omega)).trans e0
  have g1 : (w0.alloc (.cells #[.int .i64 (cmp3 a.a b.a), .int .i64 (cmp3 a.b b.b)] 3)).drew.cell? ⟨w.heap.size, 1, none⟩ = some (.int .i64 a.b) := (World.cell?_alloc_old _ _ _ (by dsimp only; omega)).trans e1
  have g2 : (w0.alloc (.cells #[.int .i64 (cmp3 a.a b.a), .int .i64 (cmp3 a.b b.b)] 3)).drew.cell? ⟨w.heap.size + 1, 0, none⟩ = some (.int .i64 b.a) := (World.cell?_alloc_old _ _ _ (by dsimp only; omega)).trans e2
  have g3 : (w0.alloc (.cells #[.int .i64 (cmp3 a.a b.a), .int .i64 (cmp3 a.b b.b)] 3)).drew.cell? ⟨w.heap.size + 1, 1, none⟩ = some (.int .i64 b.b) := (World.cell?_alloc_old _ _ _ (by dsimp only; omega)).trans e3
  have rd : RdI (w0.alloc (.cells #[.int .i64 (cmp3 a.a b.a), .int .i64 (cmp3 a.b b.b)] 3)).drew (w0.alloc (.cells #[.int .i64 (cmp3 a.a b.a), .int .i64 (cmp3 a.b b.b)] 3)).drew.heap.size (some ⟨w0.heap.size, 0, none⟩) [cmp3 a.a b.a, cmp3 a.b b.b] := ((rd_new w0 [.int .i64 (cmp3 a.a b.a), .int .i64 (cmp3 a.b b.b)] 3 _ rfl).more (by simp))
  have hl : [cmp3 a.a b.a, cmp3 a.b b.b].length ≤ 1048576 := by simp
  have hor := or_any [cmp3 a.a b.a, cmp3 a.b b.b] (some ⟨w0.heap.size, 0, none⟩) 2 _ hl rd
  change Calls _ _ #[.slice (some ⟨w0.heap.size, 0, none⟩) 2 2] _ _ at hor
  have br : Below w.heap.size w (w0.alloc (.cells #[.int .i64 (cmp3 a.a b.a), .int .i64 (cmp3 a.b b.b)] 3)).drew := (b0.alloc (by omega) _).drew
  go_region_held3 (fun W => W.cell? ⟨w.heap.size, 0, none⟩ = some (.int .i64 a.a) ∧ W.cell? ⟨w.heap.size, 1, none⟩ = some (.int .i64 a.b) ∧ W.cell? ⟨w.heap.size + 1, 0, none⟩ = some (.int .i64 b.a) ∧ W.cell? ⟨w.heap.size + 1, 1, none⟩ = some (.int .i64 b.b))
    (first | exact ⟨e0, e1, e2, e3⟩ | exact ⟨g0, g1, g2, g3⟩)
    (first | (go_at_call 110; refine (compare_any _ _ _).mono ?_; rintro e w' ⟨rfl, rfl⟩) | (go_at_call 109; (with_reducible refine hor.mono ?_); rintro e w' ⟨rfl, rfl⟩))
  go_wp2_with fail
  go_ret
  exact ⟨rfl, br⟩
set_option maxRecDepth 100000 in
set_option maxHeartbeats 4000000 in
theorem isChange_any (n : Int) (y : T3) (w : World) (hn0 : -1000000 ≤ n) (hn1 : n ≤ 1000000) :
    Calls Tryd.prog 68 #[.int .i64 n, .agg #[.int .i64 y.a, .int .i64 y.b, .int .i64 y.c]] w fun e w' => e = .returned (.bool (okC n y)) ∧ Below w.heap.size w w' := by
  by_cases h1 : 0 ≤ y.a ∧ y.a ≤ 10000
  case neg =>
    have h1' : y.a < 0 ∨ 10000 < y.a := by omega
    have HK := hide (show okC n y = false by simp [okC, inB_f h1'])
    clear h1
    go_enter Tryd.func68, Tryd.ntmps68
    go_wp2_with (go_at_call 60; first | (refine (within_t _ _ _ _ (by omega)).mono ?_; rintro e w' ⟨rfl, rfl⟩) | (refine (within_f _ _ _ _ (by omega)).mono ?_; rintro e w' ⟨rfl, rfl⟩))
    go_ret
    exact ⟨ret_b HK.out.symm, (by repeat (first | exact Below.refl _ _ | assumption | (refine Below.alloc ?_ (by simp <;> omega) _) | refine Below.drew ?_ | refine bdn ?_ _))⟩
  by_cases h2 : 0 ≤ y.b ∧ y.b ≤ n - 1
  case neg =>
    have h2' : y.b < 0 ∨ n - 1 < y.b := by omega
    have HK := hide (show okC n y = false by simp [okC, inB_f h2'])
    clear h2
    go_enter Tryd.func68, Tryd.ntmps68
    go_wp2_with (go_at_call 60; first | (refine (within_t _ _ _ _ (by omega)).mono ?_; rintro e w' ⟨rfl, rfl⟩) | (refine (within_f _ _ _ _ (by omega)).mono ?_; rintro e w' ⟨rfl, rfl⟩))
    go_ret
    exact ⟨ret_b HK.out.symm, (by repeat (first | exact Below.refl _ _ | assumption | (refine Below.alloc ?_ (by simp <;> omega) _) | refine Below.drew ?_ | refine bdn ?_ _))⟩
  by_cases h3 : -100 ≤ y.c ∧ y.c ≤ 100
  case neg =>
    have h3' : y.c < -100 ∨ 100 < y.c := by omega
    have HK := hide (show okC n y = false by simp [okC, inB_f h3'])
    clear h3
    go_enter Tryd.func68, Tryd.ntmps68
    go_wp2_with (go_at_call 60; first | (refine (within_t _ _ _ _ (by omega)).mono ?_; rintro e w' ⟨rfl, rfl⟩) | (refine (within_f _ _ _ _ (by omega)).mono ?_; rintro e w' ⟨rfl, rfl⟩))
    go_ret
    exact ⟨ret_b HK.out.symm, (by repeat (first | exact Below.refl _ _ | assumption | (refine Below.alloc ?_ (by simp <;> omega) _) | refine Below.drew ?_ | refine bdn ?_ _))⟩
  have HK := hide (okC_iff.2 ⟨h1, h2, h3⟩)
  go_enter Tryd.func68, Tryd.ntmps68
  go_wp2_with (go_at_call 60; first | (refine (within_t _ _ _ _ (by omega)).mono ?_; rintro e w' ⟨rfl, rfl⟩) | (refine (within_f _ _ _ _ (by omega)).mono ?_; rintro e w' ⟨rfl, rfl⟩))
  go_ret
  exact ⟨ret_b HK.out.symm, (by repeat (first | exact Below.refl _ _ | assumption | (refine Below.alloc ?_ (by simp <;> omega) _) | refine Below.drew ?_ | refine bdn ?_ _))⟩
set_option maxRecDepth 100000 in
set_option maxHeartbeats 4000000 in
theorem l09Change_any (n : Int) (y : T3) (b o : Nat) (w : World) (hn0 : -1000000 ≤ n) (hn1 : n ≤ 1000000) (k0 : w.cell? ⟨b, o, none⟩ = some (.int .i64 y.a)) (k1 : w.cell? ⟨b, o + 1, none⟩ = some (.int .i64 y.b)) (k2 : w.cell? ⟨b, o + 2, none⟩ = some (.int .i64 y.c)) :
    Calls Tryd.prog 66 #[.int .i64 n, .pointer (some ⟨b, o, none⟩)] w fun e w' => e = .returned (.bool (okC n y)) ∧ w = w' := by
  by_cases h1 : 0 ≤ y.a ∧ y.a ≤ 10000
  case neg =>
    have h1' : y.a < 0 ∨ 10000 < y.a := by omega
    have HK := hide (show okC n y = false by simp [okC, inB_f h1'])
    clear h1
    go_enter Tryd.func66, Tryd.ntmps66
    go_wp2_with (go_at_call 64; first | (refine (l00In_t _ _ _ _ (by omega)).mono ?_; rintro e w' ⟨rfl, rfl⟩) | (refine (l00In_f _ _ _ _ (by omega)).mono ?_; rintro e w' ⟨rfl, rfl⟩))
    go_ret
    exact ⟨ret_b HK.out.symm, rfl⟩
  by_cases h2 : 0 ≤ y.b ∧ y.b ≤ n - 1
  case neg =>
    have h2' : y.b < 0 ∨ n - 1 < y.b := by omega
    have HK := hide (show okC n y = false by simp [okC, inB_f h2'])
    clear h2
    go_enter Tryd.func66, Tryd.ntmps66
    go_wp2_with (go_at_call 64; first | (refine (l00In_t _ _ _ _ (by omega)).mono ?_; rintro e w' ⟨rfl, rfl⟩) | (refine (l00In_f _ _ _ _ (by omega)).mono ?_; rintro e w' ⟨rfl, rfl⟩))
    go_ret
    exact ⟨ret_b HK.out.symm, rfl⟩
  by_cases h3 : -100 ≤ y.c ∧ y.c ≤ 100
  case neg =>
    have h3' : y.c < -100 ∨ 100 < y.c := by omega
    have HK := hide (show okC n y = false by simp [okC, inB_f h3'])
    clear h3
    go_enter Tryd.func66, Tryd.ntmps66
    go_wp2_with (go_at_call 64; first | (refine (l00In_t _ _ _ _ (by omega)).mono ?_; rintro e w' ⟨rfl, rfl⟩) | (refine (l00In_f _ _ _ _ (by omega)).mono ?_; rintro e w' ⟨rfl, rfl⟩))
    go_ret
    exact ⟨ret_b HK.out.symm, rfl⟩
  have HK := hide (okC_iff.2 ⟨h1, h2, h3⟩)
  go_enter Tryd.func66, Tryd.ntmps66
  go_wp2_with (go_at_call 64; first | (refine (l00In_t _ _ _ _ (by omega)).mono ?_; rintro e w' ⟨rfl, rfl⟩) | (refine (l00In_f _ _ _ _ (by omega)).mono ?_; rintro e w' ⟨rfl, rfl⟩))
  go_ret
  exact ⟨ret_b HK.out.symm, rfl⟩
set_option maxRecDepth 100000 in
set_option maxHeartbeats 4000000 in
theorem l09Ok_any (x : TZ) (A : Option Addr) (c : Nat) (A2 : Option Addr) (c2 : Nat) (b : Nat) (w : World) (hs : Small_Zoned x) (c0 : w.cell? ⟨b, 0, none⟩ = some (.int .i64 x.z)) (c1 : w.cell? ⟨b, 1, none⟩ = some (.slice A x.of.length c)) (c3 : w.cell? ⟨b, 2, none⟩ = some (.slice A2 x.ch.length c2))
    (h1 : RdI w w.heap.size A x.of) (h2 : Rd3 w w.heap.size A2 x.ch) :
    Calls Tryd.prog 88 #[.pointer (some ⟨b, 0, none⟩)] w fun e w' => e = .returned (.bool (vZoned x)) ∧ Below w.heap.size w w' := by
  have HX := hide h1; have HM := hide h2
  have hbl := World.block_lt_of_cell? w _ c0
  obtain ⟨hs1, hs2⟩ := hs
  clear h1 h2
  by_cases g1 : 1 ≤ x.z ∧ x.z ≤ 8
  case neg =>
    have g1' : x.z < 1 ∨ 8 < x.z := by omega
    have HR := hide (show vZoned x = false by simp [vZoned, inB_f g1'])
    clear g1
    go_enter Tryd.func88, Tryd.ntmps88
    go_wp2_with (go_at_call 64; first | (refine (l00In_t _ _ _ _ (by omega)).mono ?_; rintro e w' ⟨rfl, rfl⟩) | (refine (l00In_f _ _ _ _ (by omega)).mono ?_; rintro e w' ⟨rfl, rfl⟩))
    go_ret
    exact ⟨ret_b HR.out.symm, (by repeat (first | exact Below.refl _ _ | assumption | (refine Below.alloc ?_ (by simp <;> omega) _) | refine Below.drew ?_ | refine bdn ?_ _))⟩
  obtain ⟨g1a, g1b⟩ := g1
  by_cases g2 : x.of.length ≤ 24
  case neg =>
    have HR := hide (show vZoned x = false by simp [vZoned, g2])
    go_enter Tryd.func88, Tryd.ntmps88
    go_wp2_with (go_at_call 64; first | (refine (l00In_t _ _ _ _ (by omega)).mono ?_; rintro e w' ⟨rfl, rfl⟩) | (refine (l00In_f _ _ _ _ (by omega)).mono ?_; rintro e w' ⟨rfl, rfl⟩))
    go_ret
    exact ⟨ret_b HR.out.symm, (by repeat (first | exact Below.refl _ _ | assumption | (refine Below.alloc ?_ (by simp <;> omega) _) | refine Below.drew ?_ | refine bdn ?_ _))⟩
  by_cases g3 : x.ch.length ≤ 60
  case neg =>
    have HR := hide (show vZoned x = false by simp [vZoned, g3])
    go_enter Tryd.func88, Tryd.ntmps88
    go_wp2_with (go_at_call 64; first | (refine (l00In_t _ _ _ _ (by omega)).mono ?_; rintro e w' ⟨rfl, rfl⟩) | (refine (l00In_f _ _ _ _ (by omega)).mono ?_; rintro e w' ⟨rfl, rfl⟩))
    go_ret
    exact ⟨ret_b HR.out.symm, (by repeat (first | exact Below.refl _ _ | assumption | (refine Below.alloc ?_ (by simp <;> omega) _) | refine Below.drew ?_ | refine bdn ?_ _))⟩
  have HV := hide (show vZoned x = (x.of.all (inB 0 (x.z - 1)) && chOk x.z none x.ch) by unfold vZoned; rw [inB_t ⟨g1a, g1b⟩, decide_eq_true g2, decide_eq_true g3]; rfl)
  have C0 := hide c0; have C1 := hide c1; have C3 := hide c3
  go_enter Tryd.func88, Tryd.ntmps88
  go_wp2_with (go_at_call 64; first | (refine (l00In_t _ _ _ _ (by omega)).mono ?_; rintro e w' ⟨rfl, rfl⟩) | (refine (l00In_f _ _ _ _ (by omega)).mono ?_; rintro e w' ⟨rfl, rfl⟩))
  go_loopg [3] x.of.length (fun g i wr => ∃ k : Nat, k ≤ x.of.length ∧ Hid (g = x.of.length - k) ∧ i = .int .i64 k ∧ Hid (x.of.all (inB 0 (x.z - 1)) = (x.of.drop k).all (inB 0 (x.z - 1))) ∧ Below w.heap.size w wr)
  case atStart => exact ⟨0, by omega, by simp [Hid], rfl, by simp [Hid], Below.refl _ _⟩
  case round =>
    obtain ⟨k, hk, hg, rfl, HS, hb⟩ := hrel
    clear c0 c1 c3
    have k0 := (hb.cell (p := ⟨b, 0, none⟩) hbl).trans C0.out
    have k1 := (hb.cell (p := ⟨b, 1, none⟩) hbl).trans C1.out
    have k3 := (hb.cell (p := ⟨b, 2, none⟩) hbl).trans C3.out
    by_cases hlt : k < x.of.length
    · obtain ⟨b1, o1, z1, rfl, _, hz1, hca⟩ := (HX.out.below hb).at_ hlt
      have HS' := HS.out; rw [all_drop _ _ _ _ hz1] at HS'
      have HQ := hide HS'; clear HS' hz1
      by_cases hz : 0 ≤ z1 ∧ z1 ≤ x.z - 1
      · have HB := hide (inB_t hz)
        obtain ⟨hz0, hz9⟩ := hz
        go_wp2_with fail
        go_quiet ((go_at_call 64; first | exact ql (l00In_t _ _ _ _ (by omega)) | exact ql (l00In_f _ _ _ _ (by omega)) | exact qla (l00In_t _ _ _ _ (by omega)) | exact qla (l00In_f _ _ _ _ (by omega))))
        go_wp2_with fail
        go_roundg (x.of.length - (k + 1))
        case measure => have := hg.out; omega
        case rel => exact ⟨k + 1, by omega, rfl, by go_num, hide (by have := HQ.out; rw [HB.out] at this; simpa using this), bdn hb _⟩
      · have hz' : z1 < 0 ∨ x.z - 1 < z1 := by omega
        have HB := hide (inB_f hz')
        clear hz
        go_wp2_with fail
        go_quiet ((go_at_call 64; first | exact ql (l00In_t _ _ _ _ (by omega)) | exact ql (l00In_f _ _ _ _ (by omega)) | exact qla (l00In_t _ _ _ _ (by omega)) | exact qla (l00In_f _ _ _ _ (by omega))))
        go_wp2_with fail
        go_ret
        exact ⟨ret_b (by rw [HV.out, HQ.out, HB.out]; rfl), bdn hb _⟩
    · have HA : Hid (vZoned x = chOk x.z none x.ch) := by
        have := HS.out; rw [List.drop_eq_nil_of_le (by omega)] at this
        have h := HV.out; rw [this] at h; exact h
      clear HS HX
      go_wp2_with fail
      clear k0 k1 k3
      go_loopg [4] x.ch.length (fun g i wr => ∃ k : Nat, k ≤ x.ch.length ∧ Hid (g = x.ch.length - k) ∧ i = .int .i64 k ∧ Hid (chOk x.z none x.ch = chOk x.z (prevOf x.ch k) (x.ch.drop k)) ∧ Below w.heap.size w wr)
      case atStart => exact ⟨0, by omega, by simp [Hid], rfl, by simp [Hid, prevOf], hb⟩
      case round =>
        clear hb hg hk hlt
        obtain ⟨k, hk, hg, rfl, HS, hb⟩ := hrel
        have k0 := (hb.cell (p := ⟨b, 0, none⟩) hbl).trans C0.out
        have k3 := (hb.cell (p := ⟨b, 2, none⟩) hbl).trans C3.out
        by_cases hlt : k < x.ch.length
        · obtain ⟨b1, o1, z1, rfl, hb1, hz1, hca, hcb, hcc⟩ := (HM.out.below hb).at_ hlt
          have HS' := HS.out; rw [chOk_step hz1] at HS'
          have HQ := hide HS'; have HZ := hide hz1; clear HS' hz1 HS
          have hn0 : -1000000 ≤ x.z := by omega
          have hn1 : x.z ≤ 1000000 := by omega
          cases hok : okC x.z z1
          · rw [hok] at HQ
            have HL := hide fun n => l09Change_any x.z z1 b1 (o1 + k * 3) (wr.drewN n) hn0 hn1 hca hcb hcc
            rw [hok] at HL
            clear hok
            go_wp2_with fail
            go_quiet ((go_at_call 66; exact ql (HL.out _)))
            go_wp2_with fail
            go_ret
            exact ⟨ret_b (by rw [HA.out, HQ.out]; rfl), bdn hb _⟩
          · rw [hok] at HQ
            have HL := hide fun n => l09Change_any x.z z1 b1 (o1 + k * 3) (wr.drewN n) hn0 hn1 hca hcb hcc
            rw [hok] at HL
            clear hok
            cases k with
            | zero =>
              go_wp2_with fail
              go_quiet ((go_at_call 66; exact ql (HL.out _)))
              go_wp2_with fail
              go_roundg (x.ch.length - (0 + 1))
              case measure => have := hg.out; omega
              case rel => exact ⟨1, by omega, rfl, by go_num, hide (by have := HQ.out; simpa [okNext, prevOf] using this), bdn hb _⟩
            | succ j =>
              obtain ⟨b2, o2, z2, he, _, hz2, hda, hdb, hdc⟩ := (HM.out.below hb).at_ (show j < x.ch.length by omega)
              cases he
              have HZ2 := hide (show prevOf x.ch (j + 1) = some z2 from hz2)
              clear hz2
              go_wp2_with fail
              go_quiet ((go_at_call 66; exact ql (HL.out _)))
              have bq : Below w.heap.size w (wr.drewN nq) := bdn hb nq
              have e0 : (wr.drewN nq).cell? _ = _ := k0
              have e3 : (wr.drewN nq).cell? _ = _ := k3
              have ea : (wr.drewN nq).cell? _ = _ := hca
              have eb : (wr.drewN nq).cell? _ = _ := hcb
              have ec : (wr.drewN nq).cell? _ = _ := hcc
              have da : (wr.drewN nq).cell? _ = _ := hda
              have db : (wr.drewN nq).cell? _ = _ := hdb
              have dc : (wr.drewN nq).cell? _ = _ := hdc
              clear k0 k3 hca hcb hcc hda hdb hdc HL hb
              generalize wr.drewN nq = wq at *
              have hl1 := World.block_lt_of_cell? wq _ ea
              have hl0 := World.block_lt_of_cell? wq _ e0
              dsimp only at hl1 hl0
              have hsq := bq.size
              by_cases hc1 : z1.a < z2.a
              · have HP := hide (show ltC z2 z1 = false by simp [ltC]; omega)
                go_wp2_with fail
                go_ret
                exact ⟨ret_b (by rw [HA.out, HQ.out, HZ2.out]; simp [okNext, HP.out]), (bq.alloc hsq _).alloc (by simp; omega) _⟩
              by_cases hc2 : z2.a < z1.a
              · have HP := hide (show ltC z2 z1 = true by simp [ltC]; omega)
                have hc3 : decide (z2.a = z1.a) = false := decide_eq_false (by omega)
                go_wp2_with fail
                go_roundg (x.ch.length - (j + 1 + 1))
                case measure => have := hg.out; omega
                case rel => exact ⟨j + 1 + 1, by omega, rfl, by go_num, hide (by have := HQ.out; rw [HZ2.out] at this; simpa [okNext, HP.out] using this), (bq.alloc hsq _).alloc (by simp; omega) _⟩
              have hc3 : z2.a = z1.a := by omega
              by_cases hc4 : z1.b ≤ z2.b
              · have HP := hide (show ltC z2 z1 = false by simp [ltC]; omega)
                go_wp2_with fail
                go_ret
                exact ⟨ret_b (by rw [HA.out, HQ.out, HZ2.out]; simp [okNext, HP.out]), (bq.alloc hsq _).alloc (by simp; omega) _⟩
              · have HP := hide (show ltC z2 z1 = true by simp [ltC]; omega)
                go_wp2_with fail
                go_roundg (x.ch.length - (j + 1 + 1))
                case measure => have := hg.out; omega
                case rel => exact ⟨j + 1 + 1, by omega, rfl, by go_num, hide (by have := HQ.out; rw [HZ2.out] at this; simpa [okNext, HP.out] using this), (bq.alloc hsq _).alloc (by simp; omega) _⟩
        · have HE := hide (HA.out.trans (HS.out.trans (by rw [List.drop_eq_nil_of_le (by omega), chOk])))
          go_wp2_with fail
          go_ret
          exact ⟨ret_b (by rw [HE.out]), hb⟩
end Go.Proofs.YtofjnmeblmbnmaaDoor
