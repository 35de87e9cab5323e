/-
  Levels and tubes with pressure: what the told ticks and tubes have. Plain lemmas.
  Zones: a change that is added. Plain lemmas.
  The order by ascending numbers; in the reference.
  The order that the laws draw: an order of n things.
  Zones for oneself.
-/
import Derived.Test.YtklfjekpeoigoaaQPressed9
import Derived.Test.YtklfjekpeoigoaaQPressed8
import Derived.Test.YtklfjekpeoigoaaQPressed10
import Derived.Test.YtklfjekpeoigoaaQPressed15
import Derived.Test.YtklfjekpeoigoaaQPressed14
import Derived.Test.YtklfjekpeoigoaaQPressed2
import Derived.Test.YtklfjekpeoigoaaRows
import Derived.ProofKit
import Derived.Deep.RegionHeld3
namespace Go.Proofs.Ytklfjekpeoigoaa
open Go.RowKit

theorem own_zone {x : TZ} {k z : Int} (h : z ∈ (tubesOfZone x k).1) : ∃ i : Nat, z = (i : Int) ∧ x.of[i]? = some k := by
  unfold tubesOfZone at h
  split at h
  · dsimp only at h
    obtain ⟨j, u, hz, hu, hp⟩ := (idx_mem _ _ _ _).1 h
    refine ⟨j, by omega, ?_⟩
    rw [hu, of_decide_eq_true hp]
  · cases h
theorem ownT_len (x : TZ) (k : Int) : (tubesOfZone x k).1.length ≤ x.of.length := by
  unfold tubesOfZone
  split
  · exact idxFrom_len _ _ _
  · simp
theorem pushed_len (x : TZ) (k : Int) : (pushedAt x k).1.length ≤ x.of.length := by
  unfold pushedAt
  split
  · exact idxFrom_len _ _ _
  · simp
theorem goodB_all {p : Int → Bool} {ticks b : Int} (h : goodB p ticks b = true) {s : Int} (h1 : b ≤ s) (h2 : s < b + ticks) (h3 : s ≤ 10000) : p s = true := by
  cases hp : p s
  · rw [goodB_f h1 h2 h3 hp] at h; cases h
  · rfl
theorem faTup_ok {r : Int} (h : (faTup r).2 = 0) : 0 ≤ r ∧ (faTup r).1 = r := by
  unfold faTup at h ⊢
  split
  · rename_i h1; rw [if_pos h1] at h; cases h
  · exact ⟨by omega, rfl⟩
theorem ready_ok {x : TZ} {way : List Int} {fr : Int} (h : (readyAt x way fr).2 = 0) : (vZoned x = true ∧ way.length ≤ 24) ∧ (0 ≤ fr ∧ fr ≤ (readyAt x way fr).1 ∧ (readyAt x way fr).1 ≤ 10000) ∧ (pushedAt x (readyAt x way fr).1).2 = 0 ∧ ∀ u ∈ way, hasI (pushedAt x (readyAt x way fr).1).1 u = true := by
  unfold readyAt at h ⊢
  by_cases hc : codeWT x way fr = 0
  · rw [if_pos hc] at h ⊢
    obtain ⟨hw, hfr⟩ := codeWT_ok hc
    obtain ⟨hv, hl, hin⟩ := codeW_ok hw
    obtain ⟨h0, he⟩ := faTup_ok h
    rw [he]
    rcases findFrom_spec (q := ready x way) (10001 - fr).toNat fr with ⟨h1, _⟩ | ⟨h1, h2, h3, _⟩
    · unfold raOf at h0; omega
    · change fr ≤ raOf (ready x way) fr at h1
      change raOf (ready x way) fr < _ at h2
      change ready x way (raOf (ready x way) fr) = true at h3
      generalize raOf (ready x way) fr = r at *
      have hz := (vZoned_iff hv).1
      have hp : codeZ x 0 r = 0 := by unfold codeZ; rw [if_pos hv, if_pos ⟨⟨by omega, by omega⟩, by omega, by omega⟩]
      refine ⟨⟨hv, hl⟩, ⟨hfr.1, h1, by omega⟩, by unfold pushedAt; rw [if_pos hp], fun u hu => ?_⟩
      have hru := List.all_eq_true.1 h3 u hu
      have hub := hin u hu
      obtain ⟨y, hy⟩ : ∃ y, x.of[u.toNat]? = some y := ⟨_, List.getElem?_eq_getElem (by omega)⟩
      rw [hasI_mem]
      unfold pushedAt
      rw [if_pos hp]
      refine (idx_mem _ _ _ _).2 ⟨u.toNat, y, by omega, hy, ?_⟩
      simpa [atD, hy] using hru
  · rw [if_neg hc] at h
    exact (hc h).elim
theorem first_ok {x : TZ} {zone least fr ticks : Int} (h : (firstAbove x zone least fr ticks).2 = 0) : (fr ≤ (firstAbove x zone least fr ticks).1 ∧ 0 ≤ (firstAbove x zone least fr ticks).1 ∧ (firstAbove x zone least fr ticks).1 ≤ 10000 ∧ 1 ≤ ticks ∧ ticks ≤ 10000) ∧
    ((firstAbove x zone least fr ticks).1 + ticks ≤ 10000 → (ticksAbove x zone least (firstAbove x zone least fr ticks).1).2 = 0 ∧ (ticksAbove x zone least ((firstAbove x zone least fr ticks).1 + ticks)).2 = 0 ∧
      (ticksAbove x zone least ((firstAbove x zone least fr ticks).1 + ticks)).1 - (ticksAbove x zone least (firstAbove x zone least fr ticks).1).1 = ticks) := by
  unfold firstAbove at h ⊢
  by_cases hc : codeZ x zone fr = 0
  · rw [if_pos hc] at h ⊢
    obtain ⟨hv, hz, hfr⟩ := codeZ_ok hc
    by_cases hl : (-100 ≤ least ∧ least ≤ 100) ∧ (1 ≤ ticks ∧ ticks ≤ 10000)
    · rw [if_pos hl] at h ⊢
      obtain ⟨h0, he⟩ := faTup_ok h
      rw [he]
      rcases findFrom_spec (q := goodB (fun t => geB least (lvl x.ch zone t)) ticks) (10001 - fr).toNat fr with ⟨h1, _⟩ | ⟨h1, h2, h3, _⟩
      · unfold faOf at h0; omega
      · change fr ≤ faOf _ fr ticks at h1
        change faOf _ fr ticks < _ at h2
        change goodB _ ticks (faOf _ fr ticks) = true at h3
        generalize faOf (fun t => geB least (lvl x.ch zone t)) fr ticks = r at *
        refine ⟨⟨h1, h0, by omega, hl.2⟩, fun hr => ?_⟩
        have c1 : codeZ x zone r = 0 := by unfold codeZ; rw [if_pos hv, if_pos ⟨hz, by omega, by omega⟩]
        have c2 : codeZ x zone (r + ticks) = 0 := by unfold codeZ; rw [if_pos hv, if_pos ⟨hz, by omega, by omega⟩]
        unfold ticksAbove
        rw [if_pos c1, if_pos c2, if_pos hl.1, if_pos hl.1]
        refine ⟨rfl, rfl, ?_⟩
        dsimp only
        have hn := cntAt_from (p := fun t => geB least (lvl x.ch zone t)) (b := true) (m := r.toNat) (n := (r + ticks).toNat) (by omega) (fun t ht1 ht2 => goodB_all h3 (by omega) (by omega) (by omega))
        rw [hn, if_pos rfl]
        omega
    · rw [if_neg hl] at h; cases h
  · rw [if_neg hc] at h
    exact (hc h).elim
end Go.Proofs.Ytklfjekpeoigoaa
namespace Go.Proofs.Ytklfjekpeoigoaa
open Go.RowKit

def posC (cs : List T3) (c : T3) : Nat := (cs.takeWhile fun x => ltC x c).length
def hasC (cs : List T3) (c : T3) : Bool := cs.any fun x => decide (x.a = c.a ∧ x.b = c.b)
def insC (cs : List T3) (c : T3) : List T3 := cs.take (posC cs c) ++ c :: cs.drop (posC cs c)
def addChange (x : TZ) (c : T3) : TZ × Int :=
  if vZoned x = false then (⟨0, [], []⟩, 1) else if okC x.z c = false then (⟨0, [], []⟩, 2) else if hasC x.ch c = true then (⟨0, [], []⟩, 4) else if 60 ≤ x.ch.length then (⟨0, [], []⟩, 5) else (⟨x.z, x.of, insC x.ch c⟩, 0)
theorem ltC_trans {a b c : T3} (h1 : ltC a b = true) (h2 : ltC b c = true) : ltC a c = true := by
  rw [ltC_iff] at *; omega
theorem ltC_flip {a c : T3} (h : ltC c a = false) (hne : ¬ (a.a = c.a ∧ a.b = c.b)) : ltC a c = true := by
  have h1 : ¬ (c.a < a.a ∨ (c.a = a.a ∧ c.b < a.b)) := by rw [← ltC_iff, h]; simp
  rw [ltC_iff]; omega
theorem ltC_asym {a c : T3} (h : ltC c a = true) : ltC a c = false := by
  rw [Bool.eq_false_iff]; intro h2; rw [ltC_iff] at h h2; omega
theorem pos_eq {c : T3} : ∀ {cs : List T3} {k : Nat}, k ≤ cs.length → (∀ j x, j < k → cs[j]? = some x → ltC x c = true) → (∀ x, cs[k]? = some x → ltC x c = false) → posC cs c = k := by
  intro cs
  induction cs with
  | nil => intro k hk _ _; simp at hk; subst hk; rfl
  | cons y cs ih =>
    intro k hk h1 h2
    cases k with
    | zero => have := h2 y rfl; simp [posC, List.takeWhile, this]
    | succ k =>
      have h0 := h1 0 y (by omega) rfl
      have h3 := ih (k := k) (by simpa using hk) (fun j x hj hx => h1 (j + 1) x (by omega) (by simpa using hx)) (fun x hx => h2 x (by simpa using hx))
      unfold posC at h3 ⊢
      rw [List.takeWhile_cons, if_pos h0, List.length_cons, h3]
theorem pos_end {cs : List T3} {c : T3} {k : Nat} (hp : cs.Pairwise fun a b => ltC a b = true) (hno : hasC cs c = false) (hk : k ≤ cs.length) (h2 : ∀ x, cs[k]? = some x → ltC c x = true) (h3 : k = 0 ∨ ∃ x, cs[k - 1]? = some x ∧ ltC c x = false) : posC cs c = k := by
  refine pos_eq hk (fun j x hj hx => ?_) (fun x hx => ltC_asym (h2 x hx))
  rcases h3 with h3 | ⟨y, hy, hyc⟩
  · omega
  · have hne : ¬ (y.a = c.a ∧ y.b = c.b) := by
      have := List.any_eq_false.1 hno y (List.mem_of_getElem? hy)
      simpa using this
    have hyl := ltC_flip hyc hne
    by_cases hjk : j = k - 1
    · subst hjk; rw [hy] at hx; simp only [Option.some.injEq] at hx; subst hx; exact hyl
    · obtain ⟨hj1, rfl⟩ := List.getElem?_eq_some_iff.1 hx
      obtain ⟨hk1, rfl⟩ := List.getElem?_eq_some_iff.1 hy
      exact ltC_trans (List.pairwise_iff_getElem.1 hp j (k - 1) hj1 hk1 (by omega)) hyl
theorem pos_le (cs : List T3) (c : T3) : posC cs c ≤ cs.length := by
  unfold posC
  induction cs with
  | nil => simp
  | cons y cs ih => rw [List.takeWhile_cons]; split <;> simp <;> omega
theorem insC_len (cs : List T3) (c : T3) : (insC cs c).length = cs.length + 1 := by
  have := pos_le cs c
  rw [insC, List.length_append, List.length_cons, List.length_take, List.length_drop]; omega
theorem insC_mem {cs : List T3} {c x : T3} (h : x ∈ insC cs c) : x = c ∨ x ∈ cs := by
  rw [insC, List.mem_append, List.mem_cons] at h
  rcases h with h | h | h
  · exact .inr (List.mem_of_mem_take h)
  · exact .inl h
  · exact .inr (List.mem_of_mem_drop h)
theorem addChange_ok {x : TZ} {c : T3} (h : (addChange x c).2 = 0) : (addChange x c).1 = ⟨x.z, x.of, insC x.ch c⟩ ∧ x.ch.length < 60 ∧ vZoned x = true ∧ okC x.z c = true ∧ hasC x.ch c = false := by
  unfold addChange at h ⊢
  by_cases h1 : vZoned x = false
  · rw [if_pos h1] at h; cases h
  · rw [if_neg h1] at h ⊢
    by_cases h2 : okC x.z c = false
    · rw [if_pos h2] at h; cases h
    · rw [if_neg h2] at h ⊢
      by_cases h3 : hasC x.ch c = true
      · rw [if_pos h3] at h; cases h
      · rw [if_neg h3] at h ⊢
        by_cases h4 : 60 ≤ x.ch.length
        · rw [if_pos h4] at h; cases h
        · rw [if_neg h4] at h ⊢
          exact ⟨rfl, by omega, by simpa using h1, by simpa using h2, by simpa using h3⟩
end Go.Proofs.Ytklfjekpeoigoaa
namespace Go.Proofs.Ytklfjekpeoigoaa
open Go.RowKit

def keyOf (ks : List Int) (i : Int) : Int := (ks[i.toNat]?).getD 0
def outAt (out : List Int) (k : Nat) : Int := (out[k]?).getD 0
/-- Where a number is laid, seen from k downward. -/
def posGo (ks out : List Int) (i : Int) : Nat → Nat
  | 0 => 0
  | k + 1 => if keyOf ks i < keyOf ks (outAt out k) then posGo ks out i k else k + 1
def insK (ks out : List Int) (i : Int) : List Int := out.take (posGo ks out i out.length) ++ i :: out.drop (posGo ks out i out.length)
def sortK (ks : List Int) : Nat → List Int
  | 0 => []
  | n + 1 => insK ks (sortK ks n) n
theorem posGo_le (ks out : List Int) (i : Int) : ∀ k, posGo ks out i k ≤ k := by
  intro k
  induction k with
  | zero => exact Nat.le_refl _
  | succ k ih => rw [posGo]; split <;> omega
theorem insK_len (ks out : List Int) (i : Int) : (insK ks out i).length = out.length + 1 := by
  have := posGo_le ks out i out.length
  unfold insK; simp; omega
theorem sortK_len (ks : List Int) : ∀ n, (sortK ks n).length = n := by
  intro n
  induction n with
  | zero => rfl
  | succ n ih => rw [sortK, insK_len, ih]
theorem sortK_in (ks : List Int) : ∀ n, ∀ z ∈ sortK ks n, 0 ≤ z ∧ z < n := by
  intro n
  induction n with
  | zero => intro z hz; cases hz
  | succ n ih =>
    intro z hz
    rw [sortK, insK] at hz
    rcases List.mem_append.1 hz with hz | hz
    · have := ih z (List.mem_of_mem_take hz); omega
    · rcases List.mem_cons.1 hz with rfl | hz
      · omega
      · have := ih z (List.mem_of_mem_drop hz); omega
theorem key_get {ks : List Int} {n : Nat} {z : Int} (h : ks[n]? = some z) : keyOf ks (n : Int) = z := by simp [keyOf, h]
theorem RdI.drop {w : World} {B b o : Nat} {xs : List Int} (h : RdI w B (some ⟨b, o, none⟩) xs) (k : Nat) : RdI w B (some ⟨b, o + k, none⟩) (xs.drop k) := fun hn => by
  obtain ⟨b', o', hA, hb, hc⟩ := h (by intro e; apply hn; rw [List.map_eq_nil_iff] at e; rw [e]; simp)
  cases hA
  refine ⟨_, _, rfl, hb, fun j u hu => ?_⟩
  rw [List.getElem?_map, List.getElem?_drop, ← List.getElem?_map] at hu
  rw [Nat.add_assoc]
  exact hc _ _ hu
end Go.Proofs.Ytklfjekpeoigoaa
namespace Go.Proofs.Ytklfjekpeoigoaa
open Go.ChangeShapes Go.WideShapes Go.ChangeAt Go.RowKit

def GoodTo (k : Nat) (xs : List Int) : Prop := xs.length = k ∧ (∀ z ∈ xs, 0 ≤ z ∧ z < k) ∧ xs.Nodup
theorem GoodTo.insert {k : Nat} {xs : List Int} (h : GoodTo k xs) (j : Nat) : GoodTo (k + 1) (xs.take j ++ [(k : Int)] ++ xs.drop j) := by
  obtain ⟨h1, h2, h3⟩ := h
  have hp : (xs.take j ++ [(k : Int)] ++ xs.drop j).Perm ((k : Int) :: xs) := by
    have h : (xs.take j ++ ((k : Int) :: xs.drop j)).Perm ((k : Int) :: (xs.take j ++ xs.drop j)) := List.perm_middle
    rw [List.take_append_drop] at h
    rw [List.append_assoc]
    exact h
  refine ⟨by rw [hp.length_eq, List.length_cons, h1], fun z hz => ?_, hp.nodup_iff.2 (List.nodup_cons.2 ⟨fun hm => ?_, h3⟩)⟩
  · rcases List.mem_cons.1 (hp.mem_iff.1 hz) with rfl | hz
    · omega
    · have := h2 z hz; omega
  · have := h2 _ hm; omega
set_option maxRecDepth 100000 in
set_option maxHeartbeats 1000000 in
theorem own00_any (xs : List Int) (A : Option Addr) (c : Nat) (w : World) (hx : xs.length ≤ 1048576) (h1 : RdI w w.heap.size A xs) :
    Calls Try.prog 137 #[.slice A xs.length c] w fun e w' => ∃ A' c', e = .returned (.slice A' xs.length c') ∧ w'.ownsRow w.heap.size 2 1 (.slice A' xs.length c') xs.length (xs.map (Value.int .i64)) ∧ Below w.heap.size w w' := by
  obtain ⟨i0, hi0, hz0, hs0, hb0⟩ := info_parts int64_info
  have HX := hide h1; clear h1
  go_enter Try.func137, Try.ntmps137
  have ho0 := own_new0 w w.heap.size 2 1 (Nat.le_refl _)
  have hb1 : Below w.heap.size w (w.alloc (.cells #[] 2)) := (Below.refl _ _).alloc (Nat.le_refl _) _
  have HR := hide (Rd.below HX.out hb1)
  go_wp2_with (at_builtin; go_must (refine wp_app _ rfl _ _ 22 rfl w.heap.size 2 i0 (.int .i64 0) 1 8 Try.underlying22 hi0 hz0 hs0 hb0 rfl (by decide) _ _ _ rfl ho0 _ _ xs.length c _ rfl (by simp) HR.out (ints_one _) (by omega) (by decide) (by simp) ?_); intro v' w1 hown' hgrow hat)
  go_ret
  simp only [Nat.zero_add, List.nil_append] at hown'
  obtain ⟨A', c', rfl, _⟩ := own_shape hown'
  exact ⟨A', c', rfl, hown', app_below hb1 ho0 hgrow (Nat.le_refl _) (by simp)⟩
end Go.Proofs.Ytklfjekpeoigoaa
namespace Go.Proofs.Ytklfjekpeoigoaa
open Go.RowKit
theorem Change_inf : (Try.prog.info? 118).map (fun i => (i.zero, i.size, i.bytes)) = some (some (.agg #[.int .i64 0, .int .i64 0, .int .i64 0]), 3, 24) := by kernel_rfl
set_option maxRecDepth 100000 in
set_option maxHeartbeats 8000000 in
theorem l09Own_any (x : TZ) (A : Option Addr) (c : Nat) (A2 : Option Addr) (c2 : Nat) (b : Nat) (w : World) (hs : Small_Zoned x) (X : BoxN w b #[.int .i64 x.z, .slice A x.of.length c, .slice A2 x.ch.length c2] 114) (h1 : RdI w w.heap.size A x.of) (h2 : Rd3 w w.heap.size A2 x.ch) :
    Calls Try.prog 204 #[.pointer (some ⟨b, 0, none⟩)] w fun e w' => ∃ (A' : Option Addr) (c' : Nat) (A2' : Option Addr) (c2' : Nat), e = .returned (.agg #[.int .i64 x.z, .slice A' x.of.length c', .slice A2' x.ch.length c2']) ∧
      w'.ownsRow w.heap.size 2 1 (.slice A' x.of.length c') x.of.length (x.of.map (Value.int .i64)) ∧ w'.ownsRow w.heap.size 118 3 (.slice A2' x.ch.length c2') x.ch.length (x.ch.flatMap T3.cells) ∧
      (∀ g, (Value.slice A' x.of.length c').ownBlock = some g → (Value.slice A2' x.ch.length c2').ownBlock ≠ some g) ∧ Below w.heap.size w w' := by
  obtain ⟨i0, hi0, hz0, hs0, hb0⟩ := info_parts Change_inf
  have hxl := X.lt
  obtain ⟨hs1, hs2⟩ := hs
  have X0 := hide (X.alloc (.cells #[.int .i64 0, .slice none 0 0, .slice none 0 0] 114))
  have Y0 := hide (BoxN.new w #[.int .i64 0, .slice none 0 0, .slice none 0 0] 114)
  have b0 : Below w.heap.size w (w.alloc (.cells #[.int .i64 0, .slice none 0 0, .slice none 0 0] 114)) := (Below.refl _ _).alloc (Nat.le_refl _) _
  have HX := hide h1; have HM := hide h2
  have hz : (w.alloc (.cells #[.int .i64 0, .slice none 0 0, .slice none 0 0] 114)).heap.size = w.heap.size + 1 := by simp
  clear h1 h2 X
  go_enter Try.func204, Try.ntmps204
  go_wp2_with fail
  have BD := hide b0.drew
  have XD := hide (X0.out.below (Below.refl _ _).drew X0.out.lt)
  have YD := hide (Y0.out.below (Below.refl _ _).drew Y0.out.lt)
  have e0 := XD.out.cell 0
  have e1 := XD.out.cell 1
  have e2 := XD.out.cell 2
  have hzd : w.heap.size + 1 ≤ (w.alloc (.cells #[.int .i64 0, .slice none 0 0, .slice none 0 0] 114)).drew.heap.size := Nat.le_of_eq hz.symm
  clear b0 X0 Y0 hz
  refine wp_region_held_drew (S := fun W => W.cell? ⟨b, 0, none⟩ = some (.int .i64 x.z) ∧ W.cell? ⟨b, 1, none⟩ = some (.slice A x.of.length c) ∧ W.cell? ⟨b, 2, none⟩ = some (.slice A2 x.ch.length c2)) (by kernel_rfl) (⟨e0, e1, e2⟩) (fun hHeld => ?_)
  generalize (w.alloc (.cells #[.int .i64 0, .slice none 0 0, .slice none 0 0] 114)).drew = wd at *
  clear e0 e1 e2
  have HO := hide fun W (hW : Below wd.heap.size wd W) => own00_any x.of A c W hs1 ((HX.out.below (BD.out.trans (hW.mono BD.out.size))).more (BD.out.trans (hW.mono BD.out.size)).size)
  have HR2 := hide fun W (hW : Below wd.heap.size wd W) => ((HM.out.below (BD.out.trans (hW.mono BD.out.size))).more (BD.out.trans (hW.mono BD.out.size)).size)
  have hnw : ∀ {e : TypeId} {sz n : Nat} {v : Value} {xs : List Value} (w6 : World), w6.ownsRow (w.heap.size + 1) e sz v n xs → v.ownBlock ≠ some w.heap.size := fun w6 h e => by have := (h.lt _ e).1; omega
  refine wpAnyH_take (i := 0) (v := ?_) rfl (by kernel_rfl) (by kernel_rfl) (by kernel_rfl) (fun _ _ _ h => h) (Or.inl ⟨by rfl, ?_⟩) (by assumption) ?_
  rotate_left 1
  · (intro w hSw; (try dsimp only at hSw); go_simp; try with_reducible rfl)
  try simp only [Act.put, List.getElem_toArray, List.getElem_cons_succ, List.getElem_cons_zero, List.setIfInBounds_toArray, List.set_cons_zero, List.set_cons_succ]
  refine wpAnyH_take (i := 1) (v := ?_) rfl (by kernel_rfl) (by kernel_rfl) (by kernel_rfl) (fun _ _ _ h => h) (Or.inl ⟨by rfl, ?_⟩) (by assumption) ?_
  rotate_left 1
  · (intro w hSw; (try dsimp only at hSw); go_simp; try with_reducible rfl)
  try simp only [Act.put, List.getElem_toArray, List.getElem_cons_succ, List.getElem_cons_zero, List.setIfInBounds_toArray, List.set_cons_zero, List.set_cons_succ]
  refine wpAnyH_take (i := 2) (v := ?_) rfl (by kernel_rfl) (by kernel_rfl) (by kernel_rfl) (fun _ _ _ h => h) (Or.inl ⟨by rfl, ?_⟩) (by assumption) ?_
  rotate_left 1
  · (intro w hSw; (try dsimp only at hSw); go_simp; try with_reducible rfl)
  try simp only [Act.put, List.getElem_toArray, List.getElem_cons_succ, List.getElem_cons_zero, List.setIfInBounds_toArray, List.set_cons_zero, List.set_cons_succ]
  refine wpAnyH_take (i := 3) (v := ?_) rfl (by kernel_rfl) (by kernel_rfl) (by kernel_rfl) (fun _ _ _ h => h) (Or.inl ⟨by rfl, ?_⟩) (by assumption) ?_
  rotate_left 1
  · (intro w hSw; (try dsimp only at hSw); go_simp; try with_reducible rfl)
  try simp only [Act.put, List.getElem_toArray, List.getElem_cons_succ, List.getElem_cons_zero, List.setIfInBounds_toArray, List.set_cons_zero, List.set_cons_succ]
  refine wpAnyH_take (i := 4) (v := ?_) rfl (by kernel_rfl) (by kernel_rfl) (by kernel_rfl) (fun _ _ _ h => h) (Or.inl ⟨by rfl, ?_⟩) (by assumption) ?_
  rotate_left 1
  · (intro w hSw; (try dsimp only at hSw); go_simp; try with_reducible rfl)
  try simp only [Act.put, List.getElem_toArray, List.getElem_cons_succ, List.getElem_cons_zero, List.setIfInBounds_toArray, List.set_cons_zero, List.set_cons_succ]
  refine wpAnyH_take (i := 5) (v := ?_) rfl (by kernel_rfl) (by kernel_rfl) (by kernel_rfl) (fun _ _ _ h => h) (Or.inl ⟨by rfl, ?_⟩) (by assumption) ?_
  rotate_left 1
  · (intro w hSw; (try dsimp only at hSw); go_simp; try with_reducible rfl)
  try simp only [Act.put, List.getElem_toArray, List.getElem_cons_succ, List.getElem_cons_zero, List.setIfInBounds_toArray, List.set_cons_zero, List.set_cons_succ]
  refine wpAnyH_take (i := 6) (v := ?_) rfl (by kernel_rfl) (by kernel_rfl) (by kernel_rfl) (fun _ _ _ h => h) (Or.inl ⟨by rfl, ?_⟩) (by assumption) ?_
  rotate_left 1
  · (intro w hSw; (try dsimp only at hSw); go_simp; try with_reducible rfl)
  try simp only [Act.put, List.getElem_toArray, List.getElem_cons_succ, List.getElem_cons_zero, List.setIfInBounds_toArray, List.set_cons_zero, List.set_cons_succ]
  refine wpAnyH_take (i := 7) (v := ?_) rfl (by kernel_rfl) (by kernel_rfl) (by kernel_rfl) (fun _ _ _ h => h) (Or.inl ⟨by rfl, ?_⟩) (by assumption) ?_
  rotate_left 1
  · (intro w hSw; (try dsimp only at hSw); go_simp; try with_reducible rfl)
  try simp only [Act.put, List.getElem_toArray, List.getElem_cons_succ, List.getElem_cons_zero, List.setIfInBounds_toArray, List.set_cons_zero, List.set_cons_succ]
  refine wpAnyH_take (i := 10) (v := ?_) rfl (by kernel_rfl) (by kernel_rfl) (by kernel_rfl) (fun _ _ _ h => h) (Or.inl ⟨by rfl, ?_⟩) (by assumption) ?_
  rotate_left 1
  · (intro w hSw; (try dsimp only at hSw); go_simp; try with_reducible rfl)
  try simp only [Act.put, List.getElem_toArray, List.getElem_cons_succ, List.getElem_cons_zero, List.setIfInBounds_toArray, List.set_cons_zero, List.set_cons_succ]
  refine wpAnyH_take (i := 11) (v := ?_) rfl (by kernel_rfl) (by kernel_rfl) (by kernel_rfl) (fun _ _ _ h => h) (Or.inl ⟨by rfl, ?_⟩) (by assumption) ?_
  rotate_left 1
  · (intro w hSw; (try dsimp only at hSw); go_simp; try with_reducible rfl)
  try simp only [Act.put, List.getElem_toArray, List.getElem_cons_succ, List.getElem_cons_zero, List.setIfInBounds_toArray, List.set_cons_zero, List.set_cons_succ]
  refine wpAnyH_take (i := 12) (v := ?_) rfl (by kernel_rfl) (by kernel_rfl) (by kernel_rfl) (fun _ _ _ h => h) (Or.inl ⟨by rfl, ?_⟩) (by assumption) ?_
  rotate_left 1
  · (intro w hSw; (try dsimp only at hSw); go_simp; try with_reducible rfl)
  try simp only [Act.put, List.getElem_toArray, List.getElem_cons_succ, List.getElem_cons_zero, List.setIfInBounds_toArray, List.set_cons_zero, List.set_cons_succ]
  refine wpAnyH_take (i := 13) (v := ?_) rfl (by kernel_rfl) (by kernel_rfl) (by kernel_rfl) (fun _ _ _ h => h) (Or.inl ⟨by rfl, ?_⟩) (by assumption) ?_
  rotate_left 1
  · (intro w hSw; (try dsimp only at hSw); go_simp; try with_reducible rfl)
  try simp only [Act.put, List.getElem_toArray, List.getElem_cons_succ, List.getElem_cons_zero, List.setIfInBounds_toArray, List.set_cons_zero, List.set_cons_succ]
  refine wpAnyH_ready (rs := [8, 9]) (by kernel_rfl) (by simp) ?_
  refine AllReadyH.cons rfl (fun K hK => ?_) (AllReadyH.cons rfl (fun K hK => ?_) AllReadyH.nil)
  · try simp only [Act.put, List.getElem_toArray, List.getElem_cons_succ, List.getElem_cons_zero, List.setIfInBounds_toArray, List.set_cons_zero, List.set_cons_succ]
    go_simp
    go_at_call 137
    refine (HO.out wd (Below.refl _ _)).mono ?_
    rintro e w4 ⟨A', c', rfl, hrow1, b4⟩
    have X4 := hide (XD.out.below b4 XD.out.lt)
    have Y4 := hide (YD.out.below b4 YD.out.lt)
    dsimp only
    refine hK.out _ _ (⟨(X4.out.cell 0).trans rfl, (X4.out.cell 1).trans rfl, (X4.out.cell 2).trans rfl⟩) (fun hHeld => ?_)
    clear hK K
    try simp only [Act.put, List.getElem_toArray, List.getElem_cons_succ, List.getElem_cons_zero, List.setIfInBounds_toArray, List.set_cons_zero, List.set_cons_succ]
    refine wpAnyH_ready (rs := [9]) (by kernel_rfl) (by simp) ?_
    refine AllReadyH.cons rfl (fun K hK => ?_) AllReadyH.nil
    try simp only [Act.put, List.getElem_toArray, List.getElem_cons_succ, List.getElem_cons_zero, List.setIfInBounds_toArray, List.set_cons_zero, List.set_cons_succ]
    go_simp
    have X5 := hide (X4.out.alloc (.cells #[] 118))
    have Y5 := hide (Y4.out.alloc (.cells #[] 118))
    have hr1 := (own_base hrow1 hzd).alloc (.cells #[] 118)
    have hr0 : (w4.alloc (.cells #[] 118)).ownsRow (w.heap.size + 1) 118 3 (.slice (some ⟨w4.heap.size, 0, none⟩) 0 0) 0 [] := own_new0 w4 _ _ _ (by have := b4.size; omega)
    have b5 := b4.alloc b4.size (.cells #[] 118)
    have hne : ∀ g, (Value.slice A' x.of.length c').ownBlock = some g → g ≠ w4.heap.size := fun g e => by have := (hrow1.lt g e).2; omega
    have hz5 : (w4.alloc (.cells #[] 118)).heap.size = w4.heap.size + 1 := by simp
    generalize w4.alloc (.cells #[] 118) = w5 at *
    have hb1 : wd.heap.size ≤ w4.heap.size := b4.size
    generalize w4.heap.size = gc at *
    refine hK.out _ _ (⟨(X5.out.cell 0).trans rfl, (X5.out.cell 1).trans rfl, (X5.out.cell 2).trans rfl⟩) (fun hHeld => ?_)
    clear hK K
    try simp only [Act.put, List.getElem_toArray, List.getElem_cons_succ, List.getElem_cons_zero, List.setIfInBounds_toArray, List.set_cons_zero, List.set_cons_succ]
    have R2 := (HR2.out w5 b5)
    have hsz5 : w.heap.size + 1 ≤ w5.heap.size := by have := b5.size; omega
    refine wpAnyH_ready (rs := [14]) (by kernel_rfl) (by simp) ?_
    refine AllReadyH.cons rfl (fun K hK => ?_) AllReadyH.nil
    try simp only [Act.put, List.getElem_toArray, List.getElem_cons_succ, List.getElem_cons_zero, List.setIfInBounds_toArray, List.set_cons_zero, List.set_cons_succ]
    rw [if_pos (by rfl)]
    refine op_app _ _ _ 112 rfl (w.heap.size + 1) 118 i0 (.agg #[.int .i64 0, .int .i64 0, .int .i64 0]) 3 24 Try.underlying112 hi0 hz0 hs0 hb0 rfl (by decide) _ _ _ rfl hr0 _ _ x.ch.length c2 _ rfl (flatMap_len T3.cells 3 (fun _ => rfl) x.ch) R2 (T3.ones _) (by omega) (by decide) hsz5 ?_
    intro v2 w6 hrow2 hgrow hat
    simp only [Nat.zero_add, List.nil_append] at hrow2
    obtain ⟨A2', c2', rfl, _⟩ := own_shape hrow2
    have hr6 := hr1.kept hgrow (by cases h9 : (Value.slice A' x.of.length c').ownBlock with | none => exact .inl rfl | some g => exact .inr (fun e => hne g h9 (Option.some.inj e)))
    have X6 := hide (show BoxN w6 b #[.int .i64 x.z, .slice A x.of.length c, .slice A2 x.ch.length c2] 114 from (hgrow.block b X5.out.lt (fun e => by have := Option.some.inj e; (try dsimp only at this); omega)).trans X5.out)
    have Y6 := hide (show BoxN w6 w.heap.size #[.int .i64 0, .slice none 0 0, .slice none 0 0] 114 from (hgrow.block _ Y5.out.lt (fun e => by have := Option.some.inj e; (try dsimp only at this); omega)).trans Y5.out)
    have b6 : Below wd.heap.size wd w6 := b5.grown hgrow (by have := b5.size; omega) (fun k hk => by have := Option.some.inj hk; (try dsimp only at this); omega)
    have hap : ∀ g, (Value.slice A' x.of.length c').ownBlock = some g → (Value.slice A2' x.ch.length c2').ownBlock ≠ some g := fun g e e2 => by
      rcases hat with h | h
      · rw [h] at e2; exact hne g e (Option.some.inj e2).symm
      · rw [h] at e2; have := (hr1.lt g e).2; have := Option.some.inj e2; omega
    dsimp only
    refine hK.out _ _ (⟨(X6.out.cell 0).trans rfl, (X6.out.cell 1).trans rfl, (X6.out.cell 2).trans rfl⟩) (fun hHeld => ?_)
    clear hK K
    try simp only [Act.put, List.getElem_toArray, List.getElem_cons_succ, List.getElem_cons_zero, List.setIfInBounds_toArray, List.set_cons_zero, List.set_cons_succ]
    refine wpAnyH_take (i := 15) (v := ?_) rfl (by kernel_rfl) (by kernel_rfl) (by kernel_rfl) (fun _ _ _ h => h) (Or.inl ⟨by rfl, ?_⟩) (by assumption) ?_
    rotate_left 1
    · (intro w hSw; (try dsimp only at hSw); go_simp; try with_reducible rfl)
    try simp only [Act.put, List.getElem_toArray, List.getElem_cons_succ, List.getElem_cons_zero, List.setIfInBounds_toArray, List.set_cons_zero, List.set_cons_succ]
    have T1 := hide (Y6.out.set 0 (.int .i64 x.z))
    have T2 := hide (T1.out.set 1 (.slice A' x.of.length c'))
    have T3' := hide (T2.out.set 2 (.slice A2' x.ch.length c2'))
    have m0 : w6.cell? ⟨w.heap.size, 0, none⟩ = some (.int .i64 0) := Y6.out.cell 0
    have n0' := Y6.out.fro 0
    have m1 : (w6.setCell ⟨w.heap.size, 0, none⟩ (.int .i64 x.z)).cell? ⟨w.heap.size, 1, none⟩ = some (.slice none 0 0) := T1.out.cell 1
    have n1 := T1.out.fro 1
    have m2 : ((w6.setCell ⟨w.heap.size, 0, none⟩ (.int .i64 x.z)).setCell ⟨w.heap.size, 1, none⟩ (.slice A' x.of.length c')).cell? ⟨w.heap.size, 2, none⟩ = some (.slice none 0 0) := T2.out.cell 2
    have n2 := T2.out.fro 2
    refine wpAnyH_ready (rs := [16]) (by kernel_rfl) (by simp) ?_
    refine AllReadyH.cons rfl (fun K hK => ?_) AllReadyH.nil
    try simp only [Act.put, List.getElem_toArray, List.getElem_cons_succ, List.getElem_cons_zero, List.setIfInBounds_toArray, List.set_cons_zero, List.set_cons_succ]
    go_simp
    have X9 := ((X6.out.other (b' := w.heap.size) (by omega) 0 (.int .i64 x.z)).other (b' := w.heap.size) (by omega) 1 (.slice A' x.of.length c')).other (b' := w.heap.size) (by omega) 2 (.slice A2' x.ch.length c2')
    refine hK.out _ _ (⟨(X9.cell 0).trans rfl, (X9.cell 1).trans rfl, (X9.cell 2).trans rfl⟩) (fun hHeld => ?_)
    clear hK K
    try simp only [Act.put, List.getElem_toArray, List.getElem_cons_succ, List.getElem_cons_zero, List.setIfInBounds_toArray, List.set_cons_zero, List.set_cons_succ]
    refine wpAnyH_done (by kernel_rfl) ?_ _
    go_wp2_with fail
    have q0 : (((w6.setCell ⟨w.heap.size, 0, none⟩ (.int .i64 x.z)).setCell ⟨w.heap.size, 1, none⟩ (.slice A' x.of.length c')).setCell ⟨w.heap.size, 2, none⟩ (.slice A2' x.ch.length c2')).cell? ⟨w.heap.size, 0, none⟩ = some (.int .i64 x.z) := T3'.out.cell 0
    have q1 : (((w6.setCell ⟨w.heap.size, 0, none⟩ (.int .i64 x.z)).setCell ⟨w.heap.size, 1, none⟩ (.slice A' x.of.length c')).setCell ⟨w.heap.size, 2, none⟩ (.slice A2' x.ch.length c2')).cell? ⟨w.heap.size, 1, none⟩ = some (.slice A' x.of.length c') := T3'.out.cell 1
    have q2 : (((w6.setCell ⟨w.heap.size, 0, none⟩ (.int .i64 x.z)).setCell ⟨w.heap.size, 1, none⟩ (.slice A' x.of.length c')).setCell ⟨w.heap.size, 2, none⟩ (.slice A2' x.ch.length c2')).cell? ⟨w.heap.size, 2, none⟩ = some (.slice A2' x.ch.length c2') := T3'.out.cell 2
    have K1 := (((hr6.kept (grown_setCell w6 ⟨w.heap.size, 0, none⟩ (.int .i64 x.z)) (.inr (hnw _ hr6))).kept (grown_setCell _ ⟨w.heap.size, 1, none⟩ (.slice A' x.of.length c')) (.inr (hnw _ hr6))).kept (grown_setCell _ ⟨w.heap.size, 2, none⟩ (.slice A2' x.ch.length c2')) (.inr (hnw _ hr6)))
    have K2 := (((hrow2.kept (grown_setCell w6 ⟨w.heap.size, 0, none⟩ (.int .i64 x.z)) (.inr (hnw _ hrow2))).kept (grown_setCell _ ⟨w.heap.size, 1, none⟩ (.slice A' x.of.length c')) (.inr (hnw _ hrow2))).kept (grown_setCell _ ⟨w.heap.size, 2, none⟩ (.slice A2' x.ch.length c2')) (.inr (hnw _ hrow2)))
    have B9 := ((((BD.out.trans (b6.mono BD.out.size)).setCell (p := ⟨w.heap.size, 0, none⟩) (Nat.le_refl _) (.int .i64 x.z)).setCell (p := ⟨w.heap.size, 1, none⟩) (Nat.le_refl _) (.slice A' x.of.length c')).setCell (p := ⟨w.heap.size, 2, none⟩) (Nat.le_refl _) (.slice A2' x.ch.length c2'))
    exact bodyPost_ret (v := .agg #[.int .i64 x.z, .slice A' x.of.length c', .slice A2' x.ch.length c2']) (by simp [results, Try.results204, go_sem, q0, q1, q2]) rfl ⟨A', c', A2', c2', rfl, own_base K1 (by omega), own_base K2 (by omega), hap, B9⟩
  · try simp only [Act.put, List.getElem_toArray, List.getElem_cons_succ, List.getElem_cons_zero, List.setIfInBounds_toArray, List.set_cons_zero, List.set_cons_succ]
    go_simp
    have X4 := hide (XD.out.alloc (.cells #[] 118))
    have Y4 := hide (YD.out.alloc (.cells #[] 118))
    have b4 : Below wd.heap.size wd (wd.alloc (.cells #[] 118)) := (Below.refl _ _).alloc (Nat.le_refl _) _
    have hr00 := own_new0 wd (w.heap.size + 1) 118 3 hzd
    have hz4 : (wd.alloc (.cells #[] 118)).heap.size = wd.heap.size + 1 := by simp
    have HO4 := hide (HO.out _ b4)
    generalize wd.alloc (.cells #[] 118) = w4 at *
    have hb1 : wd.heap.size ≤ wd.heap.size := Nat.le_refl _
    refine hK.out _ _ (⟨(X4.out.cell 0).trans rfl, (X4.out.cell 1).trans rfl, (X4.out.cell 2).trans rfl⟩) (fun hHeld => ?_)
    clear hK K
    try simp only [Act.put, List.getElem_toArray, List.getElem_cons_succ, List.getElem_cons_zero, List.setIfInBounds_toArray, List.set_cons_zero, List.set_cons_succ]
    refine wpAnyH_ready (rs := [8]) (by kernel_rfl) (by simp) ?_
    refine AllReadyH.cons rfl (fun K hK => ?_) AllReadyH.nil
    try simp only [Act.put, List.getElem_toArray, List.getElem_cons_succ, List.getElem_cons_zero, List.setIfInBounds_toArray, List.set_cons_zero, List.set_cons_succ]
    go_simp
    go_at_call 137
    refine (HO4.out).mono ?_
    rintro e w5 ⟨A', c', rfl, hrow1, b45⟩
    have X5 := hide (X4.out.below b45 X4.out.lt)
    have Y5 := hide (Y4.out.below b45 Y4.out.lt)
    have hr1 := own_base hrow1 (Nat.le_trans hzd b4.size)
    have hr0 := own_below hr00 b45 (Nat.le_refl _)
    have b5 := b4.trans (b45.mono b4.size)
    have hne : ∀ g, (Value.slice A' x.of.length c').ownBlock = some g → g ≠ wd.heap.size := fun g e => by have := (hrow1.lt g e).1; omega
    dsimp only
    refine hK.out _ _ (⟨(X5.out.cell 0).trans rfl, (X5.out.cell 1).trans rfl, (X5.out.cell 2).trans rfl⟩) (fun hHeld => ?_)
    clear hK K
    try simp only [Act.put, List.getElem_toArray, List.getElem_cons_succ, List.getElem_cons_zero, List.setIfInBounds_toArray, List.set_cons_zero, List.set_cons_succ]
    have R2 := (HR2.out w5 b5)
    have hsz5 : w.heap.size + 1 ≤ w5.heap.size := by have := b5.size; omega
    refine wpAnyH_ready (rs := [14]) (by kernel_rfl) (by simp) ?_
    refine AllReadyH.cons rfl (fun K hK => ?_) AllReadyH.nil
    try simp only [Act.put, List.getElem_toArray, List.getElem_cons_succ, List.getElem_cons_zero, List.setIfInBounds_toArray, List.set_cons_zero, List.set_cons_succ]
    rw [if_pos (by rfl)]
    refine op_app _ _ _ 112 rfl (w.heap.size + 1) 118 i0 (.agg #[.int .i64 0, .int .i64 0, .int .i64 0]) 3 24 Try.underlying112 hi0 hz0 hs0 hb0 rfl (by decide) _ _ _ rfl hr0 _ _ x.ch.length c2 _ rfl (flatMap_len T3.cells 3 (fun _ => rfl) x.ch) R2 (T3.ones _) (by omega) (by decide) hsz5 ?_
    intro v2 w6 hrow2 hgrow hat
    simp only [Nat.zero_add, List.nil_append] at hrow2
    obtain ⟨A2', c2', rfl, _⟩ := own_shape hrow2
    have hr6 := hr1.kept hgrow (by cases h9 : (Value.slice A' x.of.length c').ownBlock with | none => exact .inl rfl | some g => exact .inr (fun e => hne g h9 (Option.some.inj e)))
    have X6 := hide (show BoxN w6 b #[.int .i64 x.z, .slice A x.of.length c, .slice A2 x.ch.length c2] 114 from (hgrow.block b X5.out.lt (fun e => by have := Option.some.inj e; (try dsimp only at this); omega)).trans X5.out)
    have Y6 := hide (show BoxN w6 w.heap.size #[.int .i64 0, .slice none 0 0, .slice none 0 0] 114 from (hgrow.block _ Y5.out.lt (fun e => by have := Option.some.inj e; (try dsimp only at this); omega)).trans Y5.out)
    have b6 : Below wd.heap.size wd w6 := b5.grown hgrow (by have := b5.size; omega) (fun k hk => by have := Option.some.inj hk; (try dsimp only at this); omega)
    have hap : ∀ g, (Value.slice A' x.of.length c').ownBlock = some g → (Value.slice A2' x.ch.length c2').ownBlock ≠ some g := fun g e e2 => by
      rcases hat with h | h
      · rw [h] at e2; exact hne g e (Option.some.inj e2).symm
      · rw [h] at e2; have := (hr1.lt g e).2; have := Option.some.inj e2; omega
    dsimp only
    refine hK.out _ _ (⟨(X6.out.cell 0).trans rfl, (X6.out.cell 1).trans rfl, (X6.out.cell 2).trans rfl⟩) (fun hHeld => ?_)
    clear hK K
    try simp only [Act.put, List.getElem_toArray, List.getElem_cons_succ, List.getElem_cons_zero, List.setIfInBounds_toArray, List.set_cons_zero, List.set_cons_succ]
    refine wpAnyH_take (i := 15) (v := ?_) rfl (by kernel_rfl) (by kernel_rfl) (by kernel_rfl) (fun _ _ _ h => h) (Or.inl ⟨by rfl, ?_⟩) (by assumption) ?_
    rotate_left 1
    · (intro w hSw; (try dsimp only at hSw); go_simp; try with_reducible rfl)
    try simp only [Act.put, List.getElem_toArray, List.getElem_cons_succ, List.getElem_cons_zero, List.setIfInBounds_toArray, List.set_cons_zero, List.set_cons_succ]
    have T1 := hide (Y6.out.set 0 (.int .i64 x.z))
    have T2 := hide (T1.out.set 1 (.slice A' x.of.length c'))
    have T3' := hide (T2.out.set 2 (.slice A2' x.ch.length c2'))
    have m0 : w6.cell? ⟨w.heap.size, 0, none⟩ = some (.int .i64 0) := Y6.out.cell 0
    have n0' := Y6.out.fro 0
    have m1 : (w6.setCell ⟨w.heap.size, 0, none⟩ (.int .i64 x.z)).cell? ⟨w.heap.size, 1, none⟩ = some (.slice none 0 0) := T1.out.cell 1
    have n1 := T1.out.fro 1
    have m2 : ((w6.setCell ⟨w.heap.size, 0, none⟩ (.int .i64 x.z)).setCell ⟨w.heap.size, 1, none⟩ (.slice A' x.of.length c')).cell? ⟨w.heap.size, 2, none⟩ = some (.slice none 0 0) := T2.out.cell 2
    have n2 := T2.out.fro 2
    refine wpAnyH_ready (rs := [16]) (by kernel_rfl) (by simp) ?_
    refine AllReadyH.cons rfl (fun K hK => ?_) AllReadyH.nil
    try simp only [Act.put, List.getElem_toArray, List.getElem_cons_succ, List.getElem_cons_zero, List.setIfInBounds_toArray, List.set_cons_zero, List.set_cons_succ]
    go_simp
    have X9 := ((X6.out.other (b' := w.heap.size) (by omega) 0 (.int .i64 x.z)).other (b' := w.heap.size) (by omega) 1 (.slice A' x.of.length c')).other (b' := w.heap.size) (by omega) 2 (.slice A2' x.ch.length c2')
    refine hK.out _ _ (⟨(X9.cell 0).trans rfl, (X9.cell 1).trans rfl, (X9.cell 2).trans rfl⟩) (fun hHeld => ?_)
    clear hK K
    try simp only [Act.put, List.getElem_toArray, List.getElem_cons_succ, List.getElem_cons_zero, List.setIfInBounds_toArray, List.set_cons_zero, List.set_cons_succ]
    refine wpAnyH_done (by kernel_rfl) ?_ _
    go_wp2_with fail
    have q0 : (((w6.setCell ⟨w.heap.size, 0, none⟩ (.int .i64 x.z)).setCell ⟨w.heap.size, 1, none⟩ (.slice A' x.of.length c')).setCell ⟨w.heap.size, 2, none⟩ (.slice A2' x.ch.length c2')).cell? ⟨w.heap.size, 0, none⟩ = some (.int .i64 x.z) := T3'.out.cell 0
    have q1 : (((w6.setCell ⟨w.heap.size, 0, none⟩ (.int .i64 x.z)).setCell ⟨w.heap.size, 1, none⟩ (.slice A' x.of.length c')).setCell ⟨w.heap.size, 2, none⟩ (.slice A2' x.ch.length c2')).cell? ⟨w.heap.size, 1, none⟩ = some (.slice A' x.of.length c') := T3'.out.cell 1
    have q2 : (((w6.setCell ⟨w.heap.size, 0, none⟩ (.int .i64 x.z)).setCell ⟨w.heap.size, 1, none⟩ (.slice A' x.of.length c')).setCell ⟨w.heap.size, 2, none⟩ (.slice A2' x.ch.length c2')).cell? ⟨w.heap.size, 2, none⟩ = some (.slice A2' x.ch.length c2') := T3'.out.cell 2
    have K1 := (((hr6.kept (grown_setCell w6 ⟨w.heap.size, 0, none⟩ (.int .i64 x.z)) (.inr (hnw _ hr6))).kept (grown_setCell _ ⟨w.heap.size, 1, none⟩ (.slice A' x.of.length c')) (.inr (hnw _ hr6))).kept (grown_setCell _ ⟨w.heap.size, 2, none⟩ (.slice A2' x.ch.length c2')) (.inr (hnw _ hr6)))
    have K2 := (((hrow2.kept (grown_setCell w6 ⟨w.heap.size, 0, none⟩ (.int .i64 x.z)) (.inr (hnw _ hrow2))).kept (grown_setCell _ ⟨w.heap.size, 1, none⟩ (.slice A' x.of.length c')) (.inr (hnw _ hrow2))).kept (grown_setCell _ ⟨w.heap.size, 2, none⟩ (.slice A2' x.ch.length c2')) (.inr (hnw _ hrow2)))
    have B9 := ((((BD.out.trans (b6.mono BD.out.size)).setCell (p := ⟨w.heap.size, 0, none⟩) (Nat.le_refl _) (.int .i64 x.z)).setCell (p := ⟨w.heap.size, 1, none⟩) (Nat.le_refl _) (.slice A' x.of.length c')).setCell (p := ⟨w.heap.size, 2, none⟩) (Nat.le_refl _) (.slice A2' x.ch.length c2'))
    exact bodyPost_ret (v := .agg #[.int .i64 x.z, .slice A' x.of.length c', .slice A2' x.ch.length c2']) (by simp [results, Try.results204, go_sem, q0, q1, q2]) rfl ⟨A', c', A2', c2', rfl, own_base K1 (by omega), own_base K2 (by omega), hap, B9⟩
end Go.Proofs.Ytklfjekpeoigoaa
