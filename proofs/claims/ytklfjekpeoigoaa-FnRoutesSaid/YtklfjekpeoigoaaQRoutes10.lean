/-
  Settings of switches, simple ways and runs by a setting. Plain lemmas.
  Settings and ways in the program: valid settings, simple ways, codes, turned switches.
  Stocks: the contracts of the reference and of the program in the laws' words.
  Moves of carriers: which moves are valid; one carrier's way is sent; in the program and in the reference.
-/
import Derived.Test.YtklfjekpeoigoaaQRoutes9
import Derived.Test.YtklfjekpeoigoaaQRoutes5
import Derived.Deep.DeepCutAuto
import Derived.Deep.RegionHeld3
import Derived.Test.YtklfjekpeoigoaaQRoutes4
import Derived.Test.YtklfjekpeoigoaaQRoutes3
namespace Go.Proofs.Ytklfjekpeoigoaa
open Go.RowKit

theorem toNat_inj {a b : Int} (ha : 0 ≤ a) (hb : 0 ≤ b) (h : a.toNat = b.toNat) : a = b := by omega
/-- A setting: a tube that begins there, or none, a station. -/
def OkSet (n : Nat) (tb : List T3) (st : List Int) : Prop := st.length = n ∧ ∀ (i : Nat) (k : Int), st[i]? = some k → k = -1 ∨ (0 ≤ k ∧ ∃ t, tb[k.toNat]? = some t ∧ t.a = (i : Int))
theorem OkSet.at {n : Nat} {tb : List T3} {st : List Int} (h : OkSet n tb st) {v : Int} (h0 : 0 ≤ v) (hv : v < n) : ∃ k, st[v.toNat]? = some k ∧ dAt st v = k ∧ (k = -1 ∨ (0 ≤ k ∧ ∃ t, tb[k.toNat]? = some t ∧ t.a = v)) := by
  have hl : v.toNat < st.length := by rw [h.1]; omega
  have hk := List.getElem?_eq_getElem hl
  refine ⟨_, hk, by simp [dAt, hk], ?_⟩
  rcases h.2 _ _ hk with h1 | ⟨h1, t, ht, ha⟩
  · exact .inl h1
  · exact .inr ⟨h1, t, ht, by omega⟩
theorem OkSet.set {n : Nat} {tb : List T3} {st : List Int} (h : OkSet n tb st) {i : Int} {t : T3} (hi : 0 ≤ i) (ht : tb[i.toNat]? = some t) (ha : 0 ≤ t.a) : OkSet n tb (st.set t.a.toNat i) := by
  refine ⟨by rw [List.length_set]; exact h.1, fun j k hk => ?_⟩
  rw [List.getElem?_set] at hk
  split at hk
  · rename_i he
    split at hk
    · simp only [Option.some.injEq] at hk
      subst hk
      exact .inr ⟨hi, t, ht, by omega⟩
    · cases hk
  · exact h.2 j k hk
theorem OkSet.bd {n : Nat} {tb : List T3} {st : List Int} (h : OkSet n tb st) : ∀ z ∈ st, -1 ≤ z ∧ z ≤ (tb.length : Int) - 1 := fun z hz => by
  obtain ⟨i, hi⟩ := List.getElem?_of_mem hz
  rcases h.2 i z hi with h1 | ⟨h1, t, ht, _⟩
  · omega
  · have := (List.getElem?_eq_some_iff.1 ht).1
    omega
/-- A way that comes to no station twice. -/
def Simple (tb : List T3) (p : List Int) (v u : Int) : Prop := wk tb (-1) p v u ∧ (begins tb p ++ [u]).Nodup
def setW (tb : List T3) : List Int → List Int → List Int
  | [], st => st
  | i :: r, st => setW tb r (st.set (tubeAt tb i).a.toNat i)
theorem setW_drop {tb : List T3} {p : List Int} {k : Nat} {i : Int} {st : List Int} (h : p[k]? = some i) : setW tb (p.drop k) st = setW tb (p.drop (k + 1)) (st.set (tubeAt tb i).a.toNat i) := by rw [drop_cons h, setW]
theorem setW_end {tb : List T3} {p : List Int} {k : Nat} {st : List Int} (h : p.length ≤ k) : setW tb (p.drop k) st = st := by rw [List.drop_eq_nil_of_le h, setW]
theorem wk_get {tb : List T3} {wo : Int} : ∀ {p : List Int} {v u : Int} {k : Nat} {i : Int}, wk tb wo p v u → p[k]? = some i → 0 ≤ i ∧ ∃ t, tb[i.toNat]? = some t := by
  intro p
  induction p with
  | nil => intro v u k i _ h; simp at h
  | cons j p ih =>
    rintro v u k i ⟨h0, h1, t, ht, ha, h⟩ hk
    cases k with
    | zero => simp at hk; subst hk; exact ⟨h0, t, ht⟩
    | succ k => exact ih h (by simpa using hk)
theorem setW_ok {n : Nat} {tb : List T3} (hok : OkTubes n tb) : ∀ {p : List Int} {v u : Int} {st : List Int}, wk tb (-1) p v u → OkSet n tb st → OkSet n tb (setW tb p st) := by
  intro p
  induction p with
  | nil => intro v u st _ h; exact h
  | cons i p ih =>
    rintro v u st ⟨h0, h1, t, ht, ha, h⟩ hs
    rw [setW, tubeAt_get ht]
    exact ih h (hs.set h0 ht (hok t (List.mem_of_getElem? ht)).1.1)
theorem begins_nn {n : Nat} {tb : List T3} (hok : OkTubes n tb) {p : List Int} {v u : Int} (h : wk tb (-1) p v u) : ∀ x ∈ begins tb p, 0 ≤ x := fun x hx => (begins_in hok h x hx).1
theorem setW_other {n : Nat} {tb : List T3} (hok : OkTubes n tb) : ∀ {p : List Int} {v u : Int} {st : List Int} {x : Int}, wk tb (-1) p v u → 0 ≤ x → x ∉ begins tb p → (setW tb p st)[x.toNat]? = st[x.toNat]? := by
  intro p
  induction p with
  | nil => intro v u st x _ _ _; rfl
  | cons i p ih =>
    rintro v u st x ⟨h0, h1, t, ht, ha, h⟩ hx hn
    rw [begins, List.map_cons, List.mem_cons] at hn
    have ht0 := (hok t (List.mem_of_getElem? ht)).1.1
    rw [setW, tubeAt_get ht, ih h hx (fun hm => hn (.inr hm)), List.getElem?_set_ne]
    intro he
    exact hn (.inl (by rw [tubeAt_get ht]; omega))
/-- All that a way needs is set. -/
def Has (tb : List T3) (S p : List Int) : Prop := ∀ i ∈ p, S[(tubeAt tb i).a.toNat]? = some i
theorem setW_has {n : Nat} {tb : List T3} (hok : OkTubes n tb) : ∀ {p : List Int} {v u : Int} {st : List Int}, wk tb (-1) p v u → (begins tb p).Nodup → st.length = n → Has tb (setW tb p st) p := by
  intro p
  induction p with
  | nil => intro v u st _ _ _ i hi; cases hi
  | cons i p ih =>
    rintro v u st ⟨h0, h1, t, ht, ha, h⟩ hd hl j hj
    rw [begins, List.map_cons, List.nodup_cons] at hd
    have hb := (hok t (List.mem_of_getElem? ht)).1
    rw [setW]
    rcases List.mem_cons.1 hj with rfl | hj
    · rw [setW_other hok h (by rw [tubeAt_get ht]; exact hb.1) hd.1, List.getElem?_set_self (by rw [tubeAt_get ht, hl]; omega)]
    · exact ih h hd.2 (by rw [List.length_set]; exact hl) j hj
/-- A carrier's run by a setting. -/
def runP (tb : List T3) (S : List Int) : List Int → Int → Int → Prop
  | [], v, u => v = u
  | i :: r, v, u => v ≠ u ∧ 0 ≤ i ∧ dAt S v = i ∧ runP tb S r (tubeAt tb i).b u
theorem run_has {tb : List T3} {S : List Int} : ∀ {p : List Int} {v u : Int}, wk tb (-1) p v u → (begins tb p ++ [u]).Nodup → Has tb S p → runP tb S p v u := by
  intro p
  induction p with
  | nil => intro v u h _ _; exact h
  | cons i p ih =>
    rintro v u ⟨h0, h1, t, ht, ha, h⟩ hd hh
    rw [begins, List.map_cons, List.cons_append, List.nodup_cons] at hd
    have h2 := hh i (List.mem_cons_self ..)
    rw [tubeAt_get ht, ha] at h2 hd
    refine ⟨fun e => hd.1 (by rw [e]; simp), h0, by simp [dAt, h2], ?_⟩
    rw [tubeAt_get ht]
    exact ih h hd.2 fun j hj => hh j (List.mem_cons_of_mem _ hj)
theorem run_wk {n : Nat} {tb : List T3} (hok : OkTubes n tb) {S : List Int} (hs : OkSet n tb S) : ∀ {p : List Int} {v u : Int}, 0 ≤ v → v < n → runP tb S p v u → wk tb (-1) p v u := by
  intro p
  induction p with
  | nil => intro v u _ _ h; exact h
  | cons i p ih =>
    rintro v u h0 hv ⟨hne, hi, hd, h⟩
    obtain ⟨k, hk, hdk, hc⟩ := hs.at h0 hv
    rw [hd] at hdk
    subst hdk
    rcases hc with hc | ⟨_, t, ht, ha⟩
    · omega
    · have hb := (hok t (List.mem_of_getElem? ht)).2.1
      rw [tubeAt_get ht] at h
      exact ⟨hi, by omega, t, ht, ha, ih hb.1 hb.2 h⟩
/-- The switches that must be turned. -/
def turnsC (tb : List T3) (S : List Int) : List Int → Int
  | [] => 0
  | i :: r => (if dAt S (tubeAt tb i).a = i then 0 else 1) + turnsC tb S r
theorem turnsC_bd (tb : List T3) (S : List Int) : ∀ p : List Int, 0 ≤ turnsC tb S p ∧ turnsC tb S p ≤ p.length := by
  intro p
  induction p with
  | nil => simp [turnsC]
  | cons i p ih => rw [turnsC, List.length_cons]; split <;> omega
theorem turnsC_drop {tb : List T3} {S p : List Int} {k : Nat} {i : Int} (h : p[k]? = some i) : turnsC tb S (p.drop k) = (if dAt S (tubeAt tb i).a = i then 0 else 1) + turnsC tb S (p.drop (k + 1)) := by rw [drop_cons h, turnsC]
theorem turnsC_end {tb : List T3} {S p : List Int} {k : Nat} (h : p.length ≤ k) : turnsC tb S (p.drop k) = 0 := by rw [List.drop_eq_nil_of_le h, turnsC]
theorem turns_has {tb : List T3} {S : List Int} : ∀ {p : List Int}, Has tb S p → turnsC tb S p = 0 := by
  intro p
  induction p with
  | nil => intro _; rfl
  | cons i p ih =>
    intro h
    have h1 : dAt S (tubeAt tb i).a = i := by simp [dAt, h i (List.mem_cons_self ..)]
    rw [turnsC, if_pos h1, ih fun j hj => h j (List.mem_cons_of_mem _ hj)]; rfl
/-- Where a carrier stops within some steps; -1 if it does not. -/
def stopN (tb : List T3) (S : List Int) : Nat → Int → Int
  | 0, _ => -1
  | k + 1, v => if dAt S v < 0 then v else stopN tb S k (tubeAt tb (dAt S v)).b
theorem stopN_cases {n : Nat} {tb : List T3} (hok : OkTubes n tb) {S : List Int} (hs : OkSet n tb S) : ∀ (k : Nat) (v : Int), 0 ≤ v → v < n → stopN tb S k v = -1 ∨ ((0 ≤ stopN tb S k v ∧ stopN tb S k v < n) ∧ dAt S (stopN tb S k v) = -1 ∧ ∃ p, runP tb S p v (stopN tb S k v) ∧ p.length < k) := by
  intro k
  induction k with
  | zero => intro v _ _; exact .inl rfl
  | succ k ih =>
    intro v h0 hv
    obtain ⟨z, hz, hdz, hc⟩ := hs.at h0 hv
    rw [stopN]
    by_cases h : dAt S v < 0
    · rw [if_pos h]
      refine .inr ⟨⟨h0, hv⟩, by omega, [], rfl, by simp⟩
    · rw [if_neg h]
      rcases hc with hc | ⟨hz0, t, ht, ha⟩
      · omega
      · have hb := (hok t (List.mem_of_getElem? ht)).2.1
        rw [hdz, tubeAt_get ht]
        rcases ih t.b hb.1 hb.2 with h1 | ⟨h1, h2, p, hp, hpl⟩
        · exact .inl h1
        · refine .inr ⟨h1, h2, z :: p, ⟨fun e => ?_, hz0, hdz, by rw [tubeAt_get ht]; exact hp⟩, by simp; omega⟩
          rw [← e] at h2; omega
theorem stopN_bd {n : Nat} {tb : List T3} (hok : OkTubes n tb) {S : List Int} (hs : OkSet n tb S) (k : Nat) {v : Int} (h0 : 0 ≤ v) (hv : v < n) : -1 ≤ stopN tb S k v ∧ stopN tb S k v < n := by
  rcases stopN_cases hok hs k v h0 hv with h | ⟨h, _⟩ <;> omega
/-- The stations from which a carrier never stops. -/
def circP (n : Nat) (tb : List T3) (S : List Int) (k : Nat) : Bool := decide (stopN tb S n k < 0)
def circL (n : Nat) (tb : List T3) (S : List Int) : List Int := idxFrom (circP n tb S) (List.range n) 0
theorem circ_rises {n : Nat} {tb : List T3} {S : List Int} : Rises (circL n tb S) n := by
  have h := idx_rises (circP n tb S) (List.range n)
  rw [List.length_range] at h; exact h
theorem circ_mem {n : Nat} {tb : List T3} {S : List Int} {i : Nat} (hi : i < n) : hasI (circL n tb S) i = decide (stopN tb S n i < 0) := by
  rw [Bool.eq_iff_iff, hasI_mem, circL, idx_mem]
  constructor
  · rintro ⟨j, x, hz, hx, hp⟩
    rw [List.getElem?_range (by have := (List.getElem?_eq_some_iff.1 hx).1; simpa using this)] at hx
    simp only [Option.some.injEq] at hx
    subst hx
    have : i = j := by omega
    subst this; exact hp
  · intro h
    exact ⟨i, i, by simp, by rw [List.getElem?_range hi], h⟩
theorem circ_len {n : Nat} {tb : List T3} {S : List Int} : (circL n tb S).length ≤ n := by
  have := idxFrom_len (circP n tb S) (List.range n) 0; rw [List.length_range] at this; exact this
theorem simple_len {n : Nat} {tb : List T3} (hok : OkTubes n tb) {p : List Int} {v u : Int} (h : Simple tb p v u) (hu : 0 ≤ u ∧ u < n) : p.length < n := by
  have h1 := nodup_len (n := n) h.2 fun x hx => by
    rcases List.mem_append.1 hx with hx | hx
    · exact begins_in hok h.1 x hx
    · rw [List.mem_singleton] at hx; subst hx; exact hu
  rw [List.length_append, begins, List.length_map] at h1
  simp at h1; omega
end Go.Proofs.Ytklfjekpeoigoaa
namespace Go.Proofs.Ytklfjekpeoigoaa
open Go.RowKit
theorem okTubes_of {n : Nat} {tb : List T3} (h : OkNet n tb) : OkTubes n tb := fun t ht => by
  obtain ⟨h1, h2, _, h3⟩ := h.2.2 t ht
  exact ⟨by omega, by omega, h3⟩
set_option maxRecDepth 100000 in
set_option maxHeartbeats 4000000 in
theorem implValidSetting_any (n : Nat) (tb : List T3) (st : List Int) (A : Option Addr) (c : Nat) (w : World) (h : OkNet n tb) (hr : Rd3 w w.heap.size A tb) (As : Option Addr) (cs : Nat) (hs : OkSet n tb st) (hst : RdI w w.heap.size As st) :
    Calls Try.prog 241 #[.agg #[.int .i64 n, .slice A tb.length c], .slice As st.length cs] w fun e w' => e = .returned (.bool true) ∧ Below w.heap.size w w' := by
  have hl24 := h.2.1
  have hn10 := h.1.2
  have hsl := hs.1
  have hBl : ((st.length : Int) != (n : Int)) = false := by simp [hsl]
  have hsl10 : st.length ≤ 10 := by omega
  have HSL := hide hsl
  clear hsl
  have b0 : Below w.heap.size w (w.alloc (.cells #[.int .i64 n, .slice A tb.length c] 59)) := (by repeat (first | exact Below.refl _ _ | assumption | (refine Below.alloc ?_ (by simp <;> omega) _) | refine Below.drew ?_ | refine bdn ?_ _))
  have k0 : (w.alloc (.cells #[.int .i64 n, .slice A tb.length c] 59)).cell? ⟨w.heap.size, 0, none⟩ = some (.int .i64 n) := by simp [go_sem]
  have k1 : (w.alloc (.cells #[.int .i64 n, .slice A tb.length c] 59)).cell? ⟨w.heap.size, 1, none⟩ = some (.slice A tb.length c) := by simp [go_sem]
  have z0 : w.heap.size < (w.alloc (.cells #[.int .i64 n, .slice A tb.length c] 59)).heap.size := by simp
  have HN := hide fun W (hW : Below w.heap.size w W) => ((hr.below hW).more hW.size)
  have Hst := hide fun W (hW : Below w.heap.size w W) => RdI.more (RdI.below hst hW) hW.size
  have HV := hide (validNet_any n tb A c (w.alloc (.cells #[.int .i64 n, .slice A tb.length c] 59)) h (HN.out _ b0))
  have HO := hide fun W (hW : Below w.heap.size w W) => outside_any st (-1) ((tb.length : Int) - 1) As cs W (by omega) (Hst.out W hW)
  have hany : (st.any fun z => !inB (-1) ((tb.length : Int) - 1) z) = false := by
    rw [List.any_eq_false]; intro z hz'; rw [inB_t (hs.bd z hz')]; simp
  have HS := hide hs
  clear h hr hst hs
  go_enter Try.func241, Try.ntmps241
  go_upto_region 1 with fail
  generalize (w.alloc (.cells #[.int .i64 n, .slice A tb.length c] 59)) = w0 at *
  go_wp2_with (first
    | (go_at_call 163; (with_reducible refine (HV.out).mono ?_); rintro e w1 ⟨rfl, b1⟩; have q0 := (b1.cell (p := ⟨w.heap.size, 0, none⟩) z0).trans k0; have q1 := (b1.cell (p := ⟨w.heap.size, 1, none⟩) z0).trans k1; have bw1 := b0.trans (b1.mono b0.size); have z1 := Nat.lt_of_lt_of_le z0 b1.size)
    | (go_at_call 147; (with_reducible refine (HO.out _ bw1).mono ?_); rintro e w2 ⟨rfl, b2⟩; rw [hany]; have z2 := Nat.lt_of_lt_of_le z1 b2.size; have bw2 := bw1.trans (b2.mono bw1.size); have p0 := (b2.cell (p := ⟨w.heap.size, 0, none⟩) z1).trans q0; have p1 := (b2.cell (p := ⟨w.heap.size, 1, none⟩) z1).trans q1))
  go_loopg [27] st.length (fun g i wr => ∃ j : Nat, j ≤ st.length ∧ Hid (g = st.length - j) ∧ i = .int .i64 j ∧ Hid (Below w2.heap.size w2 wr))
  case atStart => exact ⟨0, by omega, by simp [Hid], rfl, Below.refl _ _⟩
  case round =>
    obtain ⟨j, hj, hgj, rfl, HB⟩ := hrel
    have r0 := (HB.out.cell (p := ⟨w.heap.size, 0, none⟩) z2).trans p0
    have r1 := (HB.out.cell (p := ⟨w.heap.size, 1, none⟩) z2).trans p1
    have hbw := bw2.trans (HB.out.mono bw2.size)
    clear k0 k1 q0 q1 p0 p1
    by_cases hjt : j < st.length
    · obtain ⟨b3, o3, z, rfl, _, hz, hc⟩ := (Hst.out wr hbw).at_ hjt
      rcases HS.out.2 j z hz with hz1 | ⟨hz0, t, ht, hta⟩
      · subst hz1
        clear hz hbw
        go_wp2_with fail
        go_roundg (st.length - (j + 1))
        case measure => have := hgj.out; omega
        case rel => exact ⟨j + 1, by omega, rfl, by go_num, HB⟩
      · obtain ⟨zn, rfl⟩ := Int.eq_ofNat_of_zero_le hz0
        rw [Int.toNat_natCast] at ht
        have hzt : zn < tb.length := lt_of_get ht
        obtain ⟨b4, o4, t', rfl, _, ht', c0, c1, c2⟩ := (HN.out wr hbw).at_ hzt
        obtain rfl := Option.some.inj (ht.symm.trans ht')
        have hzi : (zn : Int) < (tb.length : Int) := by omega
        clear hz hbw ht ht'
        rw [hta] at c0
        go_wp2_with fail
        go_roundg (st.length - (j + 1))
        case measure => have := hgj.out; omega
        case rel => exact ⟨j + 1, by omega, rfl, by go_num, HB⟩
    · go_wp2_with fail
      go_ret
      exact ⟨rfl, hbw⟩
set_option maxRecDepth 100000 in
set_option maxHeartbeats 4000000 in
theorem areTubes_any (n : Nat) (tb : List T3) (p : List Int) (A : Option Addr) (c : Nat) (w : World) (h : OkNet n tb) (hr : Rd3 w w.heap.size A tb) (Ap : Option Addr) (cp : Nat) (hin : ∀ z ∈ p, 0 ≤ z ∧ z ≤ (tb.length : Int) - 1) (hpl : p.length ≤ 1000) (hp : RdI w w.heap.size Ap p) :
    Calls Try.prog 159 #[.agg #[.int .i64 n, .slice A tb.length c], .slice Ap p.length cp] w fun e w' => e = .returned (.bool true) ∧ Below w.heap.size w w' := by
  have hl24 := h.2.1
  have b0 : Below w.heap.size w (w.alloc (.cells #[.int .i64 n, .slice A tb.length c] 59)) := (by repeat (first | exact Below.refl _ _ | assumption | (refine Below.alloc ?_ (by simp <;> omega) _) | refine Below.drew ?_ | refine bdn ?_ _))
  have k0 : (w.alloc (.cells #[.int .i64 n, .slice A tb.length c] 59)).cell? ⟨w.heap.size, 0, none⟩ = some (.int .i64 n) := by simp [go_sem]
  have k1 : (w.alloc (.cells #[.int .i64 n, .slice A tb.length c] 59)).cell? ⟨w.heap.size, 1, none⟩ = some (.slice A tb.length c) := by simp [go_sem]
  have z0 : w.heap.size < (w.alloc (.cells #[.int .i64 n, .slice A tb.length c] 59)).heap.size := by simp
  have Hp := hide fun W (hW : Below w.heap.size w W) => RdI.more (RdI.below hp hW) hW.size
  have HO := hide fun W (hW : Below w.heap.size w W) => outside_any p 0 ((tb.length : Int) - 1) Ap cp W (by omega) (Hp.out W hW)
  have hany : (p.any fun z => !inB 0 ((tb.length : Int) - 1) z) = false := by
    rw [List.any_eq_false]; intro z hz'; rw [inB_t (hin z hz')]; simp
  clear h hr hp hin
  go_enter Try.func159, Try.ntmps159
  go_upto_region 1 with fail
  generalize (w.alloc (.cells #[.int .i64 n, .slice A tb.length c] 59)) = w0 at *
  go_wp2_with (go_at_call 147; (with_reducible refine (HO.out _ b0).mono ?_); rintro e w2 ⟨rfl, b2⟩; rw [hany])
  go_ret
  exact ⟨rfl, b0.trans (b2.mono b0.size)⟩
set_option maxRecDepth 100000 in
set_option maxHeartbeats 4000000 in
theorem endOf_any (n : Nat) (tb : List T3) (p : List Int) (v u : Int) (A : Option Addr) (c : Nat) (w : World) (h : OkNet n tb) (hr : Rd3 w w.heap.size A tb) (Ap : Option Addr) (cp : Nat) (hw : wk tb (-1) p v u) (hpl : p.length ≤ 1000) (hp : RdI w w.heap.size Ap p) :
    Calls Try.prog 160 #[.agg #[.int .i64 n, .slice A tb.length c], .slice Ap p.length cp, .int .i64 v] w fun e w' => e = .returned (.tuple #[.int .i64 u, .bool true]) ∧ Below w.heap.size w w' := by
  have hl24 := h.2.1
  have b0 : Below w.heap.size w (w.alloc (.cells #[.int .i64 n, .slice A tb.length c] 59)) := (by repeat (first | exact Below.refl _ _ | assumption | (refine Below.alloc ?_ (by simp <;> omega) _) | refine Below.drew ?_ | refine bdn ?_ _))
  have k0 : (w.alloc (.cells #[.int .i64 n, .slice A tb.length c] 59)).cell? ⟨w.heap.size, 0, none⟩ = some (.int .i64 n) := by simp [go_sem]
  have k1 : (w.alloc (.cells #[.int .i64 n, .slice A tb.length c] 59)).cell? ⟨w.heap.size, 1, none⟩ = some (.slice A tb.length c) := by simp [go_sem]
  have z0 : w.heap.size < (w.alloc (.cells #[.int .i64 n, .slice A tb.length c] 59)).heap.size := by simp
  have HN := hide fun W (hW : Below w.heap.size w W) => ((hr.below hW).more hW.size)
  have Hp := hide fun W (hW : Below w.heap.size w W) => RdI.more (RdI.below hp hW) hW.size
  clear h hr hp
  go_enter Try.func160, Try.ntmps160
  go_upto_region 1 with fail
  generalize (w.alloc (.cells #[.int .i64 n, .slice A tb.length c] 59)) = w0 at *
  go_wp2_with fail
  go_loopg [12, 2] p.length (fun g i s wr => ∃ (j : Nat) (x : Int), j ≤ p.length ∧ Hid (g = p.length - j) ∧ i = .int .i64 j ∧ s = .int .i64 x ∧ Hid (wk tb (-1) (p.drop j) x u) ∧ Hid (Below w0.heap.size w0 wr))
  case atStart => exact ⟨0, v, by omega, by simp [Hid], rfl, rfl, hw, Below.refl _ _⟩
  case round =>
    obtain ⟨j, x, hj, hgj, rfl, rfl, HW, HB⟩ := hrel
    have r0 := (HB.out.cell (p := ⟨w.heap.size, 0, none⟩) z0).trans k0
    have r1 := (HB.out.cell (p := ⟨w.heap.size, 1, none⟩) z0).trans k1
    have hbw := b0.trans (HB.out.mono b0.size)
    clear k0 k1
    by_cases hjt : j < p.length
    · obtain ⟨b3, o3, z, rfl, _, hz, hc⟩ := (Hp.out wr hbw).at_ hjt
      have hd := HW.out
      rw [drop_cons hz] at hd
      obtain ⟨hz0, _, t, ht, hta, hw2⟩ := hd
      obtain ⟨zn, rfl⟩ := Int.eq_ofNat_of_zero_le hz0
      rw [Int.toNat_natCast] at ht
      have hzt : zn < tb.length := lt_of_get ht
      obtain ⟨b4, o4, t', rfl, _, ht', c0, c1, c2⟩ := (HN.out wr hbw).at_ hzt
      obtain rfl := Option.some.inj (ht.symm.trans ht')
      have hzi : (zn : Int) < (tb.length : Int) := by omega
      have HW2 := hide hw2
      clear hz hbw ht ht' HW hw2 hw
      rw [hta] at c0
      go_wp2_with fail
      go_roundg (p.length - (j + 1))
      case measure => have := hgj.out; omega
      case rel => exact ⟨j + 1, t.b, by omega, rfl, by go_num, rfl, HW2, HB⟩
    · have hd := HW.out
      rw [List.drop_eq_nil_of_le (by omega)] at hd
      have hd2 : x = u := hd
      subst hd2
      clear hd
      go_wp2_with fail
      go_ret2
      exact ⟨rfl, hbw⟩
set_option maxRecDepth 100000 in
set_option maxHeartbeats 4000000 in
theorem turns_any (n : Nat) (tb : List T3) (st p : List Int) (v u : Int) (A : Option Addr) (c : Nat) (w : World) (h : OkNet n tb) (hr : Rd3 w w.heap.size A tb) (As : Option Addr) (cs : Nat) (Ap : Option Addr) (cp : Nat) (hs : OkSet n tb st) (hw : wk tb (-1) p v u) (hpl : p.length ≤ 1000) (hst : RdI w w.heap.size As st) (hp : RdI w w.heap.size Ap p) :
    Calls Try.prog 154 #[.agg #[.int .i64 n, .slice A tb.length c], .slice As st.length cs, .slice Ap p.length cp] w fun e w' => e = .returned (.int .i64 (turnsC tb st p)) ∧ Below w.heap.size w w' := by
  have hl24 := h.2.1
  have hn10 := h.1.2
  have hsl := hs.1
  have HOK := hide (okTubes_of h)
  have b0 : Below w.heap.size w (w.alloc (.cells #[.int .i64 n, .slice A tb.length c] 59)) := (by repeat (first | exact Below.refl _ _ | assumption | (refine Below.alloc ?_ (by simp <;> omega) _) | refine Below.drew ?_ | refine bdn ?_ _))
  have k0 : (w.alloc (.cells #[.int .i64 n, .slice A tb.length c] 59)).cell? ⟨w.heap.size, 0, none⟩ = some (.int .i64 n) := by simp [go_sem]
  have k1 : (w.alloc (.cells #[.int .i64 n, .slice A tb.length c] 59)).cell? ⟨w.heap.size, 1, none⟩ = some (.slice A tb.length c) := by simp [go_sem]
  have z0 : w.heap.size < (w.alloc (.cells #[.int .i64 n, .slice A tb.length c] 59)).heap.size := by simp
  have HN := hide fun W (hW : Below w.heap.size w W) => ((hr.below hW).more hW.size)
  have Hst := hide fun W (hW : Below w.heap.size w W) => RdI.more (RdI.below hst hW) hW.size
  have Hp := hide fun W (hW : Below w.heap.size w W) => RdI.more (RdI.below hp hW) hW.size
  clear h hr hp hst
  have HWK := hide hw
  go_enter Try.func154, Try.ntmps154
  go_upto_region 1 with fail
  generalize (w.alloc (.cells #[.int .i64 n, .slice A tb.length c] 59)) = w0 at *
  go_wp2_with fail
  go_loopg [12, 7] p.length (fun g i s wr => ∃ (j : Nat) (x : Int), j ≤ p.length ∧ Hid (g = p.length - j) ∧ i = .int .i64 j ∧ s = .int .i64 x ∧ 0 ≤ x ∧ x ≤ j ∧ Hid (turnsC tb st p = x + turnsC tb st (p.drop j)) ∧ Hid (Below w0.heap.size w0 wr))
  case atStart => exact ⟨0, 0, by omega, by simp [Hid], rfl, rfl, by omega, by omega, by simp [Hid], Below.refl _ _⟩
  case round =>
    obtain ⟨j, x, hj, hgj, rfl, rfl, hx0, hx1, HT, HB⟩ := hrel
    have r0 := (HB.out.cell (p := ⟨w.heap.size, 0, none⟩) z0).trans k0
    have r1 := (HB.out.cell (p := ⟨w.heap.size, 1, none⟩) z0).trans k1
    have hbw := b0.trans (HB.out.mono b0.size)
    clear k0 k1 hw
    by_cases hjt : j < p.length
    · obtain ⟨b3, o3, z, rfl, _, hz, hc⟩ := (Hp.out wr hbw).at_ hjt
      obtain ⟨hz0, t, ht⟩ := wk_get HWK.out hz
      have hT := HT.out
      rw [turnsC_drop hz] at hT
      obtain ⟨zn, rfl⟩ := Int.eq_ofNat_of_zero_le hz0
      have hta := tubeAt_get ht
      rw [hta] at hT
      rw [Int.toNat_natCast] at ht
      have hzt : zn < tb.length := lt_of_get ht
      have hbt := HOK.out t (List.mem_of_getElem? ht)
      obtain ⟨tn, htn⟩ : ∃ tn : Nat, t.a = (tn : Int) := ⟨t.a.toNat, by omega⟩
      have htl : tn < st.length := by omega
      obtain ⟨b4, o4, t', rfl, _, ht', c0, c1, c2⟩ := (HN.out wr hbw).at_ hzt
      obtain rfl := Option.some.inj (ht.symm.trans ht')
      obtain ⟨b5, o5, y, rfl, _, hy, hcy⟩ := (Hst.out wr hbw).at_ htl
      have hdy : dAt st t.a = y := by rw [htn]; simp [dAt, hy]
      rw [hdy] at hT
      have hzi : (zn : Int) < (tb.length : Int) := by omega
      have htl2 : (tn : Int) < (st.length : Int) := by omega
      rw [htn] at c0
      clear hz ht ht' hbt HT hta hy hdy
      by_cases hyz : y = (zn : Int)
      · have hB : (y != (zn : Int)) = false := by simp [hyz]
        have HT2 : Hid (turnsC tb st p = x + turnsC tb st (p.drop (j + 1))) := by unfold Hid; rw [if_pos hyz] at hT; omega
        have HYZ := hide hyz
        clear hyz hT hbw
        go_wp2_with fail
        go_roundg (p.length - (j + 1))
        case measure => have := hgj.out; omega
        case rel => exact ⟨j + 1, x, by omega, rfl, by go_num, rfl, by omega, by omega, HT2, HB⟩
      · have hB : (y != (zn : Int)) = true := by simp [hyz]
        have HT2 : Hid (turnsC tb st p = x + 1 + turnsC tb st (p.drop (j + 1))) := by unfold Hid; rw [if_neg hyz] at hT; omega
        have HYZ := hide hyz
        clear hyz hT hbw
        go_wp2_with fail
        go_roundg (p.length - (j + 1))
        case measure => have := hgj.out; omega
        case rel => exact ⟨j + 1, x + 1, by omega, rfl, by go_num, rfl, by omega, by omega, HT2, HB⟩
    · have hd := HT.out
      rw [turnsC_end (by omega), Int.add_zero] at hd
      go_wp2_with fail
      go_ret
      exact ⟨ret_i hd.symm, hbw⟩
end Go.Proofs.Ytklfjekpeoigoaa
namespace Go.Proofs.Ytklfjekpeoigoaa
open Go.RowKit

theorem S_ValidStock (x : List Int) (v : Value) (w : World) (hs : x.length ≤ 1048576) (_ : ∀ z ∈ x, -9223372036854775808 ≤ z ∧ z ≤ 9223372036854775807) (h : R_Int64S w w.heap.size v x) :
    Calls Try.prog 38 #[v] w fun e w' => e = .returned (.bool (vStock x)) ∧ Below w.heap.size w w' := by
  obtain ⟨A, c, rfl, r⟩ := h
  exact (specValidStock_any x A c w hs r).mono fun e w' ⟨he, hw⟩ => ⟨he, by subst hw; exact Below.refl _ _⟩
theorem P_ValidStock (x : List Int) (v : Value) (w : World) (hs : x.length ≤ 1048576) (_ : ∀ z ∈ x, -9223372036854775808 ≤ z ∧ z ≤ 9223372036854775807) (h : R_Int64S w w.heap.size v x) :
    Calls Try.prog 37 #[v] w fun e w' => e = .returned (.bool (vStock x)) ∧ Below w.heap.size w w' := by
  obtain ⟨A, c, rfl, r⟩ := h
  exact implValidStock_any x A c w hs r
end Go.Proofs.Ytklfjekpeoigoaa
namespace Go.Proofs.Ytklfjekpeoigoaa
open Go.RowKit

def okMove (n : Int) (m : T3) : Bool := inB 0 (n - 1) m.a && (inB 0 (n - 1) m.b && (!decide (m.a = m.b) && inB 1 200 m.c))
theorem okMove_iff {n : Int} {m : T3} : okMove n m = true ↔ (0 ≤ m.a ∧ m.a ≤ n - 1) ∧ (0 ≤ m.b ∧ m.b ≤ n - 1) ∧ m.a ≠ m.b ∧ (1 ≤ m.c ∧ m.c ≤ 200) := by
  simp [okMove, inB]
def vMoves (n : Int) (ms : List T3) : Bool := ms.all (okMove n) && decide (ms.length ≤ 40)

set_option maxRecDepth 100000 in
set_option maxHeartbeats 2000000 in
theorem isMove_any (n : Int) (m : T3) (w : World) (hn : 0 ≤ n) (hn' : n ≤ 1048576) :
    Calls Try.prog 238 #[.int .i64 n, .agg #[.int .i64 m.a, .int .i64 m.b, .int .i64 m.c]] w fun e w' => e = .returned (.bool (okMove n m)) ∧ Below w.heap.size w w' := by
  by_cases h1 : 0 ≤ m.a ∧ m.a ≤ n - 1
  case neg =>
    have h1' : m.a < 0 ∨ n - 1 < m.a := by omega
    have H := hide (show okMove n m = false by simp [okMove, inB_f h1'])
    clear h1
    go_enter Try.func238, Try.ntmps238
    go_wp2_with (go_at_call 186; first | (refine (within_t _ _ _ _ (by omega)).mono ?_; rintro e w' ⟨rfl, rfl⟩) | (refine (within_f _ _ _ _ (by omega)).mono ?_; rintro e w' ⟨rfl, rfl⟩))
    go_ret
    exact ⟨ret_b H.out.symm, (by repeat (first | exact Below.refl _ _ | assumption | (refine Below.alloc ?_ (by simp <;> omega) _) | refine Below.drew ?_ | refine bdn ?_ _))⟩
  by_cases h2 : 0 ≤ m.b ∧ m.b ≤ n - 1
  case neg =>
    have h2' : m.b < 0 ∨ n - 1 < m.b := by omega
    have H := hide (show okMove n m = false by simp [okMove, inB_f h2'])
    clear h2
    go_enter Try.func238, Try.ntmps238
    go_wp2_with (go_at_call 186; first | (refine (within_t _ _ _ _ (by omega)).mono ?_; rintro e w' ⟨rfl, rfl⟩) | (refine (within_f _ _ _ _ (by omega)).mono ?_; rintro e w' ⟨rfl, rfl⟩))
    go_ret
    exact ⟨ret_b H.out.symm, (by repeat (first | exact Below.refl _ _ | assumption | (refine Below.alloc ?_ (by simp <;> omega) _) | refine Below.drew ?_ | refine bdn ?_ _))⟩
  by_cases h3 : m.a = m.b
  case pos =>
    have H := hide (show okMove n m = false by simp [okMove, h3])
    have hB : (m.a != m.b) = false := by simp [h3]
    have h3' := hide h3; clear h3
    go_enter Try.func238, Try.ntmps238
    go_wp2_with (go_at_call 186; first | (refine (within_t _ _ _ _ (by omega)).mono ?_; rintro e w' ⟨rfl, rfl⟩) | (refine (within_f _ _ _ _ (by omega)).mono ?_; rintro e w' ⟨rfl, rfl⟩))
    go_ret
    exact ⟨ret_b H.out.symm, (by repeat (first | exact Below.refl _ _ | assumption | (refine Below.alloc ?_ (by simp <;> omega) _) | refine Below.drew ?_ | refine bdn ?_ _))⟩
  have hB : (m.a != m.b) = true := by simp [h3]
  by_cases h4 : 1 ≤ m.c ∧ m.c ≤ 200
  case neg =>
    have h4' : m.c < 1 ∨ 200 < m.c := by omega
    have H := hide (show okMove n m = false by simp [okMove, inB_f h4'])
    have h3' := hide h3; clear h3 h4
    go_enter Try.func238, Try.ntmps238
    go_wp2_with (go_at_call 186; first | (refine (within_t _ _ _ _ (by omega)).mono ?_; rintro e w' ⟨rfl, rfl⟩) | (refine (within_f _ _ _ _ (by omega)).mono ?_; rintro e w' ⟨rfl, rfl⟩))
    go_ret
    exact ⟨ret_b H.out.symm, (by repeat (first | exact Below.refl _ _ | assumption | (refine Below.alloc ?_ (by simp <;> omega) _) | refine Below.drew ?_ | refine bdn ?_ _))⟩
  have H := hide (okMove_iff.2 ⟨h1, h2, h3, h4⟩)
  have h3' := hide h3; clear h3
  go_enter Try.func238, Try.ntmps238
  go_wp2_with (go_at_call 186; first | (refine (within_t _ _ _ _ (by omega)).mono ?_; rintro e w' ⟨rfl, rfl⟩) | (refine (within_f _ _ _ _ (by omega)).mono ?_; rintro e w' ⟨rfl, rfl⟩))
  go_ret
  exact ⟨ret_b H.out.symm, (by repeat (first | exact Below.refl _ _ | assumption | (refine Below.alloc ?_ (by simp <;> omega) _) | refine Below.drew ?_ | refine bdn ?_ _))⟩
set_option maxRecDepth 100000 in
set_option maxHeartbeats 2000000 in
theorem l07Move_any (n : Int) (m : T3) (p q : Nat) (w : World) (hn : 0 ≤ n) (hn' : n ≤ 1048576) (c0 : w.cell? ⟨p, q, none⟩ = some (.int .i64 m.a)) (c1 : w.cell? ⟨p, q + 1, none⟩ = some (.int .i64 m.b)) (c2 : w.cell? ⟨p, q + 2, none⟩ = some (.int .i64 m.c)) :
    Calls Try.prog 144 #[.int .i64 n, .pointer (some ⟨p, q, none⟩)] w fun e w' => e = .returned (.bool (okMove n m)) ∧ Below w.heap.size w w' := by
  by_cases h1 : 0 ≤ m.a ∧ m.a ≤ n - 1
  case neg =>
    have h1' : m.a < 0 ∨ n - 1 < m.a := by omega
    have H := hide (show okMove n m = false by simp [okMove, inB_f h1'])
    clear h1
    go_enter Try.func144, Try.ntmps144
    go_wp2_with fail
    go_quiet ((go_at_call 148; first | exact ql (l00In_t _ _ _ _ (by omega)) | exact ql (l00In_f _ _ _ _ (by omega)) | exact qla (l00In_t _ _ _ _ (by omega)) | exact qla (l00In_f _ _ _ _ (by omega))))
    go_wp2_with fail
    go_ret
    exact ⟨ret_b H.out.symm, bdn (Below.refl _ _) _⟩
  by_cases h2 : 0 ≤ m.b ∧ m.b ≤ n - 1
  case neg =>
    have h2' : m.b < 0 ∨ n - 1 < m.b := by omega
    have H := hide (show okMove n m = false by simp [okMove, inB_f h2'])
    clear h2
    go_enter Try.func144, Try.ntmps144
    go_wp2_with fail
    go_quiet ((go_at_call 148; first | exact ql (l00In_t _ _ _ _ (by omega)) | exact ql (l00In_f _ _ _ _ (by omega)) | exact qla (l00In_t _ _ _ _ (by omega)) | exact qla (l00In_f _ _ _ _ (by omega))))
    go_wp2_with fail
    go_ret
    exact ⟨ret_b H.out.symm, bdn (Below.refl _ _) _⟩
  by_cases h3 : m.a = m.b
  case pos =>
    have H := hide (show okMove n m = false by simp [okMove, h3])
    have hB : (m.a != m.b) = false := by simp [h3]
    have h3' := hide h3; clear h3
    go_enter Try.func144, Try.ntmps144
    go_wp2_with fail
    go_quiet ((go_at_call 148; first | exact ql (l00In_t _ _ _ _ (by omega)) | exact ql (l00In_f _ _ _ _ (by omega)) | exact qla (l00In_t _ _ _ _ (by omega)) | exact qla (l00In_f _ _ _ _ (by omega))))
    go_wp2_with fail
    go_ret
    exact ⟨ret_b H.out.symm, bdn (Below.refl _ _) _⟩
  have hB : (m.a != m.b) = true := by simp [h3]
  by_cases h4 : 1 ≤ m.c ∧ m.c ≤ 200
  case neg =>
    have h4' : m.c < 1 ∨ 200 < m.c := by omega
    have H := hide (show okMove n m = false by simp [okMove, inB_f h4'])
    have h3' := hide h3; clear h3 h4
    go_enter Try.func144, Try.ntmps144
    go_wp2_with fail
    go_quiet ((go_at_call 148; first | exact ql (l00In_t _ _ _ _ (by omega)) | exact ql (l00In_f _ _ _ _ (by omega)) | exact qla (l00In_t _ _ _ _ (by omega)) | exact qla (l00In_f _ _ _ _ (by omega))))
    go_wp2_with fail
    go_ret
    exact ⟨ret_b H.out.symm, bdn (Below.refl _ _) _⟩
  have H := hide (okMove_iff.2 ⟨h1, h2, h3, h4⟩)
  have h3' := hide h3; clear h3
  go_enter Try.func144, Try.ntmps144
  go_wp2_with fail
  go_quiet ((go_at_call 148; first | exact ql (l00In_t _ _ _ _ (by omega)) | exact ql (l00In_f _ _ _ _ (by omega)) | exact qla (l00In_t _ _ _ _ (by omega)) | exact qla (l00In_f _ _ _ _ (by omega))))
  go_wp2_with fail
  go_ret
  exact ⟨ret_b H.out.symm, bdn (Below.refl _ _) _⟩
set_option maxRecDepth 100000 in
set_option maxHeartbeats 1000000 in
theorem areMoves1_any (n : Int) (m : T3) (b : Nat) (w : World) (hn : 0 ≤ n) (hn' : n ≤ 1048576) (hc : w.cell? ⟨b, 0, none⟩ = some (.int .i64 n)) :
    Calls Try.prog 237 #[.agg #[.int .i64 m.a, .int .i64 m.b, .int .i64 m.c], .pointer (some ⟨b, 0, none⟩)] w fun e w' => e = .returned (.bool (!okMove n m)) ∧ Below w.heap.size w w' := by
  have HC := hide fun W => isMove_any n m W hn hn'
  have hlt := World.block_lt_of_cell? w _ hc
  dsimp only at hlt
  go_enter Try.func237, Try.ntmps237
  go_wp2_with (go_at_call 238; refine (HC.out _).mono ?_; rintro e w1 ⟨rfl, hb1⟩)
  go_ret
  exact ⟨rfl, ((Below.refl _ _).alloc (Nat.le_refl _) _).trans (hb1.mono (by simp))⟩
set_option maxRecDepth 100000 in
set_option maxHeartbeats 1000000 in
theorem areMoves_any (n : Int) (xs : List T3) (A : Option Addr) (c : Nat) (w : World) (hn : 0 ≤ n) (hn' : n ≤ 1048576) (hx : xs.length ≤ 1048576) (h1 : Rd3 w w.heap.size A xs) :
    Calls Try.prog 141 #[.int .i64 n, .slice A xs.length c] w fun e w' => e = .returned (.bool (vMoves n xs)) ∧ Below w.heap.size w w' := by
  have HX := hide h1; clear h1
  by_cases hl : xs.length ≤ 40
  · go_enter Try.func141, Try.ntmps141
    go_wp2_with fail
    have hb0 : Below w.heap.size w (w.alloc (.cells #[.int .i64 n] 3)) := (by repeat (first | exact Below.refl _ _ | assumption | (refine Below.alloc ?_ (by simp <;> omega) _) | refine Below.drew ?_ | refine bdn ?_ _))
    have hcf := callFunc_gen (P := Try.prog) (F := 237) Try.func237 (by kernel_rfl) (by kernel_rfl)
    refine (containsFuncMove_any (fun z => !okMove n z) 237 _ xs A c _ (by omega) hcf ((HX.out.below hb0).more (by simp)) ?_).mono ?_
    · intro z W hW
      have e1 : W.cell? ⟨w.heap.size, 0, none⟩ = some (.int .i64 n) := by rw [hW.cell (by simp)]; simp [go_sem]
      exact areMoves1_any n z _ W hn hn' e1
    · rintro e w1 ⟨rfl, hb⟩
      rw [any_not_all]
      have HL := hide hl; clear hl
      cases ha : xs.all (okMove n)
      · have HA := hide ha; clear ha
        go_wp2_with fail
        go_ret
        exact ⟨ret_b (by unfold vMoves; rw [HA.out]; rfl), hb0.trans (hb.mono (by simp))⟩
      · have HA := hide ha; clear ha
        go_wp2_with fail
        go_ret
        exact ⟨ret_b (by unfold vMoves; rw [HA.out]; simp [HL.out]), hb0.trans (hb.mono (by simp))⟩
  · go_enter Try.func141, Try.ntmps141
    go_wp2_with fail
    go_ret
    exact ⟨ret_b (by unfold vMoves; simp; omega), (by repeat (first | exact Below.refl _ _ | assumption | (refine Below.alloc ?_ (by simp <;> omega) _) | refine Below.drew ?_ | refine bdn ?_ _))⟩
set_option maxRecDepth 100000 in
set_option maxHeartbeats 1000000 in
theorem l00Own_any (xs : List Int) (A : Option Addr) (c : Nat) (w : World) (hx : xs.length ≤ 1048576) (h1 : RdI w w.heap.size A xs) :
    Calls Try.prog 137 #[.slice A xs.length c] w fun e w' => ∃ A' c', e = .returned (.slice A' xs.length c') ∧ w'.ownsRow w.heap.size 2 1 (.slice A' xs.length c') xs.length (xs.map (Value.int .i64)) ∧ Below w.heap.size w w' := by
  obtain ⟨i0, hi0, hz0, hs0, hb0⟩ := info_parts int64_info
  have HX := hide h1; clear h1
  go_enter Try.func137, Try.ntmps137
  have ho0 := own_new0 w w.heap.size 2 1 (Nat.le_refl _)
  have hb1 : Below w.heap.size w (w.alloc (.cells #[] 2)) := (Below.refl _ _).alloc (Nat.le_refl _) _
  have HR := hide (Rd.below HX.out hb1)
  go_wp2_with (at_builtin; go_must (refine wp_app _ rfl _ _ 22 rfl w.heap.size 2 i0 (.int .i64 0) 1 8 Try.underlying22 hi0 hz0 hs0 hb0 rfl (by decide) _ _ _ rfl ho0 _ _ xs.length c _ rfl (by simp) HR.out (ints_one _) (by omega) (by decide) (by simp) ?_); intro v' w1 hown' hgrow hat)
  go_ret
  simp only [Nat.zero_add, List.nil_append] at hown'
  obtain ⟨A', c', rfl, _⟩ := own_shape hown'
  exact ⟨A', c', rfl, hown', app_below hb1 ho0 hgrow (Nat.le_refl _) (by simp)⟩
theorem own_pos' {w : World} {base : Nat} {e : TypeId} {size n c : Nat} {A : Option Addr} {xs : List Value} (h : w.ownsRow base e size (.slice A n c) n xs) (hn : 0 < n) : ∃ g, A = some ⟨g, 0, none⟩ ∧ base ≤ g ∧ g < w.heap.size := by
  rcases own_block h with ⟨_, h0, _⟩ | ⟨g, hA, h1, h2⟩
  · omega
  · exact ⟨g, hA, h1, h2⟩
theorem own_int_at {w : World} {base : Nat} {e : TypeId} {n c g : Nat} {zs : List Int} (h : w.ownsRow base e 1 (.slice (some ⟨g, 0, none⟩) n c) n (zs.map (Value.int .i64))) {i : Nat} {z : Int} (hz : zs[i]? = some z) : w.cell? ⟨g, i, none⟩ = some (.int .i64 z) := by
  have hl := h.1
  have hi := lt_of_get hz
  simp only [List.length_map, Nat.mul_one] at hl
  rw [h.cellAt i (by omega), List.getElem?_map, hz]; rfl
theorem own_int_set {w : World} {base : Nat} {e : TypeId} {n c g : Nat} {zs : List Int} (h : w.ownsRow base e 1 (.slice (some ⟨g, 0, none⟩) n c) n (zs.map (Value.int .i64))) (i : Nat) (z : Int) :
    (w.setCell ⟨g, i, none⟩ (.int .i64 z)).ownsRow base e 1 (.slice (some ⟨g, 0, none⟩) n c) n ((zs.set i z).map (Value.int .i64)) ∧ w.grownBy (w.setCell ⟨g, i, none⟩ (.int .i64 z)) (some g) := by
  have := h.stored i (.int .i64 z)
  rw [← List.map_set] at this
  exact this
set_option maxRecDepth 100000 in
set_option maxHeartbeats 2000000 in
theorem l07Send_f (base : Nat) (zs : List Int) (A : Option Addr) (cA : Nat) (i j : Nat) (c za : Int) (p q : Nat) (w : World) (hza : zs[i]? = some za) (hx : zs.length ≤ 1048576)
    (hlt : za < c) (hown : w.ownsRow base 2 1 (.slice A zs.length cA) zs.length (zs.map (Value.int .i64)))
    (c0 : w.cell? ⟨p, q, none⟩ = some (.int .i64 i)) (c1 : w.cell? ⟨p, q + 1, none⟩ = some (.int .i64 j)) (c2 : w.cell? ⟨p, q + 2, none⟩ = some (.int .i64 c)) :
    Calls Try.prog 139 #[.slice A zs.length cA, .pointer (some ⟨p, q, none⟩)] w fun e w' => e = .returned (.bool false) ∧ Below w.heap.size w w' := by
  have hi := lt_of_get hza
  obtain ⟨g, rfl, _, _⟩ := own_pos' hown (by omega)
  have hca := own_int_at hown hza
  have HZ := hide hza; have HO := hide hown; clear hza hown
  go_enter Try.func139, Try.ntmps139
  go_wp2_with fail
  go_quiet (fail)
  go_wp2_with fail
  go_ret
  exact ⟨rfl, bdn (Below.refl _ _) _⟩
set_option maxRecDepth 100000 in
set_option maxHeartbeats 2000000 in
theorem l07Send_t (base : Nat) (zs : List Int) (A : Option Addr) (cA : Nat) (i j : Nat) (c za zb : Int) (p q : Nat) (w : World) (hza : zs[i]? = some za) (hzb : zs[j]? = some zb) (hij : i ≠ j) (hx : zs.length ≤ 1048576)
    (hlt : c ≤ za) (hc1 : 1 ≤ c) (hza2 : za ≤ 1099511627776) (hzb1 : 0 ≤ zb) (hzb2 : zb ≤ 1099511627776) (hown : w.ownsRow base 2 1 (.slice A zs.length cA) zs.length (zs.map (Value.int .i64)))
    (hp : ∀ g, A = some ⟨g, 0, none⟩ → p ≠ g)
    (c0 : w.cell? ⟨p, q, none⟩ = some (.int .i64 i)) (c1 : w.cell? ⟨p, q + 1, none⟩ = some (.int .i64 j)) (c2 : w.cell? ⟨p, q + 2, none⟩ = some (.int .i64 c)) :
    Calls Try.prog 139 #[.slice A zs.length cA, .pointer (some ⟨p, q, none⟩)] w fun e w' => e = .returned (.bool true) ∧
      w'.ownsRow base 2 1 (.slice A zs.length cA) zs.length (((zs.set i (za - c)).set j (zb + c)).map (Value.int .i64)) ∧ w.grownBy w' (Value.slice A zs.length cA).ownBlock := by
  have hi := lt_of_get hza
  have hj := lt_of_get hzb
  obtain ⟨g, rfl, _, _⟩ := own_pos' hown (by omega)
  have hpg := hp g rfl
  have hca := own_int_at hown hza
  have HO := hide hown
  have HZ := hide hza; have HZB := hide hzb; have HIJ := hide hij; have HPG := hide hpg
  clear hza hzb hown hij hp hpg
  go_enter Try.func139, Try.ntmps139
  go_wp2_with fail
  go_quiet (fail)
  go_wp2_with fail
  have hbq : w.grownBy (w.drewN nq) (some g) := gdn (World.grownBy.refl _ _) nq
  have HOq : Hid ((w.drewN nq).ownsRow base 2 1 (.slice (some ⟨g, 0, none⟩) zs.length cA) zs.length (zs.map (Value.int .i64))) := HO.out
  have e0 : (w.drewN nq).cell? ⟨p, q, none⟩ = _ := c0
  have e1 : (w.drewN nq).cell? ⟨p, q + 1, none⟩ = _ := c1
  have e2 : (w.drewN nq).cell? ⟨p, q + 2, none⟩ = _ := c2
  generalize w.drewN nq = wq at *
  clear c0 c1 c2 hca
  have hca := own_int_at HOq.out HZ.out
  have hfa := HOq.out.frozenAt i
  go_still_tail 13, (by kernel_rfl)
  change wpList _ _ _ _ _ wq.drew
  have hb2 : w.grownBy wq.drew (some g) := ⟨hbq.os, hbq.tape, hbq.output, hbq.size, hbq.block⟩
  have HO2 : Hid (wq.drew.ownsRow base 2 1 (.slice (some ⟨g, 0, none⟩) zs.length cA) zs.length (zs.map (Value.int .i64))) := HOq.out
  have f0 : wq.drew.cell? ⟨p, q, none⟩ = _ := e0
  have f1 : wq.drew.cell? ⟨p, q + 1, none⟩ = _ := e1
  have f2 : wq.drew.cell? ⟨p, q + 2, none⟩ = _ := e2
  generalize wq.drew = wd at *
  clear e0 e1 e2 hca hfa
  have hca := own_int_at HO2.out HZ.out
  have hfa := HO2.out.frozenAt i
  have hs1 := own_int_set HO2.out i (za - c)
  have HO3 := hide hs1.1
  have hb3 := gtrans hb2 hs1.2
  have hcb2 := own_int_at HO3.out (show (zs.set i (za - c))[j]? = some zb by rw [List.getElem?_set_ne HIJ.out]; exact HZB.out)
  have hfb2 := HO3.out.frozenAt j
  have d0 : (wd.setCell ⟨g, i, none⟩ (.int .i64 (za - c))).cell? ⟨p, q, none⟩ = some (.int .i64 i) := (World.cell?_setCell_other _ _ _ _ (fun e => HPG.out (Addr.mk.inj e).1.symm)).trans f0
  have d1 : (wd.setCell ⟨g, i, none⟩ (.int .i64 (za - c))).cell? ⟨p, q + 1, none⟩ = some (.int .i64 j) := (World.cell?_setCell_other _ _ _ _ (fun e => HPG.out (Addr.mk.inj e).1.symm)).trans f1
  have d2 : (wd.setCell ⟨g, i, none⟩ (.int .i64 (za - c))).cell? ⟨p, q + 2, none⟩ = some (.int .i64 c) := (World.cell?_setCell_other _ _ _ _ (fun e => HPG.out (Addr.mk.inj e).1.symm)).trans f2
  clear hs1
  go_wp2_with fail
  generalize wd.setCell ⟨g, i, none⟩ (.int .i64 (za - c)) = we at *
  go_still_tail 13, (by kernel_rfl)
  change wpList _ _ _ _ _ we.drew
  have hb4 : w.grownBy we.drew (some g) := ⟨hb3.os, hb3.tape, hb3.output, hb3.size, hb3.block⟩
  have HO4 : Hid (we.drew.ownsRow base 2 1 (.slice (some ⟨g, 0, none⟩) zs.length cA) zs.length ((zs.set i (za - c)).map (Value.int .i64))) := HO3.out
  clear hcb2 hfb2 f0 f1 f2 hca hfa d0 d1 d2
  generalize we.drew = wf at *
  have hcb3 := own_int_at HO4.out (show (zs.set i (za - c))[j]? = some zb by rw [List.getElem?_set_ne HIJ.out]; exact HZB.out)
  have hfb3 := HO4.out.frozenAt j
  have hs2 := own_int_set HO4.out j (zb + c)
  have HS2 := hide hs2
  clear hs2
  go_wp2_with fail
  go_ret
  exact ⟨rfl, HS2.out.1, gtrans hb4 HS2.out.2⟩
end Go.Proofs.Ytklfjekpeoigoaa
