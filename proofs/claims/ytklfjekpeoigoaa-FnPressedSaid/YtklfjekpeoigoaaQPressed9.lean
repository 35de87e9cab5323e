/-
  Zones: the changes that change nothing; in the program and in the reference.
  Zones: the first tick at which all zones of a way have a level; in the program and in the reference.
-/
import Derived.Test.YtklfjekpeoigoaaQPressed7
import Derived.Test.YtklfjekpeoigoaaQPressed6
import Derived.Test.YtklfjekpeoigoaaQPressed8
namespace Go.Proofs.Ytklfjekpeoigoaa
open Go.RowKit

theorem lvlGo_append {zone t : Int} : ∀ {us vs : List T3} {acc : Int}, lvlGo zone t acc (us ++ vs) = lvlGo zone t (lvlGo zone t acc us) vs := by
  intro us
  induction us with
  | nil => intro vs acc; rfl
  | cons a us ih => intro vs acc; rw [List.cons_append, lvlGo, lvlGo, ih]
theorem lvlGo_ticks {zone t t' : Int} : ∀ {cs : List T3} {acc : Int}, (∀ c ∈ cs, c.b = zone → (c.a ≤ t ↔ c.a ≤ t')) → lvlGo zone t acc cs = lvlGo zone t' acc cs := by
  intro cs
  induction cs with
  | nil => intro acc _; rfl
  | cons c cs ih =>
    intro acc h
    have h1 := h c (List.mem_cons_self ..)
    rw [lvlGo, lvlGo, ih fun d hd => h d (List.mem_cons_of_mem _ hd)]
    congr 1
    by_cases hz : c.b = zone
    · by_cases ht : c.a ≤ t
      · rw [if_pos ⟨hz, ht⟩, if_pos ⟨hz, (h1 hz).1 ht⟩]
      · rw [if_neg fun k => ht k.2, if_neg fun k => ht ((h1 hz).2 k.2)]
    · rw [if_neg fun k => hz k.1, if_neg fun k => hz k.1]
theorem lvl_before {x : TZ} (hv : vZoned x = true) {k : Nat} {c : T3} (hk : x.ch[k]? = some c) : lvl x.ch c.b (c.a - 1) = lvlGo c.b 10000 0 (x.ch.take k) := by
  have hc := (vZoned_iff hv).2.2.2.2
  obtain ⟨hs, ho⟩ := chOk_sorted hc
  have hl := lt_of_get hk
  have hlate : ∀ d ∈ x.ch.drop k, c.a - 1 < d.a := fun d hd => by
    rw [drop_cons hk] at hd
    rcases List.mem_cons.1 hd with rfl | hd
    · omega
    · have := ltC_iff.1 ((chOk_at hc hk).2 d hd); omega
  have hearly : ∀ d ∈ x.ch.take k, d.b = c.b → (d.a ≤ c.a - 1 ↔ d.a ≤ 10000) := fun d hd hb => by
    obtain ⟨i, hi, he⟩ := List.getElem_of_mem hd
    rw [List.getElem_take] at he
    rw [List.length_take] at hi
    have hi2 : x.ch[i]? = some d := by rw [List.getElem?_eq_getElem (by omega), he]
    have hmem : c ∈ x.ch.drop (i + 1) := by
      refine List.mem_of_getElem? (i := k - (i + 1)) ?_
      rw [List.getElem?_drop, show i + 1 + (k - (i + 1)) = k by omega]; exact hk
    have h1 := ltC_iff.1 ((chOk_at hc hi2).2 c hmem)
    have h2 := (okC_iff.1 (ho d (List.mem_of_mem_take hd))).1
    omega
  unfold lvl
  conv => lhs; rw [← List.take_append_drop k x.ch]
  rw [lvlGo_append, lvlGo_late hlate, lvlGo_ticks hearly]
theorem lvl_next {cs : List T3} {k : Nat} {c : T3} (hk : cs[k]? = some c) (zone : Int) (hc : c.a ≤ 10000) : lvlGo zone 10000 0 (cs.take (k + 1)) = if c.b = zone then c.c else lvlGo zone 10000 0 (cs.take k) := by
  obtain ⟨hl, he⟩ := List.getElem?_eq_some_iff.1 hk
  rw [List.take_succ_eq_append_getElem hl, he, lvlGo_append, lvlGo, lvlGo]
  by_cases hz : c.b = zone
  · rw [if_pos ⟨hz, hc⟩, if_pos hz]
  · rw [if_neg fun k => hz k.1, if_neg hz]
def nlC (x : TZ) (c : T3) : Bool := decide (c.c = lvl x.ch c.b (c.a - 1))
theorem nlC_t {x : TZ} {c : T3} (h : c.c = lvl x.ch c.b (c.a - 1)) : nlC x c = true := decide_eq_true h
theorem nlC_f {x : TZ} {c : T3} (h : ¬ c.c = lvl x.ch c.b (c.a - 1)) : nlC x c = false := decide_eq_false h
theorem idx_hit {α : Type} {p : α → Bool} {xs : List α} {k : Nat} {z : α} {r acc : List Int} (hz : xs[k]? = some z) (hp : p z = true) (h : r = acc ++ idxFrom p (xs.drop k) k) : r = (acc ++ [(k : Int)]) ++ idxFrom p (xs.drop (k + 1)) (k + 1) := by
  rw [h, drop_cons hz, idxFrom, if_pos hp]; simp
theorem idx_miss {α : Type} {p : α → Bool} {xs : List α} {k : Nat} {z : α} {r acc : List Int} (hz : xs[k]? = some z) (hp : p z = false) (h : r = acc ++ idxFrom p (xs.drop k) k) : r = acc ++ idxFrom p (xs.drop (k + 1)) (k + 1) := by
  rw [h, drop_cons hz, idxFrom, if_neg (by simp [hp])]
theorem own_at9 {w : World} {base : Nat} {e : TypeId} {n c g : Nat} {zs : List Int} (h : w.ownsRow base e 1 (.slice (some ⟨g, 0, none⟩) n c) n (zs.map (Value.int .i64))) {i : Nat} {z : Int} (hz : zs[i]? = some z) : w.cell? ⟨g, i, none⟩ = some (.int .i64 z) := by
  have hl := h.1
  have hi := lt_of_get hz
  simp only [List.length_map, Nat.mul_one] at hl
  rw [h.cellAt i (by omega), List.getElem?_map, hz]; rfl
theorem own_set9 {w : World} {base : Nat} {e : TypeId} {n c g : Nat} {zs : List Int} (h : w.ownsRow base e 1 (.slice (some ⟨g, 0, none⟩) n c) n (zs.map (Value.int .i64))) (i : Nat) (z : Int) :
    (w.setCell ⟨g, i, none⟩ (.int .i64 z)).ownsRow base e 1 (.slice (some ⟨g, 0, none⟩) n c) n ((zs.set i z).map (Value.int .i64)) ∧ w.grownBy (w.setCell ⟨g, i, none⟩ (.int .i64 z)) (some g) := by
  have := h.stored i (.int .i64 z)
  rw [← List.map_set] at this
  exact this
theorem own_drew9 {w : World} {base : Nat} {e : TypeId} {size n : Nat} {v : Value} {xs : List Value} (h : w.ownsRow base e size v n xs) (k : Nat) : (w.drewN k).ownsRow base e size v n xs := h
def needlessChanges (x : TZ) : List Int × Int := if vZoned x = true then (idxFrom (nlC x) x.ch 0, 0) else ([], 1)
end Go.Proofs.Ytklfjekpeoigoaa
namespace Go.Proofs.Ytklfjekpeoigoaa
open Go.RowKit

set_option maxRecDepth 100000 in
set_option maxHeartbeats 1000000 in
theorem indexFuncI_mem (p : Int → Bool) (F : FuncId) (cap : Array Value) (xs : List Int) (A : Option Addr) (c : Nat) (w : World) (hx : xs.length ≤ 9223372036854775807)
    (hcf : ∀ args w, (callFunc F args).run Try.prog w = .ok (.enter F args) w) (h1 : RdI w w.heap.size A xs)
    (hp : ∀ z W, z ∈ xs → Below w.heap.size w W → Calls Try.prog F (#[.int .i64 z] ++ cap) W fun e w' => e = .returned (.bool (p z)) ∧ Below W.heap.size W w') :
    Calls Try.prog 269 #[.slice A xs.length c, .func (.func F) #[] cap] w fun e w' => e = .returned (.int .i64 (firstI p xs 0)) ∧ Below w.heap.size w w' := by
  have HP := hide hp; clear hp
  go_enter Try.func269, Try.ntmps269
  go_wp2_with fail
  go_loopg [8] xs.length (fun g i wr => ∃ k : Nat, k ≤ xs.length ∧ g = xs.length - k ∧ i = .int .i64 k ∧ Below w.heap.size w wr ∧ Hid (firstI p xs 0 = firstI p (xs.drop k) k))
  case atStart => exact ⟨0, by omega, by omega, rfl, Below.refl _ _, hide (by simp)⟩
  case round =>
    obtain ⟨k, hk, hg, rfl, hb, HE⟩ := hrel
    have HG := hide hg; clear hg
    by_cases hlt : k < xs.length
    · obtain ⟨b, o, z, rfl, _, hz, hc⟩ := (h1.below hb).at_ hlt
      have Z := hide hz; clear hz h1
      have HQ := HP.out z wr (List.mem_of_getElem? Z.out) hb
      have h := HE.out
      rw [drop_cons Z.out] at h
      cases hpz : p z
      · rw [hpz] at HQ
        have h' := hide (show firstI p xs 0 = firstI p (xs.drop (k + 1)) (k + 1) by simpa [firstI, hpz] using h)
        have HQ' := hide HQ
        clear h HQ hpz HE
        go_wp2_with fail
        refine HQ'.out.mono ?_
        rintro e w1 ⟨rfl, hb1⟩
        go_wp2_with fail
        go_roundg (xs.length - (k + 1))
        case measure => have := HG.out; omega
        case rel => exact ⟨k + 1, by omega, rfl, by go_num, hb.trans (hb1.mono hb.size), h'⟩
      · rw [hpz] at HQ
        have h' := hide (show firstI p xs 0 = k by simpa [firstI, hpz] using h)
        have HQ' := hide HQ
        clear h HQ hpz HE
        go_wp2_with fail
        refine HQ'.out.mono ?_
        rintro e w1 ⟨rfl, hb1⟩
        go_wp2_with fail
        go_ret
        exact ⟨ret_i h'.out.symm, hb.trans (hb1.mono hb.size)⟩
    · go_wp2_with fail
      go_ret
      refine ⟨ret_i ?_, hb⟩
      have h := HE.out
      rw [List.drop_eq_nil_of_le (by omega)] at h
      rw [h]; rfl
set_option maxRecDepth 100000 in
set_option maxHeartbeats 1000000 in
theorem containsFuncI_mem (p : Int → Bool) (F : FuncId) (cap : Array Value) (xs : List Int) (A : Option Addr) (c : Nat) (w : World) (hx : xs.length ≤ 9223372036854775807)
    (hcf : ∀ args w, (callFunc F args).run Try.prog w = .ok (.enter F args) w) (h1 : RdI w w.heap.size A xs)
    (hp : ∀ z W, z ∈ xs → Below w.heap.size w W → Calls Try.prog F (#[.int .i64 z] ++ cap) W fun e w' => e = .returned (.bool (p z)) ∧ Below W.heap.size W w') :
    Calls Try.prog 228 #[.slice A xs.length c, .func (.func F) #[] cap] w fun e w' => e = .returned (.bool (xs.any p)) ∧ Below w.heap.size w w' := by
  have HC := hide (indexFuncI_mem p F cap xs A c w hx hcf h1 hp)
  clear hp
  have HE := hide (firstI_ge p xs 0)
  go_enter Try.func228, Try.ntmps228
  go_wp2_with fail
  refine HC.out.mono ?_
  rintro e w1 ⟨rfl, hb⟩
  go_wp2_with fail
  go_ret
  exact ⟨ret_b HE.out, hb⟩
/-- Have all zones of these tubes a level? -/
def ready (x : TZ) (way : List Int) (t : Int) : Bool := way.all fun u => !decide (lvl x.ch (atD x.of u) t = 0)
def raGo (p : Int → Bool) (fr : Int) : List T3 → Int
  | [] => -1
  | c :: cs => if fr < c.a ∧ p c.a = true then c.a else raGo p fr cs
theorem raGo_drop {p : Int → Bool} {fr : Int} {cs : List T3} {k : Nat} {c : T3} (h : cs[k]? = some c) : raGo p fr (cs.drop k) = if fr < c.a ∧ p c.a = true then c.a else raGo p fr (cs.drop (k + 1)) := by rw [drop_cons h, raGo]
theorem raGo_hit {p : Int → Bool} {fr r : Int} (h1 : fr < r) (h2 : p r = true) : ∀ {cs : List T3}, cs.Pairwise (fun a b => a.a ≤ b.a) → (∀ c ∈ cs, fr < c.a → p c.a = true → r ≤ c.a) → (∃ c ∈ cs, c.a = r) → raGo p fr cs = r := by
  intro cs
  induction cs with
  | nil => intro _ _ h; obtain ⟨c, hc, _⟩ := h; cases hc
  | cons c cs ih =>
    intro hp hm he
    obtain ⟨hp1, hp2⟩ := List.pairwise_cons.1 hp
    obtain ⟨d, hd, hdr⟩ := he
    rw [raGo]
    by_cases hc : fr < c.a ∧ p c.a = true
    · rw [if_pos hc]
      have h3 := hm c (List.mem_cons_self ..) hc.1 hc.2
      rcases List.mem_cons.1 hd with rfl | hd
      · exact hdr
      · have := hp1 d hd; omega
    · rw [if_neg hc]
      rcases List.mem_cons.1 hd with rfl | hd
      · exact absurd ⟨by omega, by rw [hdr]; exact h2⟩ hc
      · exact ih hp2 (fun e he => hm e (List.mem_cons_of_mem _ he)) ⟨d, hd, hdr⟩
theorem raGo_none {p : Int → Bool} {fr : Int} : ∀ {cs : List T3}, (∀ c ∈ cs, fr < c.a → p c.a = false) → raGo p fr cs = -1 := by
  intro cs
  induction cs with
  | nil => intro _; rfl
  | cons c cs ih =>
    intro h
    rw [raGo, if_neg fun k => by have := h c (List.mem_cons_self ..) k.1; rw [k.2] at this; cases this]
    exact ih fun d hd => h d (List.mem_cons_of_mem _ hd)
def raOf (p : Int → Bool) (fr : Int) : Int := findFrom p (10001 - fr).toNat fr
theorem lvl_same {cs : List T3} {zone t : Int} (h : ∀ c ∈ cs, c.a ≠ t) : lvl cs zone t = lvl cs zone (t - 1) := lvlGo_ticks fun c hc _ => by have := h c hc; omega
theorem ready_same {x : TZ} {way : List Int} {t : Int} (h : ∀ c ∈ x.ch, c.a ≠ t) : ready x way t = ready x way (t - 1) := by
  unfold ready
  congr 1
  funext u
  rw [lvl_same h]
theorem findFrom_spec {q : Int → Bool} : ∀ (n : Nat) (b : Int), (findFrom q n b = -1 ∧ ∀ c, b ≤ c → c < b + n → q c = false) ∨ (b ≤ findFrom q n b ∧ findFrom q n b < b + n ∧ q (findFrom q n b) = true ∧ ∀ c, b ≤ c → c < findFrom q n b → q c = false) := by
  intro n
  induction n with
  | zero => intro b; exact .inl ⟨rfl, fun c _ _ => by omega⟩
  | succ n ih =>
    intro b
    rw [findFrom]
    cases hb : q b
    · simp only [Bool.false_eq_true, if_false]
      rcases ih (b + 1) with ⟨h1, h2⟩ | ⟨h1, h2, h3, h4⟩
      · refine .inl ⟨h1, fun c k1 k2 => ?_⟩
        by_cases hc : c = b
        · rw [hc]; exact hb
        · exact h2 c (by omega) (by omega)
      · refine .inr ⟨by omega, by omega, h3, fun c k1 k2 => ?_⟩
        by_cases hc : c = b
        · rw [hc]; exact hb
        · exact h4 c (by omega) k2
    · simp only [if_true]
      exact .inr ⟨by omega, by omega, hb, fun c _ _ => by omega⟩
theorem raGo_eq {x : TZ} (hv : vZoned x = true) (way : List Int) (fr : Int) (hfr : 0 ≤ fr ∧ fr ≤ 10000) (hn : ready x way fr = false) : raGo (ready x way) fr x.ch = raOf (ready x way) fr := by
  obtain ⟨h1, h2⟩ := chOk_sorted (vZoned_iff hv).2.2.2.2
  unfold raOf
  rcases findFrom_spec (q := ready x way) (10001 - fr).toNat fr with ⟨e, h⟩ | ⟨k1, k2, k3, k4⟩
  · rw [e]
    exact raGo_none fun c hc hcf => h c.a (by omega) (by have := (okC_iff.1 (h2 c hc)).1; omega)
  · generalize hr : findFrom (ready x way) (10001 - fr).toNat fr = r at *
    have hne : fr ≠ r := fun e => by rw [← e, hn] at k3; cases k3
    refine raGo_hit (by omega) k3 h1 (fun c hc hcf hcp => ?_) ?_
    · refine Classical.byContradiction fun hlt => ?_
      have := k4 c.a (by omega) (by omega)
      rw [hcp] at this; cases this
    · refine Classical.byContradiction fun hno => ?_
      have hs := ready_same (x := x) (way := way) (t := r) fun c hc e => hno ⟨c, hc, e⟩
      have := k4 (r - 1) (by omega) (by omega)
      rw [← hs, k3] at this; cases this
theorem raOf_now {p : Int → Bool} {fr : Int} (h : p fr = true) (hfr : fr ≤ 10000) : raOf p fr = fr := findFrom_eq (by omega) (by omega) h fun c _ _ => by omega
def readyAt (x : TZ) (way : List Int) (fr : Int) : Int × Int := if codeWT x way fr = 0 then faTup (raOf (ready x way) fr) else (0, codeWT x way fr)
theorem codeWT_ok {x : TZ} {way : List Int} {fr : Int} (h : codeWT x way fr = 0) : codeW x way = 0 ∧ (0 ≤ fr ∧ fr ≤ 10000) := by
  unfold codeWT at h
  split at h
  · rename_i h1
    split at h
    · rename_i h2; exact ⟨h1, h2⟩
    · omega
  · rename_i h1; exact absurd h h1
set_option maxRecDepth 100000 in
set_option maxHeartbeats 4000000 in
theorem l09Ready_any (x : TZ) (way : List Int) (A : Option Addr) (c : Nat) (A2 : Option Addr) (c2 : Nat) (A3 : Option Addr) (c3 : Nat) (b : Nat) (tick : Int) (w : World) (hv : vZoned x = true) (hwl : way.length ≤ 24) (hin : ∀ z ∈ way, 0 ≤ z ∧ z ≤ (x.of.length : Int) - 1) (k1 : w.cell? ⟨b, 1, none⟩ = some (.slice A x.of.length c)) (k3 : w.cell? ⟨b, 2, none⟩ = some (.slice A2 x.ch.length c2))
    (h1 : RdI w w.heap.size A x.of) (h2 : Rd3 w w.heap.size A2 x.ch) (h3 : RdI w w.heap.size A3 way) :
    Calls Try.prog 232 #[.pointer (some ⟨b, 0, none⟩), .slice A3 way.length c3, .int .i64 tick] w fun e w' => e = .returned (.bool (ready x way tick)) ∧ Below w.heap.size w w' := by
  have hof := (vZoned_iff hv).2.1
  have hbl := World.block_lt_of_cell? w _ k1
  have HL := hide fun zone W (hW : Below w.heap.size w W) => l09Level_any x A2 c2 b zone tick W hv ((hW.cell (p := ⟨b, 2, none⟩) hbl).trans k3) ((h2.below hW).more hW.size)
  have HX := hide h1
  have HY := hide h3
  have HN := hide hin
  have K1 := hide k1
  clear h1 h2 h3 hin hv k1 k3
  go_enter Try.func232, Try.ntmps232
  go_wp2_with fail
  go_loopg [7] (way.length) (fun g i wr => ∃ k : Nat, k ≤ way.length ∧ Hid (g = way.length - k) ∧ i = .int .i64 k ∧ Hid (ready x way tick = ((way.drop k).all fun u => !decide (lvl x.ch (atD x.of u) tick = 0))) ∧ Below w.heap.size w wr)
  case atStart => exact ⟨0, by omega, by simp [Hid], rfl, by simp [Hid, ready], Below.refl _ _⟩
  case round =>
    obtain ⟨k, hk, hg, rfl, HS, hb⟩ := hrel
    by_cases hlt : k < way.length
    · obtain ⟨b2, o2, z2, rfl, _, hz2, hcb⟩ := (HY.out.below hb).at_ hlt
      have hi2 := HN.out z2 (List.mem_of_getElem? hz2)
      obtain ⟨n2, rfl⟩ := Int.eq_ofNat_of_zero_le hi2.1
      obtain ⟨b3, o3, u1, rfl, _, hu1, hcc⟩ := (HX.out.below hb).at_ (show n2 < x.of.length by omega)
      have kk := (hb.cell (p := ⟨b, 1, none⟩) hbl).trans K1.out
      have HS' := HS.out
      rw [drop_cons hz2, List.all_cons, show atD x.of (n2 : Int) = u1 by simp [atD, hu1]] at HS'
      have HQ := hide HS'
      clear HS' HS hz2 hu1
      have hl2 : (n2 : Int) < x.of.length := by omega
      have hl3 : (0 : Int) ≤ (n2 : Int) := by omega
      clear hi2
      have HC := hide fun n => HL.out u1 (wr.drewN n) (bdn hb n)
      generalize lvl x.ch u1 tick = lv at *
      by_cases he : lv = 0
      · have hB : (lv == 0) = true := by simp [he]
        have HQ' := hide (show ready x way tick = false by rw [HQ.out]; simp [he])
        clear he HQ
        go_wp2_with fail
        go_quiet ((go_at_call 225; exact ql (HC.out _)))
        go_wp2_with fail
        go_ret
        exact ⟨ret_b HQ'.out.symm, bdn hb _⟩
      · have hB : (lv == 0) = false := by simp [he]
        have HQ' := hide (show ready x way tick = ((way.drop (k + 1)).all fun u => !decide (lvl x.ch (atD x.of u) tick = 0)) by rw [HQ.out]; simp [he])
        clear he HQ
        go_wp2_with fail
        go_quiet ((go_at_call 225; exact ql (HC.out _)))
        go_wp2_with fail
        go_roundg (way.length - (k + 1))
        case measure => have := hg.out; omega
        case rel => exact ⟨k + 1, by omega, rfl, by go_num, HQ', bdn hb _⟩
    · have HQ := hide (show ready x way tick = true by rw [HS.out, List.drop_eq_nil_of_le (by omega)]; rfl)
      go_wp2_with fail
      go_ret
      exact ⟨ret_b HQ.out.symm, hb⟩
set_option maxRecDepth 100000 in
set_option maxHeartbeats 4000000 in
theorem readyAt1_any (x : TZ) (A : Option Addr) (c : Nat) (A2 : Option Addr) (c2 : Nat) (zb tb n : Nat) (tick : Int) (w : World) (hs : Small_Zoned x) (hn : n < x.of.length) (X : BoxAt w zb #[.int .i64 x.z, .slice A x.of.length c, .slice A2 x.ch.length c2] 114) (T : BoxAt w tb #[.int .i64 tick] 2) (h1 : RdI w w.heap.size A x.of) (h2 : Rd3 w w.heap.size A2 x.ch) :
    Calls Try.prog 229 #[.int .i64 (n : Int), .pointer (some ⟨zb, 0, none⟩), .pointer (some ⟨tb, 0, none⟩)] w fun e w' => e = .returned (.bool (decide (lvl x.ch (atD x.of n) tick = 0))) ∧ Below w.heap.size w w' := by
  obtain ⟨b3, o3, u1, rfl, hb3, hu1, hcc⟩ := h1.at_ hn
  have hrz : R_Zoned w w.heap.size (.agg #[.int .i64 x.z, .slice (some ⟨b3, o3, none⟩) x.of.length c, .slice A2 x.ch.length c2]) x := ⟨_, _, _, _, rfl, h1, h2⟩
  have HL := hide fun W (hW : Below w.heap.size w W) => levelAt_any x (.agg #[.int .i64 x.z, .slice (some ⟨b3, o3, none⟩) x.of.length c, .slice A2 x.ch.length c2]) u1 tick W hs ((hrz.below hW).more hW.size)
  have HR := hide (show (decide (lvl x.ch (atD x.of n) tick = 0)) = (lvl x.ch u1 tick == 0) by rw [show atD x.of (n : Int) = u1 by simp [atD, hu1]]; rfl)
  have hxl := X.lt
  have htl := T.lt
  have hcl := World.block_lt_of_cell? w _ hcc
  dsimp only at hcl
  have hn1 : (n : Int) < x.of.length := by omega
  have hn0 : (0 : Int) ≤ (n : Int) := by omega
  have e0 : w.drew.cell? ⟨zb, 0, none⟩ = some (.int .i64 x.z) := by have := X.cell 0; simpa using this
  have e1 : w.drew.cell? ⟨zb, 1, none⟩ = some (.slice (some ⟨b3, o3, none⟩) x.of.length c) := by have := X.cell 1; simpa using this
  have e2 : w.drew.cell? ⟨zb, 2, none⟩ = some (.slice A2 x.ch.length c2) := by have := X.cell 2; simpa using this
  have e3 : w.drew.cell? ⟨tb, 0, none⟩ = some (.int .i64 tick) := by have := T.cell 0; simpa using this
  have e4 : w.drew.cell? ⟨b3, o3 + n, none⟩ = some (.int .i64 u1) := hcc
  have bd : Below w.heap.size w w.drew := (Below.refl _ _).drew
  have hsd : w.drew.heap.size = w.heap.size := rfl
  have HQ := hide (HL.out w.drew bd)
  clear h1 h2 hrz hu1 hcc HL X T
  generalize lvl x.ch u1 tick = lv at *
  go_enter Try.func229, Try.ntmps229
  go_wp2_with fail
  refine wp_region_held_drew (S := fun W => W.cell? ⟨zb, 0, none⟩ = some (.int .i64 x.z) ∧ W.cell? ⟨zb, 1, none⟩ = some (.slice (some ⟨b3, o3, none⟩) x.of.length c) ∧ W.cell? ⟨zb, 2, none⟩ = some (.slice A2 x.ch.length c2) ∧ W.cell? ⟨tb, 0, none⟩ = some (.int .i64 tick) ∧ W.cell? ⟨b3, o3 + n, none⟩ = some (.int .i64 u1)) (by kernel_rfl) (⟨e0, e1, e2, e3, e4⟩) (fun hHeld => ?_)
  refine wpAnyH_take (i := 0) (v := ?_) rfl (by kernel_rfl) (by kernel_rfl) (by kernel_rfl) (fun _ _ _ h => h) (Or.inl ⟨by rfl, ?_⟩) (by assumption) ?_
  rotate_left 1
  · (intro w hSw; (try dsimp only at hSw); go_simp; try with_reducible rfl)
  try simp only [Act.put, List.getElem_toArray, List.getElem_cons_succ, List.getElem_cons_zero, List.setIfInBounds_toArray, List.set_cons_zero, List.set_cons_succ]
  refine wpAnyH_take (i := 1) (v := ?_) rfl (by kernel_rfl) (by kernel_rfl) (by kernel_rfl) (fun _ _ _ h => h) (Or.inl ⟨by rfl, ?_⟩) (by assumption) ?_
  rotate_left 1
  · (intro w hSw; (try dsimp only at hSw); go_simp; try with_reducible rfl)
  try simp only [Act.put, List.getElem_toArray, List.getElem_cons_succ, List.getElem_cons_zero, List.setIfInBounds_toArray, List.set_cons_zero, List.set_cons_succ]
  refine wpAnyH_take (i := 2) (v := ?_) rfl (by kernel_rfl) (by kernel_rfl) (by kernel_rfl) (fun _ _ _ h => h) (Or.inl ⟨by rfl, ?_⟩) (by assumption) ?_
  rotate_left 1
  · (intro w hSw; (try dsimp only at hSw); go_simp; try with_reducible rfl)
  try simp only [Act.put, List.getElem_toArray, List.getElem_cons_succ, List.getElem_cons_zero, List.setIfInBounds_toArray, List.set_cons_zero, List.set_cons_succ]
  refine wpAnyH_take (i := 3) (v := ?_) rfl (by kernel_rfl) (by kernel_rfl) (by kernel_rfl) (fun _ _ _ h => h) (Or.inl ⟨by rfl, ?_⟩) (by assumption) ?_
  rotate_left 1
  · (intro w hSw; (try dsimp only at hSw); go_simp; try with_reducible rfl)
  try simp only [Act.put, List.getElem_toArray, List.getElem_cons_succ, List.getElem_cons_zero, List.setIfInBounds_toArray, List.set_cons_zero, List.set_cons_succ]
  refine wpAnyH_take (i := 4) (v := ?_) rfl (by kernel_rfl) (by kernel_rfl) (by kernel_rfl) (fun _ _ _ h => h) (Or.inl ⟨by rfl, ?_⟩) (by assumption) ?_
  rotate_left 1
  · (intro w hSw; (try dsimp only at hSw); go_simp; try with_reducible rfl)
  try simp only [Act.put, List.getElem_toArray, List.getElem_cons_succ, List.getElem_cons_zero, List.setIfInBounds_toArray, List.set_cons_zero, List.set_cons_succ]
  refine wpAnyH_take (i := 5) (v := ?_) rfl (by kernel_rfl) (by kernel_rfl) (by kernel_rfl) (fun _ _ _ h => h) (Or.inl ⟨by rfl, ?_⟩) (by assumption) ?_
  rotate_left 1
  · (intro w hSw; (try dsimp only at hSw); go_simp; try with_reducible rfl)
  try simp only [Act.put, List.getElem_toArray, List.getElem_cons_succ, List.getElem_cons_zero, List.setIfInBounds_toArray, List.set_cons_zero, List.set_cons_succ]
  refine wpAnyH_take (i := 6) (v := ?_) rfl (by kernel_rfl) (by kernel_rfl) (by kernel_rfl) (fun _ _ _ h => h) (Or.inl ⟨by rfl, ?_⟩) (by assumption) ?_
  rotate_left 1
  · (intro w hSw; (try dsimp only at hSw); go_simp; try with_reducible rfl)
  try simp only [Act.put, List.getElem_toArray, List.getElem_cons_succ, List.getElem_cons_zero, List.setIfInBounds_toArray, List.set_cons_zero, List.set_cons_succ]
  refine wpAnyH_ready (rs := [7]) (by kernel_rfl) (by simp) ?_
  refine AllReadyH.cons rfl (fun K hK => ?_) AllReadyH.nil
  try simp only [Act.put, List.getElem_toArray, List.getElem_cons_succ, List.getElem_cons_zero, List.setIfInBounds_toArray, List.set_cons_zero, List.set_cons_succ]
  go_simp
  go_at_call 222
  refine HQ.out.mono ?_
  rintro e w2 ⟨rfl, s2⟩
  have f0 := (s2.cell (p := ⟨zb, 0, none⟩) (by dsimp only; omega)).trans e0
  have f1 := (s2.cell (p := ⟨zb, 1, none⟩) (by dsimp only; omega)).trans e1
  have f2 := (s2.cell (p := ⟨zb, 2, none⟩) (by dsimp only; omega)).trans e2
  have f3 := (s2.cell (p := ⟨tb, 0, none⟩) (by dsimp only; omega)).trans e3
  have f4 := (s2.cell (p := ⟨b3, o3 + n, none⟩) (by dsimp only; omega)).trans e4
  dsimp only
  refine hK.out _ _ (⟨f0, f1, f2, f3, f4⟩) (fun hHeld => ?_)
  clear hK K
  try simp only [Act.put, List.getElem_toArray, List.getElem_cons_succ, List.getElem_cons_zero, List.setIfInBounds_toArray, List.set_cons_zero, List.set_cons_succ]
  refine wpAnyH_take (i := 8) (v := ?_) rfl (by kernel_rfl) (by kernel_rfl) (by kernel_rfl) (fun _ _ _ h => h) (Or.inl ⟨by rfl, ?_⟩) (by assumption) ?_
  rotate_left 1
  · (intro w hSw; (try dsimp only at hSw); go_simp; try with_reducible rfl)
  try simp only [Act.put, List.getElem_toArray, List.getElem_cons_succ, List.getElem_cons_zero, List.setIfInBounds_toArray, List.set_cons_zero, List.set_cons_succ]
  refine wpAnyH_take (i := 9) (v := ?_) rfl (by kernel_rfl) (by kernel_rfl) (by kernel_rfl) (fun _ _ _ h => h) (Or.inl ⟨by rfl, ?_⟩) (by assumption) ?_
  rotate_left 1
  · (intro w hSw; (try dsimp only at hSw); go_simp; try with_reducible rfl)
  try simp only [Act.put, List.getElem_toArray, List.getElem_cons_succ, List.getElem_cons_zero, List.setIfInBounds_toArray, List.set_cons_zero, List.set_cons_succ]
  refine wpAnyH_done (by kernel_rfl) ?_ _
  go_wp2_with fail
  go_ret
  exact ⟨ret_b HR.out.symm, bd.trans s2⟩
set_option maxRecDepth 100000 in
set_option maxHeartbeats 4000000 in
theorem S_ReadyAt (x : TZ) (v : Value) (way : List Int) (u : Value) (from_ : Int) (w : World) (hs : Small_Zoned x) (hf : Fit_Zoned x) (h : R_Zoned w w.heap.size v x) (hwl : way.length ≤ 1048576) (_ : ∀ z ∈ way, -9223372036854775808 ≤ z ∧ z ≤ 9223372036854775807) (k : R_Int64S w w.heap.size u way) (_ : -9223372036854775808 ≤ from_) (_ : from_ ≤ 9223372036854775807) :
    Calls Try.prog 106 #[v, u, .int .i64 from_] w fun e w' => e = .returned (.tuple #[.int .i64 (readyAt x way from_).1, .int .i64 (readyAt x way from_).2]) ∧ Below w.heap.size w w' := by
  obtain ⟨A, c, A2, c2, rfl, h1, h2⟩ := h
  obtain ⟨A3, c3, rfl, h3⟩ := k
  have b0 : Below w.heap.size w (w.alloc (.cells #[.int .i64 x.z, .slice A x.of.length c, .slice A2 x.ch.length c2] 114)) := (by repeat (first | exact Below.refl _ _ | assumption | (refine Below.alloc ?_ (by simp <;> omega) _) | refine Below.drew ?_ | refine bdn ?_ _))
  have HC := hide (l09Way_any x way A c A2 c2 A3 c3 w.heap.size (w.alloc (.cells #[.int .i64 x.z, .slice A x.of.length c, .slice A2 x.ch.length c2] 114)) hs hwl (by simp [go_sem]) (by simp [go_sem]) (by simp [go_sem]) ((h1.below b0).more b0.size) ((h2.below b0).more b0.size) ((h3.below b0).more b0.size))
  have HT := hide fun W => l09Tick_any from_ W
  have z0 : w.heap.size + 1 ≤ (w.alloc (.cells #[.int .i64 x.z, .slice A x.of.length c, .slice A2 x.ch.length c2] 114)).heap.size := by simp
  have X0 := hide (BoxAt.new w #[.int .i64 x.z, .slice A x.of.length c, .slice A2 x.ch.length c2] 114)
  have HM := hide h2
  by_cases hc : codeW x way = 0
  case neg =>
    have HR := hide (show readyAt x way from_ = (0, codeW x way) by have : codeWT x way from_ = codeW x way := if_neg hc; unfold readyAt; rw [this, if_neg hc])
    have hne : (codeW x way != 0) = true := by simp [hc]
    have hnf : (codeW x way == 0) = false := by simp [hc]
    clear h1 h2 h3
    generalize codeW x way = cd at *
    go_enter Try.func106, Try.ntmps106
    go_wp2_with (go_at_call 230; refine (HC.out).mono ?_; rintro e w1 ⟨rfl, hb1⟩)
    go_ret2
    exact ⟨by rw [HR.out]; rfl, b0.trans (hb1.mono b0.size)⟩
  by_cases ht : 0 ≤ from_ ∧ from_ ≤ 10000
  case neg =>
    have HR := hide (show readyAt x way from_ = (0, 2) by have : codeWT x way from_ = 2 := by unfold codeWT; rw [if_pos hc, if_neg ht]
                                                          unfold readyAt; rw [this]; rfl)
    rw [hc] at HC
    rw [show inB 0 10000 from_ = false from inB_f (by omega)] at HT
    clear h1 h2 h3 ht hc
    go_enter Try.func106, Try.ntmps106
    go_wp2_with (first | (go_at_call 230; refine (HC.out).mono ?_; rintro e w1 ⟨rfl, hb1⟩) | (go_at_call 231; refine (HT.out _).mono ?_; rintro e w' ⟨rfl, rfl⟩))
    go_ret2
    exact ⟨by rw [HR.out]; rfl, b0.trans (hb1.mono b0.size)⟩
  obtain ⟨hv, hw24, hin⟩ := codeW_ok hc
  have HR := hide (show readyAt x way from_ = faTup (raOf (ready x way) from_) by have : codeWT x way from_ = 0 := by unfold codeWT; rw [if_pos hc, if_pos ht]
                                                                                  unfold readyAt; rw [if_pos this])
  have HD := hide fun tick W (hW : Below (w.heap.size + 1) (w.alloc (.cells #[.int .i64 x.z, .slice A x.of.length c, .slice A2 x.ch.length c2] 114)) W) => l09Ready_any x way A c A2 c2 A3 c3 w.heap.size tick W hv hw24 hin (by have := (X0.out.below hW (by omega)).cell 1; simpa using this) (by have := (X0.out.below hW (by omega)).cell 2; simpa using this) ((h1.below (b0.trans (hW.mono (by omega)))).more (by have := hW.size; omega)) ((h2.below (b0.trans (hW.mono (by omega)))).more (by have := hW.size; omega)) ((h3.below (b0.trans (hW.mono (by omega)))).more (by have := hW.size; omega))
  have HO := hide (chOk_sorted (vZoned_iff hv).2.2.2.2).2
  have h60 := (vZoned_iff hv).2.2.1
  have HG := hide fun hn => raGo_eq hv way from_ ht hn
  have HN := hide fun hn => raOf_now (p := ready x way) hn ht.2
  rw [hc] at HC
  rw [inB_t ht] at HT
  obtain ⟨ht1, ht2⟩ := ht
  clear h1 h2 h3 hc hv hin
  cases hr : ready x way from_
  case true =>
    have HF := hide (HN.out hr)
    clear HG HN
    go_enter Try.func106, Try.ntmps106
    go_wp2_with (first | (go_at_call 230; refine (HC.out).mono ?_; rintro e w1 ⟨rfl, hb1⟩; have hb2 : Below (w.heap.size + 1) (w.alloc (.cells #[.int .i64 x.z, .slice A x.of.length c, .slice A2 x.ch.length c2] 114)) w1 := hb1.mono z0; have HD1 := HD.out from_ w1 hb2; rw [hr] at HD1) | (go_at_call 231; refine (HT.out _).mono ?_; rintro e w' ⟨rfl, rfl⟩) | (go_at_call 232; refine (HD1).mono ?_; rintro e w2 ⟨rfl, hb3⟩))
    go_ret2
    exact ⟨by rw [HR.out, HF.out, faTup, if_neg (by omega)]; rfl, b0.trans ((hb2.trans (hb3.mono (by have := hb2.size; omega))).mono (by omega))⟩
  have HF := hide (HG.out hr)
  clear HG HN
  go_enter Try.func106, Try.ntmps106
  go_wp2_with (first | (go_at_call 230; refine (HC.out).mono ?_; rintro e w1 ⟨rfl, hb1⟩; have hb2 : Below (w.heap.size + 1) (w.alloc (.cells #[.int .i64 x.z, .slice A x.of.length c, .slice A2 x.ch.length c2] 114)) w1 := hb1.mono z0; have HD1 := HD.out from_ w1 hb2; rw [hr] at HD1) | (go_at_call 231; refine (HT.out _).mono ?_; rintro e w' ⟨rfl, rfl⟩) | (go_at_call 232; refine (HD1).mono ?_; rintro e w2 ⟨rfl, hb3⟩))
  have hb4 : Below (w.heap.size + 1) (w.alloc (.cells #[.int .i64 x.z, .slice A x.of.length c, .slice A2 x.ch.length c2] 114)) w2 := hb2.trans (hb3.mono (by have := hb2.size; omega))
  clear hb3 hb2 hb1 HD1 hr
  go_loopg [9] (x.ch.length) (fun g i wr => ∃ k : Nat, k ≤ x.ch.length ∧ Hid (g = x.ch.length - k) ∧ i = .int .i64 k ∧ Hid (raOf (ready x way) from_ = raGo (ready x way) from_ (x.ch.drop k)) ∧ Below (w.heap.size + 1) (w.alloc (.cells #[.int .i64 x.z, .slice A x.of.length c, .slice A2 x.ch.length c2] 114)) wr)
  case atStart => exact ⟨0, by omega, by simp [Hid], rfl, by have := HF.out; simpa [Hid] using this.symm, hb4⟩
  case round =>
    obtain ⟨k, hk, hg, rfl, HS, hb⟩ := hrel
    clear hb4 HF
    have hsz : w.heap.size + 1 ≤ wr.heap.size := by have := hb.size; omega
    have X1 := X0.out.below hb (by omega)
    have k2 := X1.cell 2
    simp only [List.getElem?_cons_succ, List.getElem?_cons_zero] at k2
    have bw : Below w.heap.size w wr := b0.trans (hb.mono (by omega))
    by_cases hlt : k < x.ch.length
    · obtain ⟨b1, o1, z1, rfl, hbb, hz1, hca, hcb, hcc⟩ := (HM.out.below bw).at_ hlt
      have hok := (okC_iff.1 (HO.out z1 (List.mem_of_getElem? hz1))).1
      have HS' := HS.out
      rw [raGo_drop hz1] at HS'
      clear hz1 HS
      by_cases ga : from_ < z1.a
      case neg =>
        have HQ := hide (HS'.trans (if_neg fun h => ga h.1))
        clear HS'
        go_wp2_with fail
        go_roundg (x.ch.length - (k + 1))
        case measure => have := hg.out; omega
        case rel => exact ⟨k + 1, by omega, rfl, by go_num, HQ, hb⟩
      have HD1 := hide (HD.out z1.a wr hb)
      cases hr : ready x way z1.a
      · have HQ := hide (HS'.trans (if_neg fun h => by rw [hr] at h; cases h.2))
        rw [hr] at HD1
        clear HS' hr
        go_wp2_with (go_at_call 232; refine (HD1.out).mono ?_; rintro e w3 ⟨rfl, hb5⟩)
        go_roundg (x.ch.length - (k + 1))
        case measure => have := hg.out; omega
        case rel => exact ⟨k + 1, by omega, rfl, by go_num, HQ, hb.trans (hb5.mono hsz)⟩
      · have HQ := hide (HS'.trans (if_pos ⟨ga, hr⟩))
        rw [hr] at HD1
        clear HS' hr
        have hcl := World.block_lt_of_cell? wr _ hca
        dsimp only at hcl
        have hxl := X1.lt
        go_wp2_with (go_at_call 232; refine (HD1.out).mono ?_; rintro e w3 ⟨rfl, hb5⟩; have q2 := (hb5.cell (p := ⟨w.heap.size, 2, none⟩) hxl).trans k2; have qa := (hb5.cell (p := ⟨b1, o1 + k * 3, none⟩) hcl).trans hca)
        go_ret2
        exact ⟨by rw [HR.out, HQ.out, faTup, if_neg (by omega)]; rfl, bw.trans (hb5.mono bw.size)⟩
    · have HQ := hide (HS.out.trans (by rw [List.drop_eq_nil_of_le (by omega), raGo] : _ = (-1 : Int)))
      go_wp2_with fail
      go_ret2
      exact ⟨by rw [HR.out, HQ.out]; rfl, bw⟩
set_option maxRecDepth 100000 in
set_option maxHeartbeats 4000000 in
theorem P_ReadyAt (x : TZ) (v : Value) (way : List Int) (u : Value) (from_ : Int) (w : World) (hs : Small_Zoned x) (hf : Fit_Zoned x) (h : R_Zoned w w.heap.size v x) (hwl : way.length ≤ 1048576) (_ : ∀ z ∈ way, -9223372036854775808 ≤ z ∧ z ≤ 9223372036854775807) (k : R_Int64S w w.heap.size u way) (_ : -9223372036854775808 ≤ from_) (_ : from_ ≤ 9223372036854775807) :
    Calls Try.prog 105 #[v, u, .int .i64 from_] w fun e w' => e = .returned (.tuple #[.int .i64 (readyAt x way from_).1, .int .i64 (readyAt x way from_).2]) ∧ Below w.heap.size w w' := by
  have h0 := h
  obtain ⟨A, c, A2, c2, rfl, h1, h2⟩ := h0
  obtain ⟨A3, c3, rfl, h3⟩ := k
  have b0 : Below w.heap.size w (w.alloc (.cells #[.int .i64 x.z, .slice A x.of.length c, .slice A2 x.ch.length c2] 114)) := (by repeat (first | exact Below.refl _ _ | assumption | (refine Below.alloc ?_ (by simp <;> omega) _) | refine Below.drew ?_ | refine bdn ?_ _))
  have HC := hide (zonedCode_any x _ way A3 c3 from_ _ hs hf ((h.below b0).more b0.size) hwl ((h3.below b0).more b0.size))
  have z0 : w.heap.size + 1 ≤ (w.alloc (.cells #[.int .i64 x.z, .slice A x.of.length c, .slice A2 x.ch.length c2] 114)).heap.size := by simp
  have X0 := hide (BoxAt.new w #[.int .i64 x.z, .slice A x.of.length c, .slice A2 x.ch.length c2] 114)
  by_cases hc : codeWT x way from_ = 0
  case neg =>
    have HR := hide (show readyAt x way from_ = (0, codeWT x way from_) by unfold readyAt; rw [if_neg hc])
    have hne : (codeWT x way from_ != 0) = true := by simp [hc]
    clear h h1 h2 h3
    generalize codeWT x way from_ = cd at *
    go_enter Try.func105, Try.ntmps105
    go_wp2_with (go_at_call 227; refine (HC.out).mono ?_; rintro e w1 ⟨rfl, hb1⟩)
    go_ret2
    exact ⟨by rw [HR.out]; rfl, b0.trans (hb1.mono b0.size)⟩
  obtain ⟨hcw, ht⟩ := codeWT_ok hc
  obtain ⟨hv, hw24, hin⟩ := codeW_ok hcw
  have HR := hide (show readyAt x way from_ = faTup (raOf (ready x way) from_) by unfold readyAt; rw [if_pos hc])
  have hcf := callFunc_gen (P := Try.prog) (F := 229) Try.func229 (by kernel_rfl) (by kernel_rfl)
  have HD := hide fun (tb : Nat) (tick : Int) W (hW : Below (w.heap.size + 1) (w.alloc (.cells #[.int .i64 x.z, .slice A x.of.length c, .slice A2 x.ch.length c2] 114)) W) (T : BoxAt W tb #[.int .i64 tick] 2) => containsFuncI_mem (fun u => decide (lvl x.ch (atD x.of u) tick = 0)) 229 #[.pointer (some ⟨w.heap.size, 0, none⟩), .pointer (some ⟨tb, 0, none⟩)] way A3 c3 W (by omega) hcf ((h3.below (b0.trans (hW.mono (by omega)))).more (by have := hW.size; omega)) (fun z W' hz hW' => by
    have hz' := hin z hz
    obtain ⟨n, rfl⟩ := Int.eq_ofNat_of_zero_le hz'.1
    have hbb := b0.trans ((hW.trans (hW'.mono (by have := hW.size; omega))).mono (by omega : w.heap.size ≤ w.heap.size + 1))
    exact readyAt1_any x A c A2 c2 w.heap.size tb n tick W' hs (by omega) ((X0.out.below hW (by omega)).below hW' (by have := hW.size; omega)) (T.below hW' T.lt) ((h1.below hbb).more hbb.size) ((h2.below hbb).more hbb.size))
  rw [hc] at HC
  obtain ⟨ht1, ht2⟩ := ht
  clear h h1 h2 h3 hc hv hin hcw hcf
  go_enter Try.func105, Try.ntmps105
  go_wp2_with (go_at_call 227; refine (HC.out).mono ?_; rintro e w1 ⟨rfl, hb1⟩)
  have hb2 : Below (w.heap.size + 1) (w.alloc (.cells #[.int .i64 x.z, .slice A x.of.length c, .slice A2 x.ch.length c2] 114)) w1 := hb1.mono z0
  have hb3 : Below (w.heap.size + 1) (w.alloc (.cells #[.int .i64 x.z, .slice A x.of.length c, .slice A2 x.ch.length c2] 114)) (w1.alloc (.cells #[.int .i64 from_] 2)) := hb2.alloc (by have := hb2.size; omega) _
  have T0 := BoxAt.new w1 #[.int .i64 from_] 2
  have hl1 : w.heap.size + 1 ≤ w1.heap.size := by have := hb2.size; omega
  go_loopg [9] ((10001 - from_).toNat) (fun g s wr => ∃ (t : Int) (tb : Nat), s = .pointer (some ⟨tb, 0, none⟩) ∧ w.heap.size + 1 ≤ tb ∧ BoxAt wr tb #[.int .i64 t] 2 ∧ from_ ≤ t ∧ t ≤ 10001 ∧ Hid (g = (10001 - t).toNat) ∧ Hid (∀ b, from_ ≤ b → b < t → ready x way b = false) ∧ Below (w.heap.size + 1) (w.alloc (.cells #[.int .i64 x.z, .slice A x.of.length c, .slice A2 x.ch.length c2] 114)) wr)
  case atStart => exact ⟨from_, w1.heap.size, rfl, hl1, T0, by omega, by omega, by simp [Hid], hide (fun b k1 k2 => by omega), hb3⟩
  case round =>
    obtain ⟨t, tb, rfl, htb, T1, hr1, hr2, hg, HS, hb⟩ := hrel
    clear hb3 hb2 hb1 T0 hl1
    have hsz : w.heap.size + 1 ≤ wr.heap.size := by have := hb.size; omega
    have bw : Below w.heap.size w wr := b0.trans (hb.mono (by omega))
    have kt := T1.cell 0
    simp only [List.getElem?_cons_zero] at kt
    have htl := T1.lt
    have T2 := hide T1
    by_cases hlt : t ≤ 10000
    · have HD1 := hide (HD.out tb t wr hb T1)
      have hrd : (way.any fun u => decide (lvl x.ch (atD x.of u) t = 0)) = !ready x way t := by unfold ready; rw [List.all_eq_not_any_not]; simp
      rw [hrd] at HD1
      clear hrd T1
      cases hr : ready x way t
      · rw [hr] at HD1
        have HS' : Hid (∀ b, from_ ≤ b → b < t + 1 → ready x way b = false) := fun b k1 k2 => by
          by_cases hbt : b = t
          · rw [hbt]; exact hr
          · exact HS.out b k1 (by omega)
        clear hr HS
        go_wp2_with (go_at_call 228; refine (HD1.out).mono ?_; rintro e w2 ⟨rfl, hb5⟩; have T3 := T2.out.below hb5 htl; have q0 := T3.cell 0; simp only [List.getElem?_cons_zero] at q0)
        have hl2 : w.heap.size + 1 ≤ w2.heap.size := by have := hb5.size; omega
        have T4 := BoxAt.new w2 #[.int .i64 (t + 1)] 2
        have hb6 := (hb.trans (hb5.mono hsz)).alloc hl2 (.cells #[.int .i64 (t + 1)] 2)
        go_roundg ((10001 - (t + 1)).toNat)
        case measure => have := hg.out; omega
        case rel => exact ⟨t + 1, w2.heap.size, rfl, hl2, T4, by omega, by omega, rfl, HS', hb6⟩
      · rw [hr] at HD1
        have HF := hide (findFrom_eq (q := ready x way) (n := (10001 - from_).toNat) hr1 (by omega) hr HS.out)
        clear hr HS
        go_wp2_with (go_at_call 228; refine (HD1.out).mono ?_; rintro e w2 ⟨rfl, hb5⟩; have T3 := T2.out.below hb5 htl; have q0 := T3.cell 0; simp only [List.getElem?_cons_zero] at q0)
        go_ret2
        exact ⟨by rw [HR.out, raOf, HF.out, faTup, if_neg (by omega)]; rfl, bw.trans (hb5.mono bw.size)⟩
    · have HF := hide (findFrom_none (q := ready x way) (n := (10001 - from_).toNat) (b := from_) fun c k1 k2 => HS.out c k1 (by omega))
      go_wp2_with fail
      go_ret2
      exact ⟨by rw [HR.out, raOf, HF.out]; rfl, bw⟩
end Go.Proofs.Ytklfjekpeoigoaa
