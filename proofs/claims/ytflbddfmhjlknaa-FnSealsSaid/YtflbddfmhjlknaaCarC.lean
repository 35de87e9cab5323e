/-
  Costs between stations, and what moves cost; in the program and in the reference.
-/
import Derived.Test.YtflbddfmhjlknaaCarSend
import Derived.Test.YtflbddfmhjlknaaNestM
namespace Go.Proofs.Ytflbddfmhjlknaa
open Go.RowKit

def costRow (n : Int) (z : TN) : Bool := decide ((z.way.length : Int) = n) && z.way.all (inB 0 1000)
def vCosts (n : Int) (l : List TN) : Bool := decide ((l.length : Int) = n) && l.all (costRow n)
theorem costRow_iff {n : Int} {z : TN} : costRow n z = true ↔ (z.way.length : Int) = n ∧ ∀ u ∈ z.way, 0 ≤ u ∧ u ≤ 1000 := by
  unfold costRow
  rw [Bool.and_eq_true, decide_eq_true_eq, List.all_eq_true]
  constructor
  · intro h; exact ⟨h.1, fun u hu => inB_iff.1 (h.2 u hu)⟩
  · intro h; exact ⟨h.1, fun u hu => inB_iff.2 (h.2 u hu)⟩
theorem vCosts_iff {n : Int} {l : List TN} : vCosts n l = true ↔ (l.length : Int) = n ∧ ∀ z ∈ l, (z.way.length : Int) = n ∧ ∀ u ∈ z.way, 0 ≤ u ∧ u ≤ 1000 := by
  unfold vCosts
  rw [Bool.and_eq_true, decide_eq_true_eq, List.all_eq_true]
  constructor
  · intro h; exact ⟨h.1, fun u hu => costRow_iff.1 (h.2 u hu)⟩
  · intro h; exact ⟨h.1, fun u hu => costRow_iff.2 (h.2 u hu)⟩
def costAt (l : List TN) (i j : Int) : Int := (((l[i.toNat]?).map fun e => e.way).getD [])[j.toNat]?.getD 0
def coGo (l : List TN) : List T3 → Int → Int
  | [], s => s
  | m :: r, s => coGo l r (s + m.c * costAt l m.a m.b)
def costOfMoves (ms : List T3) (l : List TN) : Int × Int :=
  if inB 2 10 l.length = true ∧ vCosts l.length l = true then (if vMoves l.length ms = true then (coGo l ms 0, 0) else (0, 2)) else (0, 1)
theorem coGo_drop {l : List TN} {xs : List T3} {k : Nat} {m : T3} (h : xs[k]? = some m) (s : Int) : coGo l (xs.drop k) s = coGo l (xs.drop (k + 1)) (s + m.c * costAt l m.a m.b) := by rw [drop_cons h, coGo]
set_option maxRecDepth 100000 in
set_option maxHeartbeats 4000000 in
theorem indexFuncRowN_any (p : TN → Bool) (F : FuncId) (cap : Array Value) (x : List TN) (A : Option Addr) (c : Nat) (w : World) (hx : x.length ≤ 1048576)
    (hcf : ∀ args w, (callFunc F args).run Try.prog w = .ok (.enter F args) w) (h1 : RN 0 w w.heap.size A x)
    (hp : ∀ z Aw cw W, z ∈ x → Below w.heap.size w W → RdI W W.heap.size Aw z.way → Calls Try.prog F (#[.slice Aw z.way.length cw] ++ cap) W fun e w' => e = .returned (.bool (p z)) ∧ Below W.heap.size W w') :
    Calls Try.prog 163 #[.slice A x.length c, .func (.func F) #[] cap] w fun e w' => e = .returned (.int .i64 (firstI p x 0)) ∧ Below w.heap.size w w' := by
  have HP := hide hp
  have HX := hide h1
  clear hp h1
  go_enter Try.func163, Try.ntmps163
  go_wp2_with fail
  go_loopg [8] x.length (fun g i wr => ∃ k : Nat, k ≤ x.length ∧ Hid (g = x.length - k) ∧ i = .int .i64 k ∧ Below w.heap.size w wr ∧ Hid (firstI p x 0 = firstI p (x.drop k) k))
  case atStart => exact ⟨0, by omega, by simp [Hid], rfl, Below.refl _ _, hide (by simp)⟩
  case round =>
    obtain ⟨k, hk, hg, rfl, hb, HE⟩ := hrel
    by_cases hlt : k < x.length
    · obtain ⟨b1, o1, z, Aw, cw, rfl, _, hz1, hrw, hn0, hc1, hc2⟩ := (HX.out.below hb).at_ (by omega) hlt
      rw [Nat.zero_add, Nat.mul_one] at hn0
      clear hc1 hc2
      have HQ := HP.out z Aw cw wr (List.mem_of_getElem? hz1) hb (hrw.more hb.size)
      have h := HE.out
      rw [drop_cons hz1] at h
      clear hz1 hrw
      cases hpz : p z
      · rw [hpz] at HQ
        have h' := hide (show firstI p x 0 = firstI p (x.drop (k + 1)) (k + 1) by simpa [firstI, hpz] using h)
        have HQ' := hide HQ
        clear h HQ hpz HE
        go_wp2_with fail
        refine HQ'.out.mono ?_
        rintro e w1 ⟨rfl, hb1⟩
        go_wp2_with fail
        go_roundg (x.length - (k + 1))
        case measure => have := hg.out; omega
        case rel => exact ⟨k + 1, by omega, rfl, by go_num, hb.trans (hb1.mono hb.size), h'⟩
      · rw [hpz] at HQ
        have h' := hide (show firstI p x 0 = k by simpa [firstI, hpz] using h)
        have HQ' := hide HQ
        clear h HQ hpz HE
        go_wp2_with fail
        refine HQ'.out.mono ?_
        rintro e w1 ⟨rfl, hb1⟩
        go_wp2_with fail
        go_ret
        exact ⟨ret_i h'.out.symm, hb.trans (hb1.mono hb.size)⟩
    · have h := HE.out
      rw [List.drop_eq_nil_of_le (by omega)] at h
      have HF := hide h
      clear h
      go_wp2_with fail
      go_ret
      exact ⟨ret_i (by rw [HF.out]; rfl), hb⟩
set_option maxRecDepth 100000 in
set_option maxHeartbeats 4000000 in
theorem containsFuncRowN_any (p : TN → Bool) (F : FuncId) (cap : Array Value) (x : List TN) (A : Option Addr) (c : Nat) (w : World) (hx : x.length ≤ 1048576)
    (hcf : ∀ args w, (callFunc F args).run Try.prog w = .ok (.enter F args) w) (h1 : RN 0 w w.heap.size A x)
    (hp : ∀ z Aw cw W, z ∈ x → Below w.heap.size w W → RdI W W.heap.size Aw z.way → Calls Try.prog F (#[.slice Aw z.way.length cw] ++ cap) W fun e w' => e = .returned (.bool (p z)) ∧ Below W.heap.size W w') :
    Calls Try.prog 139 #[.slice A x.length c, .func (.func F) #[] cap] w fun e w' => e = .returned (.bool (x.any p)) ∧ Below w.heap.size w w' := by
  have HC := hide (indexFuncRowN_any p F cap x A c w hx hcf h1 hp)
  clear hp h1
  have HE := hide (firstI_ge p x 0)
  go_enter Try.func139, Try.ntmps139
  go_wp2_with fail
  refine HC.out.mono ?_
  rintro e w1 ⟨rfl, hb⟩
  go_wp2_with fail
  go_ret
  exact ⟨ret_b HE.out, hb⟩
set_option maxRecDepth 100000 in
set_option maxHeartbeats 1000000 in
theorem areCosts1_any (n : Int) (z : TN) (Aw : Option Addr) (cw b : Nat) (w : World) (hx : z.way.length ≤ 1048576) (hr : RdI w w.heap.size Aw z.way) (hc : w.cell? ⟨b, 0, none⟩ = some (.int .i64 n)) :
    Calls Try.prog 140 #[.slice Aw z.way.length cw, .pointer (some ⟨b, 0, none⟩)] w fun e w' => e = .returned (.bool (!costRow n z)) ∧ Below w.heap.size w w' := by
  have HO := hide (outside_any z.way 0 1000 Aw cw w (by omega) hr)
  rw [any_not_all] at HO
  clear hr
  by_cases hl : (z.way.length : Int) = n
  · have hB : ((z.way.length : Int) != n) = false := by simp [hl]
    have HR := hide (show costRow n z = z.way.all (inB 0 1000) by unfold costRow; rw [decide_eq_true hl]; rfl)
    clear hl
    generalize z.way.all (inB 0 1000) = bb at *
    go_enter Try.func140, Try.ntmps140
    go_wp2_with (go_at_call 114; refine (HO.out).mono ?_; rintro e w1 ⟨rfl, hb1⟩)
    go_ret
    exact ⟨ret_b (by rw [HR.out]), hb1⟩
  · have hB : ((z.way.length : Int) != n) = true := by simp [hl]
    have HR := hide (show costRow n z = false by unfold costRow; rw [decide_eq_false hl]; rfl)
    clear hl
    go_enter Try.func140, Try.ntmps140
    go_wp2_with (go_at_call 114; refine (HO.out).mono ?_; rintro e w1 ⟨rfl, hb1⟩)
    go_ret
    exact ⟨ret_b (by rw [HR.out]; rfl), Below.refl _ _⟩
set_option maxRecDepth 100000 in
set_option maxHeartbeats 1000000 in
theorem areCosts_any (n : Int) (l : List TN) (A : Option Addr) (c : Nat) (w : World) (hs : SmallN l) (h1 : RN 0 w w.heap.size A l) :
    Calls Try.prog 97 #[.int .i64 n, .slice A l.length c] w fun e w' => e = .returned (.bool (vCosts n l)) ∧ Below w.heap.size w w' := by
  have hlx : l.length ≤ 1048576 := by unfold SmallN at hs; omega
  have b0 : Below w.heap.size w (w.alloc (.cells #[.int .i64 n] 3)) := (by repeat (first | exact Below.refl _ _ | assumption | (refine Below.alloc ?_ (by simp <;> omega) _) | refine Below.drew ?_ | refine bdn ?_ _))
  have z0 : w.heap.size + 1 ≤ (w.alloc (.cells #[.int .i64 n] 3)).heap.size := by simp
  have e0 : (w.alloc (.cells #[.int .i64 n] 3)).cell? ⟨w.heap.size, 0, none⟩ = some (.int .i64 n) := by simp [go_sem]
  have hcf := callFunc_gen (P := Try.prog) (F := 140) Try.func140 (by kernel_rfl) (by kernel_rfl)
  have HC := hide (containsFuncRowN_any (fun z => !costRow n z) 140 #[.pointer (some ⟨w.heap.size, 0, none⟩)] l A c _ hlx hcf ((h1.below b0).more b0.size) (fun z Aw cw W hz hW hr => by
    obtain ⟨i, hi⟩ := List.getElem?_of_mem hz
    exact areCosts1_any n z Aw cw w.heap.size W (hs.way hi) hr ((hW.cell (p := ⟨w.heap.size, 0, none⟩) z0).trans e0)))
  rw [any_not_all] at HC
  clear h1 hcf
  by_cases hl : (l.length : Int) = n
  · have hB : ((l.length : Int) == n) = true := by simp [hl]
    have HR := hide (show vCosts n l = l.all (costRow n) by unfold vCosts; rw [decide_eq_true hl]; rfl)
    clear hl
    generalize l.all (costRow n) = bb at *
    go_enter Try.func97, Try.ntmps97
    go_wp2_with (go_at_call 139; refine (HC.out).mono ?_; rintro e w1 ⟨rfl, hb1⟩)
    go_ret
    exact ⟨ret_b (by rw [HR.out] <;> simp), b0.trans (hb1.mono b0.size)⟩
  · have hB : ((l.length : Int) == n) = false := by simp [hl]
    have HR := hide (show vCosts n l = false by unfold vCosts; rw [decide_eq_false hl]; rfl)
    clear hl
    go_enter Try.func97, Try.ntmps97
    go_wp2_with (go_at_call 139; refine (HC.out).mono ?_; rintro e w1 ⟨rfl, hb1⟩)
    go_ret
    exact ⟨ret_b HR.out.symm, b0⟩
end Go.Proofs.Ytflbddfmhjlknaa
