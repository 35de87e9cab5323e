/-
  The spans and the end of a run, and the first meeting, in the program.
-/
import Derived.Test.YtflbddfmhjlknaaSrc9
import Derived.Test.YtflbddfmhjlknaaRunK
import Derived.Test.YtflbddfmhjlknaaRunF
import Derived.Test.YtflbddfmhjlknaaRunV
import Derived.Test.YtflbddfmhjlknaaRec
namespace Go.Proofs.Ytflbddfmhjlknaa
open Go.RowKit

set_option maxRecDepth 100000 in
set_option maxHeartbeats 1000000 in
theorem indexFuncSpanB_any (p : T3 → Bool) (F : FuncId) (S : Value) (xs : List T3) (A : Option Addr) (c : Nat) (w : World) (hx : xs.length ≤ 9223372036854775807)
    (hcf : ∀ args w, (callFunc F args).run Try.prog w = .ok (.enter F args) w) (h1 : Rd3 w w.heap.size A xs)
    (hp : ∀ z W, Below w.heap.size w W → Calls Try.prog F #[S, .agg #[.int .i64 z.a, .int .i64 z.b, .int .i64 z.c]] W fun e w' => e = .returned (.bool (p z)) ∧ Below W.heap.size W w') :
    Calls Try.prog 154 #[.slice A xs.length c, .func (.func F) #[S] #[]] w fun e w' => e = .returned (.int .i64 (firstI p xs 0)) ∧ Below w.heap.size w w' := by
  have HP := hide hp; clear hp
  go_enter Try.func154, Try.ntmps154
  go_wp2_with fail
  go_loopg [8] xs.length (fun g i wr => ∃ k : Nat, k ≤ xs.length ∧ Hid (g = xs.length - k) ∧ i = .int .i64 k ∧ Below w.heap.size w wr ∧ Hid (firstI p xs 0 = firstI p (xs.drop k) k))
  case atStart => exact ⟨0, by omega, by simp [Hid], rfl, Below.refl _ _, hide (by simp)⟩
  case round =>
    obtain ⟨k, hk, HG, rfl, hb, HE⟩ := hrel
    by_cases hlt : k < xs.length
    · obtain ⟨b, o, z, rfl, _, hz, hca, hcb, hcc⟩ := (h1.below hb).at_ hlt
      have Z := hide hz; clear hz h1
      have HQ := HP.out z wr hb
      have h := HE.out
      rw [drop_cons Z.out] at h
      cases hpz : p z
      · rw [hpz] at HQ
        have h' := hide (show firstI p xs 0 = firstI p (xs.drop (k + 1)) (k + 1) by simpa [firstI, hpz] using h)
        have HQ' := hide HQ
        clear h HQ hpz HE
        go_wp2_with fail
        refine HQ'.out.mono ?_
        rintro e w1 ⟨rfl, hb1⟩
        go_wp2_with fail
        go_roundg (xs.length - (k + 1))
        case measure => have := HG.out; omega
        case rel => exact ⟨k + 1, by omega, rfl, by go_num, hb.trans (hb1.mono hb.size), h'⟩
      · rw [hpz] at HQ
        have h' := hide (show firstI p xs 0 = k by simpa [firstI, hpz] using h)
        have HQ' := hide HQ
        clear h HQ hpz HE
        go_wp2_with fail
        refine HQ'.out.mono ?_
        rintro e w1 ⟨rfl, hb1⟩
        go_wp2_with fail
        go_ret
        exact ⟨ret_i h'.out.symm, hb.trans (hb1.mono hb.size)⟩
    · go_wp2_with fail
      go_ret
      refine ⟨ret_i ?_, hb⟩
      have h := HE.out
      rw [List.drop_eq_nil_of_le (by omega)] at h
      rw [h]; rfl

set_option maxRecDepth 100000 in
set_option maxHeartbeats 1000000 in
theorem containsFuncSpanB_any (p : T3 → Bool) (F : FuncId) (S : Value) (xs : List T3) (A : Option Addr) (c : Nat) (w : World) (hx : xs.length ≤ 9223372036854775807)
    (hcf : ∀ args w, (callFunc F args).run Try.prog w = .ok (.enter F args) w) (h1 : Rd3 w w.heap.size A xs)
    (hp : ∀ z W, Below w.heap.size w W → Calls Try.prog F #[S, .agg #[.int .i64 z.a, .int .i64 z.b, .int .i64 z.c]] W fun e w' => e = .returned (.bool (p z)) ∧ Below W.heap.size W w') :
    Calls Try.prog 124 #[.slice A xs.length c, .func (.func F) #[S] #[]] w fun e w' => e = .returned (.bool (xs.any p)) ∧ Below w.heap.size w w' := by
  have HC := hide (indexFuncSpanB_any p F S xs A c w hx hcf h1 hp)
  clear hp
  have HE := hide (firstI_ge p xs 0)
  go_enter Try.func124, Try.ntmps124
  go_wp2_with fail
  refine HC.out.mono ?_
  rintro e w1 ⟨rfl, hb⟩
  go_wp2_with fail
  go_ret
  exact ⟨ret_b HE.out, hb⟩

/-- The first tube in which spans of two runs meet; -1 if there is none. -/
def meetT : List T3 → List T3 → Int
  | [], _ => -1
  | s :: r, tt => if tt.any (meet s) = true then s.a else meetT r tt
/-- The first of some runs that a run meets. -/
def fmRow (ts : List Int) (e : TN) : List TN → Nat → Option (Nat × Int)
  | [], _ => none
  | o :: r, k => if 0 ≤ meetT (spGo ts e.p e.way) (spGo ts o.p o.way) then some (k, meetT (spGo ts e.p e.way) (spGo ts o.p o.way)) else fmRow ts e r (k + 1)
def fmStep (i : Nat) (a : Option (Nat × Int)) (b : Option (Nat × Nat × Int)) : Option (Nat × Nat × Int) := match a with
  | some (k, t) => some (i, k, t)
  | none => b
/-- The first meeting from a run on. -/
def fmGo (ts : List Int) (l : List TN) : List TN → Nat → Option (Nat × Nat × Int)
  | [], _ => none
  | e :: r, i => fmStep i (fmRow ts e (l.take i) 0) (fmGo ts l r (i + 1))
def fmV : Option (Nat × Nat × Int) → Value
  | none => .tuple #[.int .i64 0, .int .i64 0, .int .i64 0, .int .i64 3]
  | some (i, k, t) => .tuple #[.int .i64 i, .int .i64 k, .int .i64 t, .int .i64 0]
theorem meetT_ge {ss tt : List T3} (h : ∀ s ∈ ss, 0 ≤ s.a) : decide (0 ≤ meetT ss tt) = ss.any fun s => tt.any (meet s) := by
  induction ss with
  | nil => rfl
  | cons s r ih =>
    rw [meetT, List.any_cons]
    cases hc : tt.any (meet s)
    · rw [if_neg (by simp), ih fun s hs => h s (List.mem_cons_of_mem _ hs)]; rfl
    · rw [if_pos rfl, decide_eq_true (h s (List.mem_cons_self ..))]; rfl
theorem meetT_drop {ss tt : List T3} {i : Nat} {s : T3} (h : ss[i]? = some s) : meetT (ss.drop i) tt = if tt.any (meet s) = true then s.a else meetT (ss.drop (i + 1)) tt := by rw [drop_cons h, meetT]
theorem spGo_a {ts : List Int} : ∀ {way : List Int} {f : Int}, (∀ t ∈ way, 0 ≤ t) → ∀ s ∈ spGo ts f way, 0 ≤ s.a := by
  intro way
  induction way with
  | nil => intro f _ s hs; cases hs
  | cons t r ih =>
    intro f h s hs
    rw [spGo] at hs
    rcases List.mem_cons.1 hs with rfl | hs
    · exact h t (List.mem_cons_self ..)
    · exact ih (fun z hz => h z (List.mem_cons_of_mem _ hz)) s hs
theorem fmRow_drop {ts : List Int} {e o : TN} {x : List TN} {k : Nat} (h : x[k]? = some o) : fmRow ts e (x.drop k) k = if 0 ≤ meetT (spGo ts e.p e.way) (spGo ts o.p o.way) then some (k, meetT (spGo ts e.p e.way) (spGo ts o.p o.way)) else fmRow ts e (x.drop (k + 1)) (k + 1) := by rw [drop_cons h, fmRow]
theorem fmGo_drop {ts : List Int} {l : List TN} {i : Nat} {e : TN} (h : l[i]? = some e) : fmGo ts l (l.drop i) i = fmStep i (fmRow ts e (l.take i) 0) (fmGo ts l (l.drop (i + 1)) (i + 1)) := by rw [drop_cons h, fmGo]
end Go.Proofs.Ytflbddfmhjlknaa
