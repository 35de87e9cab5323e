/-
  Spans in a tube, in order: the plain law, and the program's own.
-/
import Derived.Test.YtflbddfmhjlknaaSpn
import Derived.Test.YtflbddfmhjlknaaRunF
import Derived.Test.YtflbddfmhjlknaaMeet
namespace Go.Proofs.Ytflbddfmhjlknaa
open Go.RowKit

/-! ### sorted lists of spans -/
def SortedT (L : List T3) : Prop := L.Pairwise (fun x y => ltT y x = false)
/-- A span is put behind all that are not greater. -/
def insT (x : T3) : List T3 → List T3
  | [] => [x]
  | y :: r => if ltT x y = true then x :: y :: r else y :: insT x r
def sortT (L : List T3) : List T3 := L.foldl (fun out x => insT x out) []
theorem insT_perm (x : T3) : ∀ L : List T3, (insT x L).Perm (x :: L) := by
  intro L
  induction L with
  | nil => exact List.Perm.refl _
  | cons y r ih =>
    rw [insT]
    split
    · exact List.Perm.refl _
    · exact (ih.cons y).trans (List.Perm.swap x y r)
theorem insT_mem {x z : T3} {L : List T3} : z ∈ insT x L ↔ z = x ∨ z ∈ L := by rw [(insT_perm x L).mem_iff, List.mem_cons]
theorem insT_sorted {x : T3} : ∀ {L : List T3}, SortedT L → SortedT (insT x L) := by
  intro L
  induction L with
  | nil => intro _; exact List.pairwise_singleton ..
  | cons y r ih =>
    intro h
    obtain ⟨h1, h2⟩ := List.pairwise_cons.1 h
    rw [insT]
    split
    · rename_i hx
      refine List.pairwise_cons.2 ⟨fun z hz => ?_, h⟩
      rw [ltT_iff] at hx
      rcases List.mem_cons.1 hz with rfl | hz
      · rw [ltT_no]; omega
      · have := h1 z hz; rw [ltT_no] at this ⊢; omega
    · rename_i hx
      refine List.pairwise_cons.2 ⟨fun z hz => ?_, ih h2⟩
      rcases insT_mem.1 hz with rfl | hz
      · simpa using hx
      · exact h1 z hz
theorem fold_perm : ∀ (L out : List T3), (L.foldl (fun out x => insT x out) out).Perm (out ++ L) := by
  intro L
  induction L with
  | nil => intro out; rw [List.append_nil]; exact List.Perm.refl _
  | cons x L ih =>
    intro out
    rw [List.foldl_cons]
    refine (ih _).trans ?_
    exact ((insT_perm x out).append_right L).trans (List.perm_middle.symm)
theorem fold_sorted : ∀ (L out : List T3), SortedT out → SortedT (L.foldl (fun out x => insT x out) out) := by
  intro L
  induction L with
  | nil => intro out h; exact h
  | cons x L ih => intro out h; rw [List.foldl_cons]; exact ih _ (insT_sorted h)
theorem sortT_perm (L : List T3) : (sortT L).Perm L := by
  have h := fold_perm L []
  rw [List.nil_append] at h
  exact h
theorem sortT_sorted (L : List T3) : SortedT (sortT L) := fold_sorted L [] List.Pairwise.nil
theorem sort_unique {L M : List T3} {t : Int} (hp : M.Perm L) (hs : SortedT M) (ha : ∀ z ∈ L, z.a = t) : M = sortT L := by
  refine (hp.trans (sortT_perm L).symm).eq_of_pairwise (le := fun x y => ltT y x = false) (fun x y hx hy h1 h2 => ?_) hs (sortT_sorted L)
  have e1 := ha x (hp.mem_iff.1 hx)
  have e2 := ha y ((sortT_perm L).mem_iff.1 hy)
  rw [ltT_no] at h1 h2
  have e3 : x.b = y.b := by omega
  have e4 : x.c = y.c := by omega
  cases x; cases y; simp_all
/-! ### the spans in a tube -/
def inT (t : Int) (z : T3) : Bool := decide (z.a = t)
def inTube (ts : List Int) (l : List TN) (t : Int) : List T3 := (takenOf ts l).filter (inT t)
theorem inTube_a {ts : List Int} {l : List TN} {t : Int} : ∀ z ∈ inTube ts l t, z.a = t := fun z hz => by
  have := (List.mem_filter.1 hz).2
  simpa [inT] using this
theorem inTube_step {ts : List Int} {l : List TN} {t : Int} {k : Nat} {e : TN} (h : l[k]? = some e) : inTube ts (l.take (k + 1)) t = inTube ts (l.take k) t ++ (spGo ts e.p e.way).filter (inT t) := by
  obtain ⟨hk, rfl⟩ := List.getElem?_eq_some_iff.1 h
  rw [List.take_succ_eq_append_getElem hk]
  unfold inTube takenOf
  rw [List.flatMap_append, List.filter_append]
  simp [spansR]
theorem take_filter {p : T3 → Bool} {x : List T3} {k : Nat} {a : T3} (h : x[k]? = some a) : (x.take (k + 1)).filter p = (x.take k).filter p ++ if p a = true then [a] else [] := by
  obtain ⟨hk, rfl⟩ := List.getElem?_eq_some_iff.1 h
  rw [List.take_succ_eq_append_getElem hk, List.filter_append]
  congr 1
  simp [List.filter_cons]
def spIn (ts : List Int) (l : List TN) (t : Int) : List T3 := sortT (inTube ts l t)
theorem spIn_len {ts : List Int} {l : List TN} {t : Int} (h : ∀ e ∈ l, e.way.length ≤ 12) : (spIn ts l t).length ≤ 12 * l.length := by
  unfold spIn inTube
  rw [(sortT_perm _).length_eq]
  exact Nat.le_trans (List.length_filter_le ..) (taken_len h)
set_option maxRecDepth 100000 in
set_option maxHeartbeats 4000000 in
theorem spansIn_any (ts : List Int) (l : List TN) (t : Int) (A0 : Option Addr) (c0 : Nat) (A : Option Addr) (c : Nat) (w : World) (hts : OkTimes ts) (hl12 : l.length ≤ 12) (hlo : ∀ e ∈ l, OkWay ts e.way ∧ 0 ≤ e.p ∧ e.p ≤ 100000) (h1 : RdI w w.heap.size A0 ts) (h2 : RN 1 w w.heap.size A l) :
    Calls Try.prog 120 #[.slice A0 ts.length c0, .slice A l.length c, .int .i64 t] w fun e w' => ∃ g' c', e = .returned (.slice (some ⟨g', 0, none⟩) (spIn ts l t).length c') ∧ w'.ownsRow w.heap.size 141 3 (.slice (some ⟨g', 0, none⟩) (spIn ts l t).length c') (spIn ts l t).length ((spIn ts l t).flatMap T3.cells) ∧ Below w.heap.size w w' := by
  obtain ⟨i0, hi0, hz0, hs0, hb0⟩ := info_parts span_info
  have HLO := hide hlo
  have HSP := hide fun (way : List Int) (f : Int) Aw cw W (hW : Below w.heap.size w W) (hw : OkWay ts way) (hf : 0 ≤ f) (hf' : f ≤ 100000) (h : RdI W W.heap.size Aw way) => spansOf_any ts way f A0 c0 Aw cw W hts hw hf (by omega) ((h1.below hW).more hW.size) h
  have HX := hide h2
  have ho0 := own_new0 w w.heap.size 141 3 (Nat.le_refl _)
  have hb1 : Below w.heap.size w (w.alloc (.cells #[] 141)) := (Below.refl _ _).alloc (Nat.le_refl _) _
  clear h1 h2 hlo hts
  go_enter Try.func120, Try.ntmps120
  go_wp2_with fail
  go_loopg [7, 15] l.length (fun g s i wr => ∃ (k : Nat) (acc : List T3) (gb cb : Nat), k ≤ l.length ∧ Hid (g = l.length - k) ∧ i = .int .i64 k ∧ s = .slice (some ⟨gb, 0, none⟩) acc.length cb ∧ acc.length ≤ 12 * k ∧ Hid (acc = inTube ts (l.take k) t) ∧ wr.ownsRow w.heap.size 141 3 (.slice (some ⟨gb, 0, none⟩) acc.length cb) acc.length (acc.flatMap T3.cells) ∧ Hid (Below w.heap.size w wr))
  case atStart => exact ⟨0, [], w.heap.size, 0, by omega, by simp [Hid], rfl, rfl, by simp, by simp [Hid, inTube, takenOf], ho0, hb1⟩
  case round =>
    obtain ⟨k, acc, gb, cb, hk, hgk, rfl, rfl, hal, HA, hown, HB⟩ := hrel
    clear ho0 hb1
    by_cases hlt : k < l.length
    · obtain ⟨xb, xo, ex, Ax, cx, rfl, hxb, hex, hrx, hx0', hx1', _⟩ := HX.out.at_ (by omega) hlt
      have hb := HB.out
      have hx0 := (hb.cell (p := ⟨xb, xo + k * 2, none⟩) hxb).trans hx0'
      have hx1 := (hb.cell (p := ⟨xb, xo + k * 2 + 1, none⟩) hxb).trans (hx1' (by omega))
      obtain ⟨hox, hpx0, hpx1⟩ := HLO.out ex (List.mem_of_getElem? hex)
      have bV : Below w.heap.size w (wr.alloc (.cells #[.slice Ax ex.way.length cx, .int .i64 ex.p] 136)) := hb.alloc hb.size _
      have HC := hide (HSP.out ex.way ex.p Ax cx _ bV hox hpx0 hpx1 ((hrx.below bV).more bV.size))
      have HST := hide (inTube_step (ts := ts) (t := t) hex)
      have hlx := spGo_len ts ex.way ex.p
      have hxw := hox.1.2
      have hxw1 := hox.1.1
      have HROW := hide (hown.alloc (.cells #[.slice Ax ex.way.length cx, .int .i64 ex.p] 136))
      have BV := hide bV
      generalize spGo ts ex.p ex.way = ss at *
      have hl1 : ss.length ≤ ex.way.length := by omega
      have hl2 : ex.way.length ≤ ss.length := by omega
      clear hb hown hex hrx hx0' hx1' hox bV hlx
      go_wp2_with (go_at_call 149; refine (HC.out).mono ?_; rintro e w5 ⟨A5, c5, rfl, o5, b5⟩)
      have hr5 := own_below HROW.out b5 (Nat.le_refl _)
      obtain ⟨g5, hg5, hg5b, hg5s⟩ := own_posN o5 (by omega)
      cases hg5
      have hne : gb ≠ g5 := by have := (HROW.out.lt gb rfl).2; omega
      have hs5 := own_base o5 BV.out.size
      have HB5 := hide (BV.out.trans (b5.mono BV.out.size))
      clear o5 b5 hg5b HROW BV
      go_loopg [7, 23] ex.way.length (fun g s i wr => ∃ (j : Nat) (acc2 : List T3) (gb cb : Nat), j ≤ ex.way.length ∧ Hid (g = ex.way.length - j) ∧ i = .int .i64 j ∧ s = .slice (some ⟨gb, 0, none⟩) acc2.length cb ∧ acc2.length ≤ 12 * k + j ∧ Hid (acc2 = acc ++ (ss.take j).filter (inT t)) ∧ wr.ownsRow w.heap.size 141 3 (.slice (some ⟨gb, 0, none⟩) acc2.length cb) acc2.length (acc2.flatMap T3.cells) ∧ gb ≠ g5 ∧ wr.ownsRow w.heap.size 141 3 (.slice (some ⟨g5, 0, none⟩) ex.way.length c5) ex.way.length (ss.flatMap T3.cells) ∧ Hid (Below w.heap.size w wr))
      case atStart => exact ⟨0, acc, gb, cb, by omega, by simp [Hid], rfl, rfl, by omega, by simp [Hid], hr5, hne, hs5, HB5.out⟩
      case round =>
        obtain ⟨j, acc2, gb2, cb2, hj, hgj, rfl, rfl, hal2, HA2, hown2, hne2, hsp, HB2⟩ := hrel
        clear hr5 hne hs5
        by_cases hjt : j < ex.way.length
        · obtain ⟨pb, po, s, hpA, hpb, hs, ha, hbb, hc⟩ := (Rd3.of_own hsp).at_ (show j < ss.length by omega)
          cases hpA
          simp only [Nat.zero_add] at ha hbb hc
          have HTF := hide (take_filter (p := inT t) hs)
          have hsz := HB2.out.size
          have hg5s' := (hsp.lt g5 rfl).2
          have B1 := HB2.out.alloc hsz (.cells #[.int .i64 s.a, .int .i64 s.b, .int .i64 s.c] 141)
          have S1 := hide (hsp.alloc (.cells #[.int .i64 s.a, .int .i64 s.b, .int .i64 s.c] 141))
          have S2 := hide (S1.out.alloc (.cells #[.int .i64 s.a, .int .i64 s.b, .int .i64 s.c] 141))
          have R1 := hown2.alloc (.cells #[.int .i64 s.a, .int .i64 s.b, .int .i64 s.c] 141)
          have R2 := hide (R1.alloc (.cells #[.int .i64 s.a, .int .i64 s.b, .int .i64 s.c] 141))
          have R1h := hide R1
          have B2 := hide (B1.alloc B1.size (.cells #[.int .i64 s.a, .int .i64 s.b, .int .i64 s.c] 141))
          have B1h := hide B1
          have HNE := hide hne2
          have hz3 : w.heap.size ≤ wr.heap.size + 1 + 1 := by omega
          clear hs hsp hown2 R1 B1
          by_cases ht : s.a = t
          · have hB : (s.a == t) = true := by simp [ht]
            have HN := hide (show acc2 ++ [s] = acc ++ (ss.take (j + 1)).filter (inT t) by rw [HA2.out, HTF.out, if_pos (by simp [inT, ht]), List.append_assoc])
            have HT := hide ht
            clear ht
            go_wp2_with (at_builtin; go_must (refine wp_app _ rfl _ _ 138 rfl w.heap.size 141 i0 (.agg #[.int .i64 0, .int .i64 0, .int .i64 0]) 3 24 Try.underlying138 hi0 hz0 hs0 hb0 rfl (by decide) _ _ _ rfl R2.out _ _ 1 1 [.int .i64 s.a, .int .i64 s.b, .int .i64 s.c] rfl rfl (rd_new _ _ _ _ (by simp)) (by intro u hu; simp at hu; rcases hu with rfl | rfl | rfl <;> rfl) (by omega) (by decide) B2.out.size ?_); intro v' w2 hown' hgrow hat)
            have hb4 := app_below B2.out R2.out hgrow (Nat.le_refl _) B2.out.size
            obtain ⟨A9, c9, rfl, _⟩ := own_shape hown'
            obtain ⟨g9, rfl, _, _⟩ := own_posN hown' (by omega)
            have hsp2 := S2.out.kept hgrow (.inr (fun h => HNE.out (by injection h with h; exact h.symm)))
            have hne9 : g9 ≠ g5 := by
              rcases hat with h | h
              · have h0 : (some g9 : Option Nat) = some gb2 := h
                have h' := Option.some.inj h0
                rw [h']; exact HNE.out
              · have h0 : (some g9 : Option Nat) = some _ := h
                have h' := Option.some.inj h0
                simp at h'
                omega
            go_roundg (ex.way.length - (j + 1))
            case measure => have := hgj.out; omega
            case rel => exact ⟨j + 1, acc2 ++ [s], g9, c9, by omega, rfl, by go_num, by simp, by simp; omega, HN, by rw [List.flatMap_append, List.length_append]; exact hown', hne9, hsp2, hb4⟩
          · have hB : (s.a == t) = false := by simp [ht]
            have HN := hide (show acc2 = acc ++ (ss.take (j + 1)).filter (inT t) by rw [HA2.out, HTF.out, if_neg (by simp [inT, ht]), List.append_nil])
            have HT := hide ht
            clear ht
            go_wp2_with fail
            go_roundg (ex.way.length - (j + 1))
            case measure => have := hgj.out; omega
            case rel => exact ⟨j + 1, acc2, gb2, cb2, by omega, rfl, by go_num, rfl, by omega, HN, R1h.out, HNE.out, S1.out, B1h.out⟩
        · have HN := hide (show acc2 = inTube ts (l.take (k + 1)) t by rw [HA2.out, List.take_of_length_le (by omega), HST.out, HA.out])
          go_wp2_with fail
          go_roundg (l.length - (k + 1))
          case measure => have := hgk.out; omega
          case rel => exact ⟨k + 1, acc2, gb2, cb2, by omega, rfl, by go_num, rfl, by omega, HN, hown2, HB2.out⟩
    · have hfull := HA.out
      rw [List.take_of_length_le (by omega)] at hfull
      have HC := hide (sortSpan_any acc w.heap.size gb acc.length cb wr hown (by omega))
      have HFU := hide hfull
      clear hfull
      go_wp2_with (go_at_call 150; refine (HC.out).mono ?_; rintro e w6 ⟨rfl, L', hp, hs, ho6, b6⟩)
      have hL : L' = spIn ts l t := by
        unfold spIn
        rw [← HFU.out]
        exact sort_unique hp hs (by rw [HFU.out]; exact inTube_a)
      have hlen : acc.length = (spIn ts l t).length := by rw [← hL, hp.length_eq]
      have HE := hide hL
      have HLN := hide hlen
      clear hL hlen
      go_ret
      exact ⟨gb, cb, by rw [HLN.out]; rfl, by rw [← HLN.out, ← HE.out]; exact ho6, HB.out.trans b6⟩
end Go.Proofs.Ytflbddfmhjlknaa
