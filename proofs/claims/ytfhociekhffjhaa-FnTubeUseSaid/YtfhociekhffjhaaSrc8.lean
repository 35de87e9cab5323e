/-
  A run meets none of some others: the law's own helper.
-/
import Derived.Test.YtfhociekhffjhaaSrc7
import Derived.Test.YtfhociekhffjhaaRunE
namespace Go.Proofs.Ytfhociekhffjhaa
open Go.RowKit

def aloneB (ts : List Int) (ss : List T3) (x : List TN) : Bool := x.all fun e => !(ss.any fun s => (spGo ts e.p e.way).any (meet s))
theorem alone_fits (ts : List Int) (x : List TN) (way : List Int) (f : Int) : aloneB ts (spGo ts f way) x = fits ts (takenOf ts x) way f := by
  rw [Bool.eq_iff_iff, fits_iff]
  unfold aloneB takenOf
  simp only [List.all_eq_true, Bool.not_eq_true', List.any_eq_false, List.mem_flatMap, spansR]
  constructor
  · rintro h s hs o ⟨e, he, ho⟩
    have := h e he s hs
    simp only [Bool.not_eq_true, List.any_eq_false] at this
    simpa using this o ho
  · intro h e he s hs
    simp only [Bool.not_eq_true, List.any_eq_false]
    intro o ho
    simpa using h s hs o ⟨e, he, ho⟩
set_option maxRecDepth 100000 in
set_option maxHeartbeats 8000000 in
theorem a2Alone_any (ts way : List Int) (x : List TN) (f : Int) (A0 : Option Addr) (c0 : Nat) (Ax : Option Addr) (cx : Nat) (Aw : Option Addr) (cw : Nat) (w : World) (hts : OkTimes ts) (hw : OkWay ts way) (hf : 0 ≤ f) (hf' : f ≤ 100000) (hxl : x.length ≤ 12) (hx : ∀ e ∈ x, OkWay ts e.way ∧ 0 ≤ e.p ∧ e.p ≤ 100000)
    (h1 : RdI w w.heap.size A0 ts) (h2 : RN 1 w w.heap.size Ax x) (h3 : RdI w w.heap.size Aw way) :
    Calls Try.prog 20 #[.slice A0 ts.length c0, .slice Ax x.length cx, .slice Aw way.length cw, .int .i64 f] w fun e w' => e = .returned (.bool (fits ts (takenOf ts x) way f)) ∧ Below w.heap.size w w' := by
  have HF := hide (alone_fits ts x way f)
  have HA := hide (specSpansOf_any ts way f A0 c0 Aw cw w hts hw hf hf' h1 h3)
  have HB := hide fun (wb : List Int) (g : Int) Ab cb W (hW : Below w.heap.size w W) (hb : OkWay ts wb) (hg : 0 ≤ g) (hg' : g ≤ 100000) (h : RdI W W.heap.size Ab wb) => specSpansOf_any ts wb g A0 c0 Ab cb W hts hb hg hg' ((h1.below hW).more hW.size) h
  have HX := hide h2
  have HXO := hide hx
  have hla := spGo_len ts way f
  have ha12 := hw.1.2
  clear h1 h2 h3 hx hts hw
  generalize spGo ts f way = ss at *
  generalize fits ts (takenOf ts x) way f = ff at *
  go_enter Try.func20, Try.ntmps20
  go_wp2_with (go_at_call 17; refine (HA.out).mono ?_; rintro e w1 ⟨A1, c1, rfl, r1, hb1⟩)
  have R1 := hide r1
  have HB1 := hide hb1
  clear r1 hb1 HA
  go_loopg [11] x.length (fun g i wr => ∃ k : Nat, k ≤ x.length ∧ Hid (g = x.length - k) ∧ i = .int .i64 k ∧ Hid (aloneB ts ss x = aloneB ts ss (x.drop k)) ∧ Below w1.heap.size w1 wr)
  case atStart => exact ⟨0, by omega, by simp [Hid], rfl, by simp [Hid], Below.refl _ _⟩
  case round =>
    obtain ⟨m, hm, hgm, rfl, HM, hbm⟩ := hrel
    by_cases hmx : m < x.length
    · have bwm := HB1.out.trans (hbm.mono HB1.out.size)
      obtain ⟨xb, xo, ex, Ae, ce, rfl, hxb, hex, hre, hx0, hx1', _⟩ := (HX.out.below bwm).at_ (by omega) hmx
      have hx1 := hx1' (by omega)
      obtain ⟨hoe, hpe0, hpe1⟩ := HXO.out ex (List.mem_of_getElem? hex)
      have HM' := HM.out
      rw [drop_cons hex, aloneB, aloneB, List.all_cons] at HM'
      have HMQ : Hid (aloneB ts ss x = ((!(ss.any fun s => (spGo ts ex.p ex.way).any (meet s))) && aloneB ts ss (x.drop (m + 1)))) := HM'
      have HC := hide (HB.out ex.way ex.p Ae ce wr bwm hoe hpe0 hpe1 (hre.more bwm.size))
      have hlb := spGo_len ts ex.way ex.p
      have hb12 := hoe.1.2
      have hszm := hbm.size
      have HBM := hide hbm
      clear HM' HM hex hre hoe hx1' hbm bwm
      generalize spGo ts ex.p ex.way = tt at *
      go_wp2_with (go_at_call 17; refine (HC.out).mono ?_; rintro e w2 ⟨A2, c2, rfl, r2, hb2⟩)
      have bw2 := HBM.out.trans (hb2.mono HBM.out.size)
      have R1b := hide ((R1.out.below bw2).more bw2.size)
      have R2 := hide r2
      have HB2 := hide bw2
      have hw2s := bw2.size
      clear r2 hb2 bw2
      go_loopg [14] way.length (fun g i wr => ∃ k : Nat, k ≤ way.length ∧ Hid (g = way.length - k) ∧ i = .int .i64 k ∧ Hid ((ss.any fun s => tt.any (meet s)) = (ss.drop k).any fun s => tt.any (meet s)) ∧ Below w2.heap.size w2 wr)
      case atStart => exact ⟨0, by omega, by simp [Hid], rfl, by simp [Hid], Below.refl _ _⟩
      case round =>
        obtain ⟨i, hi, hgi, rfl, HS, hb⟩ := hrel
        by_cases hlt : i < way.length
        · obtain ⟨pb, po, s, pb', po', pc, rfl, hpb, hpb', hs, ha0, ha1, ha2, ha3⟩ := spans_at (R1b.out.below hb) (show i < ss.length by omega)
          have HS' := HS.out
          rw [drop_cons hs, List.any_cons] at HS'
          have HQ := hide HS'
          clear HS' HS hs
          obtain ⟨wU, hwU⟩ : ∃ q, q = wr := ⟨wr, rfl⟩
          subst hwU
          have hbU := hide hb
          go_wp2_with fail
          go_loopg [15] ex.way.length (fun gk j wr => ∃ k : Nat, k ≤ ex.way.length ∧ Hid (gk = ex.way.length - k) ∧ j = .int .i64 k ∧ Hid (tt.any (meet s) = (tt.drop k).any (meet s)) ∧ Below wU.heap.size wU wr)
          case atStart => exact ⟨0, by omega, by simp [Hid], rfl, by simp [Hid], Below.refl _ _⟩
          case round =>
            obtain ⟨k, hk, hgk, rfl, HT, hb4⟩ := hrel
            have hbr := hbU.out.trans (hb4.mono hbU.out.size)
            by_cases hkt : k < ex.way.length
            · obtain ⟨qb, qo, t, qb', qo', qc, rfl, hqb, hqb', ht, hc0, hc1, hc2, hc3⟩ := spans_at (R2.out.below hbr) (show k < tt.length by omega)
              have hszU := hbU.out.size
              have hd0 := (hb4.cell (p := ⟨pb, po + i, none⟩) (by dsimp only; omega)).trans ha0
              have hd1 := (hb4.cell (p := ⟨pb', po', none⟩) (by dsimp only; omega)).trans ha1
              have hd2 := (hb4.cell (p := ⟨pb', po' + 1, none⟩) (by dsimp only; omega)).trans ha2
              have hd3 := (hb4.cell (p := ⟨pb', po' + 2, none⟩) (by dsimp only; omega)).trans ha3
              have HT' := HT.out
              rw [drop_cons ht, List.any_cons] at HT'
              have HTQ := hide HT'
              clear HT' HT ht
              by_cases e1 : s.a = t.a
              case neg =>
                have hB : (s.a == t.a) = false := by simp [e1]
                have HN := hide (show tt.any (meet s) = (tt.drop (k + 1)).any (meet s) by rw [HTQ.out, show meet s t = false by simp [meet, e1]]; rfl)
                clear e1
                go_wp2_with fail
                go_quiet (fail)
                go_wp2_with fail
                go_roundg (ex.way.length - (k + 1))
                case measure => have := hgk.out; omega
                case rel => exact ⟨k + 1, by omega, rfl, by go_num, HN, bdn hb4 _⟩
              have hB : (s.a == t.a) = true := by simp [e1]
              by_cases e2 : s.b < t.c
              case neg =>
                have HN := hide (show tt.any (meet s) = (tt.drop (k + 1)).any (meet s) by rw [HTQ.out, show meet s t = false by simp [meet, e2]]; rfl)
                have hB2 : decide (s.b < t.c) = false := decide_eq_false e2
                clear e1
                go_wp2_with fail
                go_quiet (fail)
                go_wp2_with fail
                go_roundg (ex.way.length - (k + 1))
                case measure => have := hgk.out; omega
                case rel => exact ⟨k + 1, by omega, rfl, by go_num, HN, bdn hb4 _⟩
              have hB2 : decide (s.b < t.c) = true := decide_eq_true e2
              by_cases e3 : t.b < s.c
              case neg =>
                have hB3 : decide (t.b < s.c) = false := decide_eq_false e3
                have HN := hide (show tt.any (meet s) = (tt.drop (k + 1)).any (meet s) by rw [HTQ.out, show meet s t = false by simp [meet, e3]]; rfl)
                clear e1
                go_wp2_with fail
                go_quiet (fail)
                go_wp2_with fail
                go_roundg (ex.way.length - (k + 1))
                case measure => have := hgk.out; omega
                case rel => exact ⟨k + 1, by omega, rfl, by go_num, HN, bdn hb4 _⟩
              have HN := hide (show ff = false by rw [← HF.out, HMQ.out, HQ.out, HTQ.out, meet_iff.2 ⟨e1, e2, e3⟩]; rfl)
              have hB3 : decide (t.b < s.c) = true := decide_eq_true e3
              clear e1
              go_wp2_with fail
              go_quiet (fail)
              go_wp2_with fail
              go_ret
              exact ⟨ret_b HN.out.symm, HB1.out.trans ((HB2.out.trans ((hbU.out.trans ((bdn hb4 _).mono hbU.out.size)).mono HB2.out.size)).mono HB1.out.size)⟩
            · have HN := hide (show (ss.any fun s => tt.any (meet s)) = (ss.drop (i + 1)).any fun s => tt.any (meet s) by rw [HQ.out, HT.out, List.drop_eq_nil_of_le (by omega)]; rfl)
              go_wp2_with fail
              go_roundg (way.length - (i + 1))
              case measure => have := hgi.out; omega
              case rel => exact ⟨i + 1, by omega, rfl, by go_num, HN, hbr⟩
        · have HN := hide (show aloneB ts ss x = aloneB ts ss (x.drop (m + 1)) by rw [HMQ.out, HS.out, List.drop_eq_nil_of_le (by omega)]; rfl)
          have bfin := HB2.out.trans (hb.mono HB2.out.size)
          go_wp2_with fail
          go_roundg (x.length - (m + 1))
          case measure => have := hgm.out; omega
          case rel => exact ⟨m + 1, by omega, rfl, by go_num, HN, bfin⟩
    · have HN := hide (show ff = true by rw [← HF.out, HM.out, List.drop_eq_nil_of_le (by omega)]; rfl)
      go_wp2_with fail
      go_ret
      exact ⟨ret_b HN.out.symm, HB1.out.trans (hbm.mono HB1.out.size)⟩
end Go.Proofs.Ytfhociekhffjhaa
