/-
  The plan of wishes by an order; in the reference.
-/
import Derived.Test.YticgaiboolojkaaRunG
import Derived.Test.YticgaiboolojkaaRunO
namespace Go.Proofs.Yticgaiboolojkaa
open Go.RowKit

def wishAt (l : List TN) (k : Int) : TN := (l[k.toNat]?).getD ⟨[], 0, 0⟩
def startOf (ts : List Int) (l done : List TN) (k : Int) : Int := estOf ts (takenOf ts done) (wishAt l k).way (wishAt l k).p
def planGo (ts : List Int) (l : List TN) : List Int → List TN → List Int → List Int
  | [], _, out => out
  | k :: r, done, out => planGo ts l r (done ++ [⟨(wishAt l k).way, startOf ts l done k, 0⟩]) (out.set k.toNat (startOf ts l done k))
def planRGo (ts : List Int) (l : List TN) : List Int → List TN → List TN → List TN
  | [], _, out => out
  | k :: r, done, out => planRGo ts l r (done ++ [⟨(wishAt l k).way, startOf ts l done k, 0⟩]) (out.set k.toNat ⟨(wishAt l k).way, startOf ts l done k, 0⟩)
def plan (ts : List Int) (l : List TN) (order : List Int) : List Int := planGo ts l order [] (List.replicate l.length 0)
def planR (ts : List Int) (l : List TN) (order : List Int) : List TN := planRGo ts l order [] (List.replicate l.length ⟨[], 0, 0⟩)
theorem planR_p (ts : List Int) (l : List TN) : ∀ (order : List Int) (done out : List TN), (planRGo ts l order done out).map (·.p) = planGo ts l order done (out.map (·.p)) := by
  intro order
  induction order with
  | nil => intro done out; rfl
  | cons k r ih => intro done out; rw [planRGo, planGo, ih, List.map_set]
theorem plan_p (ts : List Int) (l : List TN) (order : List Int) : (planR ts l order).map (·.p) = plan ts l order := by
  unfold planR plan; rw [planR_p, List.map_replicate]
theorem planGo_len (ts : List Int) (l : List TN) : ∀ (order : List Int) (done : List TN) (out : List Int), (planGo ts l order done out).length = out.length := by
  intro order
  induction order with
  | nil => intro done out; rfl
  | cons k r ih => intro done out; rw [planGo, ih, List.length_set]
theorem plan_len (ts : List Int) (l : List TN) (order : List Int) : (plan ts l order).length = l.length := by
  unfold plan; rw [planGo_len, List.length_replicate]
def DoneOk (ts : List Int) (n : Nat) (done : List TN) : Prop := done.length = n ∧ ∀ e ∈ done, OkWay ts e.way ∧ 0 ≤ e.p ∧ e.p ≤ 10000 + 12000 * (n : Int)
theorem DoneOk.plan {ts : List Int} {n : Nat} {done : List TN} (h : DoneOk ts n done) (hn : n ≤ 6) : OkPlan ts done :=
  ⟨by rw [h.1]; omega, fun e he => by obtain ⟨h1, h2, h3⟩ := h.2 e he; exact ⟨h1, h2, by omega⟩⟩
theorem start_bd {ts : List Int} (hts : OkTimes ts) {n : Nat} {done : List TN} (h : DoneOk ts n done) {way : List Int} {f : Int} (hw : OkWay ts way) (hf : 0 ≤ f) (hf' : f ≤ 10000) : 0 ≤ estOf ts (takenOf ts done) way f ∧ estOf ts (takenOf ts done) way f ≤ 10000 + 12000 * ((n : Int) + 1) := by
  obtain ⟨h1, h2, _, _⟩ := est_spec (tk := takenOf ts done) hts hw.2 f
  refine ⟨by omega, ?_⟩
  rcases (lastC_spec (takenOf ts done) f).2.2 with h3 | ⟨o, ho, h3⟩
  · omega
  · obtain ⟨e, he, hoe⟩ := List.mem_flatMap.1 ho
    obtain ⟨⟨k1, k2⟩, k3, k4⟩ := h.2 e he
    have := spGo_ge hts k2 o hoe
    omega
theorem DoneOk.next {ts : List Int} (hts : OkTimes ts) {n : Nat} {done : List TN} (h : DoneOk ts n done) {way : List Int} {f : Int} (hw : OkWay ts way) (hf : 0 ≤ f) (hf' : f ≤ 10000) : DoneOk ts (n + 1) (done ++ [⟨way, estOf ts (takenOf ts done) way f, 0⟩]) := by
  obtain ⟨b1, b2⟩ := start_bd hts h hw hf hf'
  refine ⟨by rw [List.length_append, h.1]; rfl, fun e he => ?_⟩
  rcases List.mem_append.1 he with he | he
  · obtain ⟨k1, k2, k3⟩ := h.2 e he; exact ⟨k1, k2, by omega⟩
  · simp only [List.mem_singleton] at he; subst he; exact ⟨hw, b1, by dsimp only; omega⟩
theorem ordGo_in {n : Int} : ∀ {r pre : List Int}, ordGo n pre r = true → ∀ k ∈ r, 0 ≤ k ∧ k ≤ n - 1 := by
  intro r
  induction r with
  | nil => intro pre _ k hk; cases hk
  | cons a r ih =>
    intro pre h k hk
    rw [ordGo] at h
    simp only [Bool.and_eq_true] at h
    rcases List.mem_cons.1 hk with rfl | hk
    · exact inB_iff.1 h.1
    · exact ih h.2.2 k hk
theorem codeO_ok {ts : List Int} {l : List TN} {order : List Int} (h : codeO ts l order = 0) : (OkTimes ts ∧ l.length ≤ 6 ∧ ∀ e ∈ l, OkWish ts e) ∧ order.length = l.length ∧ ∀ k ∈ order, 0 ≤ k ∧ k ≤ (l.length : Int) - 1 := by
  unfold codeO at h
  split at h
  · rename_i hv
    split at h
    · rename_i ho
      unfold ordOk at ho
      simp only [Bool.and_eq_true, decide_eq_true_eq] at ho
      exact ⟨vWishes_iff.1 hv, ho.2, ordGo_in ho.1⟩
    · omega
  · omega
theorem planGo_drop {ts : List Int} {l : List TN} {order : List Int} {k : Nat} {z : Int} (h : order[k]? = some z) (done : List TN) (out : List Int) : planGo ts l (order.drop k) done out = planGo ts l (order.drop (k + 1)) (done ++ [⟨(wishAt l z).way, startOf ts l done z, 0⟩]) (out.set z.toNat (startOf ts l done z)) := by rw [drop_cons h, planGo]
theorem planRGo_drop {ts : List Int} {l : List TN} {order : List Int} {k : Nat} {z : Int} (h : order[k]? = some z) (done out : List TN) : planRGo ts l (order.drop k) done out = planRGo ts l (order.drop (k + 1)) (done ++ [⟨(wishAt l z).way, startOf ts l done z, 0⟩]) (out.set z.toNat ⟨(wishAt l z).way, startOf ts l done z, 0⟩) := by rw [drop_cons h, planRGo]
theorem wishAt_get {l : List TN} {n : Nat} {e : TN} (h : l[n]? = some e) : wishAt l (n : Int) = e := by simp [wishAt, h]
theorem own_atI {w : World} {base : Nat} {e : TypeId} {n c g : Nat} {zs : List Int} (h : w.ownsRow base e 1 (.slice (some ⟨g, 0, none⟩) n c) n (zs.map (Value.int .i64))) {i : Nat} {z : Int} (hz : zs[i]? = some z) : w.cell? ⟨g, i, none⟩ = some (.int .i64 z) := by
  have hl := h.1
  have hi := lt_of_get hz
  simp only [List.length_map, Nat.mul_one] at hl
  rw [h.cellAt i (by omega), List.getElem?_map, hz]; rfl
theorem own_setI {w : World} {base : Nat} {e : TypeId} {n c g : Nat} {zs : List Int} (h : w.ownsRow base e 1 (.slice (some ⟨g, 0, none⟩) n c) n (zs.map (Value.int .i64))) (i : Nat) (z : Int) :
    (w.setCell ⟨g, i, none⟩ (.int .i64 z)).ownsRow base e 1 (.slice (some ⟨g, 0, none⟩) n c) n ((zs.set i z).map (Value.int .i64)) ∧ w.grownBy (w.setCell ⟨g, i, none⟩ (.int .i64 z)) (some g) := by
  have := h.stored i (.int .i64 z)
  rw [← List.map_set] at this
  exact this
set_option maxRecDepth 100000 in
set_option maxHeartbeats 8000000 in
theorem l08Plan_any (ts : List Int) (l : List TN) (order : List Int) (A0 : Option Addr) (c0 : Nat) (A : Option Addr) (c : Nat) (A2 : Option Addr) (c2 : Nat) (w : World) (hcode : codeO ts l order = 0) (h1 : RdI w w.heap.size A0 ts) (h2 : RN 2 w w.heap.size A l) (h3 : RdI w w.heap.size A2 order) :
    Calls Try.prog 86 #[.slice A0 ts.length c0, .slice A l.length c, .slice A2 order.length c2] w fun e w' => ∃ A' c', e = .returned (.slice A' l.length c') ∧ w'.ownsRow w.heap.size 2 1 (.slice A' l.length c') l.length ((plan ts l order).map (Value.int .i64)) ∧ Below w.heap.size w w' := by
  obtain ⟨⟨hts, hl6, hlo⟩, hol, hoi⟩ := codeO_ok hcode
  obtain ⟨i0, hi0, hz0, hs0, hb0⟩ := info_parts int64_info
  obtain ⟨i1, hi1, hz1, hs1, hb1⟩ := info_parts RunS_info
  have HE := hide fun (way : List Int) (done : List TN) (f : Int) Ar cr Aw cw W (hW : Below w.heap.size w W) (hd : OkPlan ts done) (hw : OkWay ts way) (hf : 0 ≤ f) (hf' : f ≤ 1000000) (r1 : RN 1 W W.heap.size Ar done) (r2 : RdI W W.heap.size Aw way) => l06Earliest_any ts way done f A0 c0 Ar cr Aw cw W hts hd hw hf hf' ((h1.below hW).more hW.size) r1 r2
  have HTS := hide hts
  have HLO := hide hlo
  have HOI := hide hoi
  have HX := hide h2
  have HO := hide h3
  have ho6 : order.length ≤ 6 := by omega
  clear h1 h2 h3 hts hlo hoi hcode hol
  go_enter Try.func86, Try.ntmps86
  go_wp2_with (refine wpList_make_full _ rfl _ _ _ rfl w.heap.size 2 i0 _ 1 Try.underlying22 hi0 hz0 hs0 .i64 .i64 (l.length : Int) (l.length : Int) l.length rfl rfl rfl rfl (by rw [hb0]; omega) (by unfold maxLen; omega) (Nat.le_refl _) ?_; intro w1 hown1 hgr1)
  have hbm : Below w.heap.size w w1 := (Below.refl _ _).grown hgr1 (Nat.le_refl _) (by intro k hk; cases hk)
  have hout0 : w1.ownsRow w.heap.size 2 1 (.slice (some ⟨w.heap.size, 0, none⟩) l.length l.length) l.length ((List.replicate l.length (0 : Int)).map (Value.int .i64)) := by rw [← made_ints]; exact hown1
  have hlb1 : w.heap.size < w1.heap.size := (hout0.lt _ rfl).2
  have hout1 := hout0.alloc (.cells #[] 78)
  have hrun1 := own_new0 w1 w.heap.size 78 2 hbm.size
  have hb2 := hbm.alloc hbm.size (.cells #[] 78)
  have hne1 : (Value.slice (some ⟨w1.heap.size, 0, none⟩) 0 0).ownBlock ≠ some w.heap.size := by simp [Value.ownBlock]; omega
  clear hown1 hgr1 hout0 hbm
  go_loopg [8, 9] order.length (fun g s i wr => ∃ (k : Nat) (done : List TN) (ps : List (Value × TN)) (out : List Int), k ≤ order.length ∧ Hid (g = order.length - k) ∧ i = .int .i64 k ∧ Hid (plan ts l order = planGo ts l (order.drop k) done out) ∧ Hid (DoneOk ts k done) ∧ Hid (ps.map (·.2) = done) ∧ Hid (∀ p ∈ ps, WayAt w w.heap.size p) ∧
    wr.ownsRow w.heap.size 78 2 s k (ps.flatMap (Nc 1)) ∧ s.ownBlock ≠ some w.heap.size ∧ out.length = l.length ∧ wr.ownsRow w.heap.size 2 1 (.slice (some ⟨w.heap.size, 0, none⟩) l.length l.length) l.length (out.map (Value.int .i64)) ∧ Below w.heap.size w wr)
  case atStart => exact ⟨0, [], [], List.replicate l.length 0, by omega, by simp [Hid], rfl, by simp [Hid, plan], ⟨rfl, fun e he => by cases he⟩, rfl, hide (fun p hp => by cases hp), hrun1, hne1, by simp, hout1, hb2⟩
  case round =>
    obtain ⟨k, done, ps, out, hk, hg, rfl, HS, HD, HP, HWA, hrun, hne, hol2, hout, hb⟩ := hrel
    clear hout1 hrun1 hb2 hne1 hlb1
    by_cases hlt : k < order.length
    · obtain ⟨b3, o3, z, hA2, hbb3, hz, hca⟩ := (HO.out.below hb).at_ hlt
      have hzi := HOI.out z (List.mem_of_getElem? hz)
      obtain ⟨n1, rfl⟩ := Int.eq_ofNat_of_zero_le hzi.1
      have hnl : n1 < l.length := by omega
      obtain ⟨b1, o1, e, Aw, cw, hA, hbb1, he, hrw, hn0, hc1, hc2⟩ := (HX.out.below hb).at_ (by omega) hnl
      have hn1 := hc1 (by omega)
      subst hA hA2
      obtain ⟨hwy, ⟨hp0, hp9⟩, _⟩ := HLO.out e (List.mem_of_getElem? he)
      have HS' := HS.out
      rw [planGo_drop hz, startOf, wishAt_get he] at HS'
      have HD' := hide (HD.out.next HTS.out hwy hp0 hp9)
      have hsb := start_bd HTS.out HD.out hwy hp0 hp9
      have hpl := HD.out.plan (by omega)
      have hw12 := hwy.1.2
      obtain ⟨Ar, cr, hsh, _⟩ := own_shape hrun
      subst hsh
      have hdl : done.length = k := HD.out.1
      have hszb := hb.size
      have e0 : wr.drew.cell? ⟨b1, o1 + n1 * 3, none⟩ = some (.slice Aw e.way.length cw) := hn0
      have e1 : wr.drew.cell? ⟨b1, o1 + n1 * 3 + 1, none⟩ = some (.int .i64 e.p) := hn1
      have e2 : wr.drew.cell? ⟨b3, o3 + k, none⟩ = some (.int .i64 (n1 : Int)) := hca
      have bd : Below w.heap.size w wr.drew := hb.drew
      have hrund : wr.drew.ownsRow w.heap.size 78 2 (.slice Ar k cr) k (ps.flatMap (Nc 1)) := hrun
      have houtd : wr.drew.ownsRow w.heap.size 2 1 (.slice (some ⟨w.heap.size, 0, none⟩) l.length l.length) l.length (out.map (Value.int .i64)) := hout
      have hwa : Hid (WayAt w w.heap.size (.slice Aw e.way.length cw, e)) := by
        obtain ⟨b', o', e', Aw', cw', hA', hb', he', hr', hc', _, _⟩ := HX.out.at_ (by omega) hnl
        cases hA'
        rw [he] at he'
        cases he'
        have h9 := (hb.cell (p := ⟨b1, o1 + n1 * 3, none⟩) hbb1)
        rw [hn0, hc'] at h9
        cases h9
        exact ⟨_, _, rfl, hr'⟩
      have hrwd : RdI wr.drew wr.drew.heap.size Aw e.way := RdI.more (w := wr.drew) (show RdI wr.drew w.heap.size Aw e.way from hrw) bd.size
      have HC := hide (HE.out e.way done e.p Ar cr Aw cw wr.drew bd hpl hwy hp0 (by omega) ⟨ps, HP.out, Rd.of_own hrund, fun p hp => by obtain ⟨A', c', h5, h6⟩ := HWA.out p hp; exact ⟨A', c', h5, (h6.below bd).more bd.size⟩⟩ hrwd)
      rw [hdl] at HC
      generalize hst : estOf ts (takenOf ts done) e.way e.p = st at *
      obtain ⟨hs0, hs9⟩ := hsb
      have HQ := hide HS'
      clear HS' HS hz he hrw hrwd hc1 hc2 hn0 hn1 hrun hout hst hwy hpl hzi
      go_wp2_with fail
      clear hca
      refine wp_region_held_drew (S := fun W => W.cell? ⟨b1, o1 + n1 * 3, none⟩ = some (.slice Aw e.way.length cw) ∧ W.cell? ⟨b1, o1 + n1 * 3 + 1, none⟩ = some (.int .i64 e.p)) (by kernel_rfl) (⟨e0, e1⟩) (fun hHeld => ?_)
      generalize wr.drew = wd at *
      refine wpAnyH_take (i := 0) (v := ?_) rfl (by kernel_rfl) (by kernel_rfl) (by kernel_rfl) (fun _ _ _ h => h) (Or.inl ⟨by rfl, ?_⟩) (by assumption) ?_
      rotate_left 1
      · (intro w hSw; (try dsimp only at hSw); go_simp; try with_reducible rfl)
      try simp only [Act.put, List.getElem_toArray, List.getElem_cons_succ, List.getElem_cons_zero, List.setIfInBounds_toArray, List.set_cons_zero, List.set_cons_succ]
      refine wpAnyH_take (i := 1) (v := ?_) rfl (by kernel_rfl) (by kernel_rfl) (by kernel_rfl) (fun _ _ _ h => h) (Or.inl ⟨by rfl, ?_⟩) (by assumption) ?_
      rotate_left 1
      · (intro w hSw; (try dsimp only at hSw); go_simp; try with_reducible rfl)
      try simp only [Act.put, List.getElem_toArray, List.getElem_cons_succ, List.getElem_cons_zero, List.setIfInBounds_toArray, List.set_cons_zero, List.set_cons_succ]
      refine wpAnyH_take (i := 2) (v := ?_) rfl (by kernel_rfl) (by kernel_rfl) (by kernel_rfl) (fun _ _ _ h => h) (Or.inl ⟨by rfl, ?_⟩) (by assumption) ?_
      rotate_left 1
      · (intro w hSw; (try dsimp only at hSw); go_simp; try with_reducible rfl)
      try simp only [Act.put, List.getElem_toArray, List.getElem_cons_succ, List.getElem_cons_zero, List.setIfInBounds_toArray, List.set_cons_zero, List.set_cons_succ]
      refine wpAnyH_take (i := 3) (v := ?_) rfl (by kernel_rfl) (by kernel_rfl) (by kernel_rfl) (fun _ _ _ h => h) (Or.inl ⟨by rfl, ?_⟩) (by assumption) ?_
      rotate_left 1
      · (intro w hSw; (try dsimp only at hSw); go_simp; try with_reducible rfl)
      try simp only [Act.put, List.getElem_toArray, List.getElem_cons_succ, List.getElem_cons_zero, List.setIfInBounds_toArray, List.set_cons_zero, List.set_cons_succ]
      refine wpAnyH_take (i := 4) (v := ?_) rfl (by kernel_rfl) (by kernel_rfl) (by kernel_rfl) (fun _ _ _ h => h) (Or.inl ⟨by rfl, ?_⟩) (by assumption) ?_
      rotate_left 1
      · (intro w hSw; (try dsimp only at hSw); go_simp; try with_reducible rfl)
      try simp only [Act.put, List.getElem_toArray, List.getElem_cons_succ, List.getElem_cons_zero, List.setIfInBounds_toArray, List.set_cons_zero, List.set_cons_succ]
      refine wpAnyH_take (i := 5) (v := ?_) rfl (by kernel_rfl) (by kernel_rfl) (by kernel_rfl) (fun _ _ _ h => h) (Or.inl ⟨by rfl, ?_⟩) (by assumption) ?_
      rotate_left 1
      · (intro w hSw; (try dsimp only at hSw); go_simp; try with_reducible rfl)
      try simp only [Act.put, List.getElem_toArray, List.getElem_cons_succ, List.getElem_cons_zero, List.setIfInBounds_toArray, List.set_cons_zero, List.set_cons_succ]
      refine wpAnyH_take (i := 6) (v := ?_) rfl (by kernel_rfl) (by kernel_rfl) (by kernel_rfl) (fun _ _ _ h => h) (Or.inl ⟨by rfl, ?_⟩) (by assumption) ?_
      rotate_left 1
      · (intro w hSw; (try dsimp only at hSw); go_simp; try with_reducible rfl)
      try simp only [Act.put, List.getElem_toArray, List.getElem_cons_succ, List.getElem_cons_zero, List.setIfInBounds_toArray, List.set_cons_zero, List.set_cons_succ]
      refine wpAnyH_take (i := 7) (v := ?_) rfl (by kernel_rfl) (by kernel_rfl) (by kernel_rfl) (fun _ _ _ h => h) (Or.inl ⟨by rfl, ?_⟩) (by assumption) ?_
      rotate_left 1
      · (intro w hSw; (try dsimp only at hSw); go_simp; try with_reducible rfl)
      try simp only [Act.put, List.getElem_toArray, List.getElem_cons_succ, List.getElem_cons_zero, List.setIfInBounds_toArray, List.set_cons_zero, List.set_cons_succ]
      refine wpAnyH_take (i := 8) (v := ?_) rfl (by kernel_rfl) (by kernel_rfl) (by kernel_rfl) (fun _ _ _ h => h) (Or.inl ⟨by rfl, ?_⟩) (by assumption) ?_
      rotate_left 1
      · (intro w hSw; (try dsimp only at hSw); go_simp; try with_reducible rfl)
      try simp only [Act.put, List.getElem_toArray, List.getElem_cons_succ, List.getElem_cons_zero, List.setIfInBounds_toArray, List.set_cons_zero, List.set_cons_succ]
      refine wpAnyH_take (i := 9) (v := ?_) rfl (by kernel_rfl) (by kernel_rfl) (by kernel_rfl) (fun _ _ _ h => h) (Or.inl ⟨by rfl, ?_⟩) (by assumption) ?_
      rotate_left 1
      · (intro w hSw; (try dsimp only at hSw); go_simp; try with_reducible rfl)
      try simp only [Act.put, List.getElem_toArray, List.getElem_cons_succ, List.getElem_cons_zero, List.setIfInBounds_toArray, List.set_cons_zero, List.set_cons_succ]
      refine wpAnyH_ready (rs := [10]) (by kernel_rfl) (by simp) ?_
      refine AllReadyH.cons rfl (fun K hK => ?_) AllReadyH.nil
      try simp only [Act.put, List.getElem_toArray, List.getElem_cons_succ, List.getElem_cons_zero, List.setIfInBounds_toArray, List.set_cons_zero, List.set_cons_succ]
      go_simp
      go_at_call 120
      refine HC.out.mono ?_
      rintro e' w2 ⟨rfl, s2⟩
      have hszd := bd.size
      have f0 := (s2.cell (p := ⟨b1, o1 + n1 * 3, none⟩) (by dsimp only; omega)).trans e0
      have f1 := (s2.cell (p := ⟨b1, o1 + n1 * 3 + 1, none⟩) (by dsimp only; omega)).trans e1
      have f2 := (s2.cell (p := ⟨b3, o3 + k, none⟩) (by dsimp only; omega)).trans e2
      dsimp only
      refine hK.out _ _ (⟨f0, f1⟩) (fun hHeld => ?_)
      clear hK K
      try simp only [Act.put, List.getElem_toArray, List.getElem_cons_succ, List.getElem_cons_zero, List.setIfInBounds_toArray, List.set_cons_zero, List.set_cons_succ]
      refine wpAnyH_take (i := 11) (v := ?_) rfl (by kernel_rfl) (by kernel_rfl) (by kernel_rfl) (fun _ _ _ h => h) (Or.inl ⟨by rfl, ?_⟩) (by assumption) ?_
      rotate_left 1
      · (intro w hSw; (try dsimp only at hSw); go_simp; try with_reducible rfl)
      try simp only [Act.put, List.getElem_toArray, List.getElem_cons_succ, List.getElem_cons_zero, List.setIfInBounds_toArray, List.set_cons_zero, List.set_cons_succ]
      refine wpAnyH_done (by kernel_rfl) ?_ _
      have hrun2 := own_below hrund s2 (Nat.le_refl _)
      have hout2 := own_below houtd s2 (Nat.le_refl _)
      have hb2 := bd.trans (s2.mono bd.size)
      have R2 := hide (hrun2.alloc (.cells #[.slice Aw e.way.length cw, .int .i64 st] 78))
      have O2 := hide (hout2.alloc (.cells #[.slice Aw e.way.length cw, .int .i64 st] 78))
      have B2 := hide (hb2.alloc hb2.size (.cells #[.slice Aw e.way.length cw, .int .i64 st] 78))
      have hol : ∃ u, out[n1]? = some u := ⟨_, List.getElem?_eq_getElem (by omega)⟩
      obtain ⟨u, hu⟩ := hol
      have HU := hide hu
      have HNE := hide (show (Value.slice (some ⟨w.heap.size, 0, none⟩) l.length l.length).ownBlock = none ∨ (Value.slice (some ⟨w.heap.size, 0, none⟩) l.length l.length).ownBlock ≠ (Value.slice Ar k cr).ownBlock from .inr fun h => hne h.symm)
      have hlt1 : (n1 : Int) < l.length := by omega
      have hlt0 : (0 : Int) ≤ (n1 : Int) := by omega
      clear hu e0 e1 e2 hrund houtd bd s2
      have hwl0 : w.heap.size < w2.heap.size := (hout2.lt _ rfl).2
      go_wp2_with (at_builtin; go_must (refine wp_app _ rfl _ _ 34 rfl w.heap.size 78 i1 (.agg #[.slice none 0 0, .int .i64 0]) 2 32 Try.underlying34 hi1 hz1 hs1 hb1 rfl (by decide) _ _ _ rfl R2.out _ _ 1 1 [.slice Aw e.way.length cw, .int .i64 st] rfl rfl (rd_new _ _ _ _ (by simp)) (by intro u hu; simp at hu; rcases hu with rfl | rfl <;> rfl) (by omega) (by decide) B2.out.size ?_); intro v' w4 hown' hgrow hat; have hb4 := app_below B2.out R2.out hgrow (Nat.le_refl _) B2.out.size; have out4 := hide (O2.out.kept hgrow HNE.out); have g2 := ((hb4.cell (p := ⟨b3, o3 + k, none⟩) hbb3).trans ((hb2.cell (p := ⟨b3, o3 + k, none⟩) hbb3).symm)).trans f2; have g3 := own_atI out4.out HU.out; have g4 := out4.out.frozenAt n1)
      have hs4 := own_setI out4.out n1 st
      have hne4 : v'.ownBlock ≠ some w.heap.size := by
        rcases hat with h | h
        · rw [h]; exact hne
        · rw [h]; simp; omega
      go_roundg (order.length - (k + 1))
      case measure => have := hg.out; omega
      case rel => exact ⟨k + 1, done ++ [⟨e.way, st, 0⟩], ps ++ [(.slice Aw e.way.length cw, ⟨e.way, st, 0⟩)], out.set n1 st, by omega, rfl, by go_num, HQ, HD', by unfold Hid; rw [List.map_append, HP.out]; rfl, hide (fun p hp => by rcases List.mem_append.1 hp with hp | hp; exact HWA.out p hp; simp only [List.mem_singleton] at hp; subst hp; exact hwa.out), by rw [List.flatMap_append]; exact hown'.kept hs4.2 (.inr hne4), hne4, by rw [List.length_set]; exact hol2, hs4.1, hb4.setCell (Nat.le_refl _) _⟩
    · have HF := hide (HS.out.trans (by rw [List.drop_eq_nil_of_le (by omega), planGo] : _ = out))
      go_wp2_with fail
      go_ret
      exact ⟨_, _, rfl, by rw [HF.out]; exact hout, hb⟩
end Go.Proofs.Yticgaiboolojkaa
