/-
  Seals: the next carrier and a run of a carrier, in the program and in the reference.
-/
import Derived.Test.YtflbddfmhjlknaaCarSealL
import Derived.Test.YtflbddfmhjlknaaLib
namespace Go.Proofs.Ytflbddfmhjlknaa
open Go.RowKit

/-- Is z worn less than the best one so far? -/
def better (x : List T2) (best : Option Nat) (z : T2) : Bool :=
  decide (z.a < z.b) && (match best with | none => true | some b => match x[b]? with | some y => decide (z.a * y.b < y.a * z.b) | none => false)
def nextFrom (x : List T2) : List T2 → Nat → Option Nat → Option Nat
  | [], _, best => best
  | z :: zs, k, best => nextFrom x zs (k + 1) (if better x best z then some k else best)
def optI : Option Nat → Int
  | none => -1
  | some b => b
def nextCarrier (x : List T2) : Int × Int :=
  if vSeals x then (match nextFrom x x 0 none with | none => (0, 3) | some b => ((b : Int), 0)) else (0, 1)
def runCarrier (x : List T2) (k : Int) : List T2 × Int :=
  if vSeals x then
    if 0 ≤ k ∧ k < x.length then
      match x[k.toNat]? with
      | some z => if z.a = z.b then ([], 6) else (x.set k.toNat ⟨z.a + 1, z.b⟩, 0)
      | none => ([], 2)
    else ([], 2)
  else ([], 1)
theorem runCarrier_at {x : List T2} {n : Nat} {z : T2} (hv : vSeals x = true) (hz : x[n]? = some z) :
    runCarrier x n = if z.a = z.b then ([], 6) else (x.set n ⟨z.a + 1, z.b⟩, 0) := by
  have hn := lt_of_get hz
  unfold runCarrier
  rw [if_pos hv, if_pos ⟨by omega, by omega⟩, Int.toNat_natCast, hz]
theorem own_pos {w : World} {base : Nat} {e : TypeId} {size n : Nat} {v : Value} {xs : List Value} (h : w.ownsRow base e size v n xs) (hn : 0 < n) : ∃ g c, v = .slice (some ⟨g, 0, none⟩) n c ∧ base ≤ g ∧ g < w.heap.size := by
  obtain ⟨A, c, rfl, _⟩ := own_shape h
  rcases own_block h with ⟨_, h0, _⟩ | ⟨g, rfl, h1, h2⟩
  · omega
  · exact ⟨g, c, rfl, h1, h2⟩
theorem mul_bd {a b : Int} (h1 : 0 ≤ a) (h2 : a ≤ 1000) (h3 : 0 ≤ b) (h4 : b ≤ 1000) : 0 ≤ a * b ∧ a * b ≤ 1000000 :=
  ⟨Int.mul_nonneg h1 h3, by have := Int.mul_le_mul h2 h4 h3 (by omega : (0 : Int) ≤ 1000); omega⟩

set_option maxRecDepth 100000 in
set_option maxHeartbeats 2000000 in
theorem S_NextCarrier (x : List T2) (v : Value) (w : World) (hs : x.length ≤ 1048576) (_ : ∀ z ∈ x, z.Fits) (h : R_SealS w w.heap.size v x) :
    Calls Try.prog 15 #[v] w fun e w' => e = .returned (.tuple #[.int .i64 (nextCarrier x).1, .int .i64 (nextCarrier x).2]) ∧ Below w.heap.size w w' := by
  obtain ⟨A, c, rfl, h1⟩ := h
  have HV := hide (l07Seals_any x A c w hs h1)
  have HX := hide h1; clear h1
  cases hv : vSeals x
  · rw [hv] at HV
    have HR := hide (show nextCarrier x = (0, 1) by simp [nextCarrier, hv])
    clear hv
    go_enter Try.func15, Try.ntmps15
    go_wp2_with (go_at_call 82; refine (HV.out).mono ?_; rintro e w1 ⟨rfl, hb1⟩)
    go_ret2
    exact ⟨by rw [HR.out]; rfl, hb1⟩
  · rw [hv] at HV
    have HR := hide (show nextCarrier x = (match nextFrom x x 0 none with | none => (0, 3) | some b => ((b : Int), 0)) by simp [nextCarrier, hv])
    have HO := hide (vSeals_iff.1 hv)
    obtain ⟨_, hl60⟩ := vSeals_iff.1 hv
    clear hv
    go_enter Try.func15, Try.ntmps15
    go_wp2_with (go_at_call 82; refine (HV.out).mono ?_; rintro e w1 ⟨rfl, hb1⟩)
    go_loopg [4, 5] x.length (fun g s i wr => ∃ (k : Nat) (best : Option Nat), k ≤ x.length ∧ Hid (g = x.length - k) ∧ i = .int .i64 k ∧ s = .int .i64 (optI best) ∧ (∀ b, best = some b → b < k) ∧
      Hid (nextFrom x x 0 none = nextFrom x (x.drop k) k best) ∧ Below w.heap.size w wr)
    case atStart => exact ⟨0, none, by omega, by simp [Hid], rfl, rfl, by simp, by simp [Hid], hb1⟩
    case round =>
      obtain ⟨k, best, hk, hg, rfl, rfl, hbl, HS, hb⟩ := hrel
      by_cases hlt : k < x.length
      · obtain ⟨b1, o1, z1, rfl, hbk, hz1, hca, hcb⟩ := (HX.out.below hb).at_ hlt
        have Z := hide hz1
        obtain ⟨⟨hq1, hq2⟩, hq3, hq4⟩ := HO.out.1 z1 (List.mem_of_getElem? hz1)
        clear hz1
        have hsz := hb.size
        have hbw : b1 < wr.heap.size := by omega
        by_cases hab : z1.a < z1.b
        · have hd1 : decide (z1.a < z1.b) = true := by simpa using hab
          cases best with
          | none =>
            have HS' := hide (show nextFrom x x 0 none = nextFrom x (x.drop (k + 1)) (k + 1) (some k) from by rw [HS.out, drop_cons Z.out, nextFrom]; simp [better, hab])
            have hd2 : decide (optI none < 0) = true := by simp [optI]
            simp only [optI] at *
            clear hbl
            go_wp2_with fail
            go_quiet (fail)
            go_wp2_with fail
            go_roundg (x.length - (k + 1))
            case measure => have := hg.out; omega
            case rel => exact ⟨k + 1, some k, by omega, rfl, by go_num, rfl, by intro b hb; injection hb; omega, HS', bdn hb _⟩
          | some bi =>
            have hbi := hbl bi rfl
            clear hbl
            obtain ⟨b2, o2, z2, he2, hbz2, hz2, hda, hdb⟩ := (HX.out.below hb).at_ (k := bi) (by omega)
            simp only [Option.some.injEq, Addr.mk.injEq, and_true] at he2
            obtain ⟨e2a, e2b⟩ := he2
            rw [← e2a, ← e2b] at hda hdb
            clear e2a e2b hbz2 b2 o2
            obtain ⟨⟨hr1, hr2⟩, hr3, hr4⟩ := HO.out.1 z2 (List.mem_of_getElem? hz2)
            obtain ⟨hm1, hm2⟩ := mul_bd hq3 (by omega : z1.a ≤ 1000) (by omega : 0 ≤ z2.b) hr2
            obtain ⟨hm3, hm4⟩ := mul_bd hr3 (by omega : z2.a ≤ 1000) (by omega : 0 ≤ z1.b) hq2
            have Z2 := hide hz2; clear hz2
            have hd2 : decide (((bi : Nat) : Int) < 0) = false := by simp
            by_cases hc : z1.a * z2.b < z2.a * z1.b
            · have HS' := hide (show nextFrom x x 0 none = nextFrom x (x.drop (k + 1)) (k + 1) (some k) from by rw [HS.out, drop_cons Z.out, nextFrom]; simp [better, hab, Z2.out, hc])
              have hd3 : decide (z1.a * z2.b < z2.a * z1.b) = true := by simpa using hc
              simp only [optI] at *
              go_wp2_with fail
              go_quiet (fail)
              go_wp2_with fail
              go_roundg (x.length - (k + 1))
              case measure => have := hg.out; omega
              case rel => exact ⟨k + 1, some k, by omega, rfl, by go_num, rfl, by intro b hb; injection hb; omega, HS', bdn hb _⟩
            · have HS' := hide (show nextFrom x x 0 none = nextFrom x (x.drop (k + 1)) (k + 1) (some bi) from by rw [HS.out, drop_cons Z.out, nextFrom]; simp [better, Z2.out, hc])
              have hd3 : decide (z1.a * z2.b < z2.a * z1.b) = false := by simpa using hc
              simp only [optI] at *
              go_wp2_with fail
              go_quiet (fail)
              go_wp2_with fail
              go_roundg (x.length - (k + 1))
              case measure => have := hg.out; omega
              case rel => exact ⟨k + 1, some bi, by omega, rfl, by go_num, rfl, by intro b hb; injection hb; omega, HS', bdn hb _⟩
        · have hd1 : decide (z1.a < z1.b) = false := by simpa using hab
          have HS' := hide (show nextFrom x x 0 none = nextFrom x (x.drop (k + 1)) (k + 1) best from by rw [HS.out, drop_cons Z.out, nextFrom]; simp [better, hab])
          have hbl' := hide hbl; clear hbl
          go_wp2_with fail
          go_quiet (fail)
          go_wp2_with fail
          go_roundg (x.length - (k + 1))
          case measure => have := hg.out; omega
          case rel => exact ⟨k + 1, best, by omega, rfl, by go_num, rfl, (fun b hb => by have := hbl'.out b hb; omega), HS', bdn hb _⟩
      · have HS' := HS.out
        rw [List.drop_eq_nil_of_le (by omega), nextFrom] at HS'
        have HR' := HR.out
        rw [HS'] at HR'
        have HR'' := hide HR'
        clear HR' HS' hbl
        cases best with
        | none =>
          simp only [optI] at *
          go_wp2_with fail
          go_ret2
          exact ⟨by rw [HR''.out]; rfl, hb⟩
        | some bi =>
          simp only [optI] at *
          go_wp2_with fail
          go_ret2
          exact ⟨by rw [HR''.out]; rfl, hb⟩
set_option maxRecDepth 100000 in
set_option maxHeartbeats 2000000 in
theorem P_NextCarrier (x : List T2) (v : Value) (w : World) (hs : x.length ≤ 1048576) (_ : ∀ z ∈ x, z.Fits) (h : R_SealS w w.heap.size v x) :
    Calls Try.prog 14 #[v] w fun e w' => e = .returned (.tuple #[.int .i64 (nextCarrier x).1, .int .i64 (nextCarrier x).2]) ∧ Below w.heap.size w w' := by
  obtain ⟨A, c, rfl, h1⟩ := h
  have HV := hide (implValidSeals_any x A c w hs h1)
  have HX := hide h1; clear h1
  cases hv : vSeals x
  · rw [hv] at HV
    have HR := hide (show nextCarrier x = (0, 1) by simp [nextCarrier, hv])
    clear hv
    go_enter Try.func14, Try.ntmps14
    go_wp2_with (go_at_call 27; refine (HV.out).mono ?_; rintro e w1 ⟨rfl, hb1⟩)
    go_ret2
    exact ⟨by rw [HR.out]; rfl, hb1⟩
  · rw [hv] at HV
    have HR := hide (show nextCarrier x = (match nextFrom x x 0 none with | none => (0, 3) | some b => ((b : Int), 0)) by simp [nextCarrier, hv])
    have HO := hide (vSeals_iff.1 hv)
    obtain ⟨_, hl60⟩ := vSeals_iff.1 hv
    clear hv
    go_enter Try.func14, Try.ntmps14
    go_wp2_with (go_at_call 27; refine (HV.out).mono ?_; rintro e w1 ⟨rfl, hb1⟩)
    go_loopg [4, 12] x.length (fun g s i wr => ∃ (k : Nat) (best : Option Nat), k ≤ x.length ∧ Hid (g = x.length - k) ∧ i = .int .i64 k ∧ s = .int .i64 (optI best) ∧ (∀ b, best = some b → b < k) ∧
      Hid (nextFrom x x 0 none = nextFrom x (x.drop k) k best) ∧ Below w.heap.size w wr)
    case atStart => exact ⟨0, none, by omega, by simp [Hid], rfl, rfl, by simp, by simp [Hid], hb1⟩
    case round =>
      obtain ⟨k, best, hk, hg, rfl, rfl, hbl, HS, hb⟩ := hrel
      by_cases hlt : k < x.length
      · obtain ⟨b1, o1, z1, rfl, hbk, hz1, hca, hcb⟩ := (HX.out.below hb).at_ hlt
        have Z := hide hz1
        obtain ⟨⟨hq1, hq2⟩, hq3, hq4⟩ := HO.out.1 z1 (List.mem_of_getElem? hz1)
        clear hz1
        have hsz := hb.size
        have hbw : b1 < wr.heap.size := by omega
        by_cases hab : z1.a < z1.b
        · have hd1 : decide (z1.a < z1.b) = true := by simpa using hab
          cases best with
          | none =>
            have HS' := hide (show nextFrom x x 0 none = nextFrom x (x.drop (k + 1)) (k + 1) (some k) from by rw [HS.out, drop_cons Z.out, nextFrom]; simp [better, hab])
            have hd2 : decide (optI none < 0) = true := by simp [optI]
            simp only [optI] at *
            clear hbl
            go_wp2_with fail
            go_quiet (fail)
            go_wp2_with fail
            go_roundg (x.length - (k + 1))
            case measure => have := hg.out; omega
            case rel => exact ⟨k + 1, some k, by omega, rfl, by go_num, rfl, by intro b hb; injection hb; omega, HS', bdn (hb.alloc hb.size _) _⟩
          | some bi =>
            have hbi := hbl bi rfl
            clear hbl
            obtain ⟨b2, o2, z2, he2, hbz2, hz2, hda, hdb⟩ := (HX.out.below hb).at_ (k := bi) (by omega)
            simp only [Option.some.injEq, Addr.mk.injEq, and_true] at he2
            obtain ⟨e2a, e2b⟩ := he2
            rw [← e2a, ← e2b] at hda hdb
            clear e2a e2b hbz2 b2 o2
            obtain ⟨⟨hr1, hr2⟩, hr3, hr4⟩ := HO.out.1 z2 (List.mem_of_getElem? hz2)
            obtain ⟨hm1, hm2⟩ := mul_bd hq3 (by omega : z1.a ≤ 1000) (by omega : 0 ≤ z2.b) hr2
            obtain ⟨hm3, hm4⟩ := mul_bd hr3 (by omega : z2.a ≤ 1000) (by omega : 0 ≤ z1.b) hq2
            have Z2 := hide hz2; clear hz2
            have hd2 : decide (((bi : Nat) : Int) < 0) = false := by simp
            by_cases hc : z1.a * z2.b < z2.a * z1.b
            · have HS' := hide (show nextFrom x x 0 none = nextFrom x (x.drop (k + 1)) (k + 1) (some k) from by rw [HS.out, drop_cons Z.out, nextFrom]; simp [better, hab, Z2.out, hc])
              have hd3 : decide (z1.a * z2.b < z2.a * z1.b) = true := by simpa using hc
              simp only [optI] at *
              go_wp2_with fail
              go_quiet (fail)
              go_wp2_with fail
              go_roundg (x.length - (k + 1))
              case measure => have := hg.out; omega
              case rel => exact ⟨k + 1, some k, by omega, rfl, by go_num, rfl, by intro b hb; injection hb; omega, HS', bdn (hb.alloc hb.size _) _⟩
            · have HS' := hide (show nextFrom x x 0 none = nextFrom x (x.drop (k + 1)) (k + 1) (some bi) from by rw [HS.out, drop_cons Z.out, nextFrom]; simp [better, Z2.out, hc])
              have hd3 : decide (z1.a * z2.b < z2.a * z1.b) = false := by simpa using hc
              simp only [optI] at *
              go_wp2_with fail
              go_quiet (fail)
              go_wp2_with fail
              go_roundg (x.length - (k + 1))
              case measure => have := hg.out; omega
              case rel => exact ⟨k + 1, some bi, by omega, rfl, by go_num, rfl, by intro b hb; injection hb; omega, HS', bdn (hb.alloc hb.size _) _⟩
        · have hd1 : decide (z1.a < z1.b) = false := by simpa using hab
          have HS' := hide (show nextFrom x x 0 none = nextFrom x (x.drop (k + 1)) (k + 1) best from by rw [HS.out, drop_cons Z.out, nextFrom]; simp [better, hab])
          have hbl' := hide hbl; clear hbl
          go_wp2_with fail
          go_quiet (fail)
          go_wp2_with fail
          go_roundg (x.length - (k + 1))
          case measure => have := hg.out; omega
          case rel => exact ⟨k + 1, best, by omega, rfl, by go_num, rfl, (fun b hb => by have := hbl'.out b hb; omega), HS', bdn (hb.alloc hb.size _) _⟩
      · have HS' := HS.out
        rw [List.drop_eq_nil_of_le (by omega), nextFrom] at HS'
        have HR' := HR.out
        rw [HS'] at HR'
        have HR'' := hide HR'
        clear HR' HS' hbl
        cases best with
        | none =>
          simp only [optI] at *
          go_wp2_with fail
          go_ret2
          exact ⟨by rw [HR''.out]; rfl, hb⟩
        | some bi =>
          simp only [optI] at *
          go_wp2_with fail
          go_ret2
          exact ⟨by rw [HR''.out]; rfl, hb⟩
set_option maxRecDepth 100000 in
set_option maxHeartbeats 2000000 in
theorem S_RunCarrier (x : List T2) (v : Value) (k : Int) (w : World) (hs : x.length ≤ 1048576) (_ : ∀ z ∈ x, z.Fits) (h : R_SealS w w.heap.size v x) (_ : -9223372036854775808 ≤ k) (_ : k ≤ 9223372036854775807) :
    Calls Try.prog 13 #[v, .int .i64 k] w fun e w' => ∃ r, e = .returned (.tuple #[r, .int .i64 (runCarrier x k).2]) ∧ O_SealS w' w.heap.size w'.heap.size r (runCarrier x k).1 ∧ Below w.heap.size w w' := by
  obtain ⟨A, c, rfl, h1⟩ := h
  have HV := hide (l07Seals_any x A c w hs h1)
  have HX := hide h1; clear h1
  cases hv : vSeals x
  · rw [hv] at HV
    have HR := hide (show runCarrier x k = ([], 1) by simp [runCarrier, hv])
    clear hv
    go_enter Try.func13, Try.ntmps13
    go_wp2_with (go_at_call 82; refine (HV.out).mono ?_; rintro e w1 ⟨rfl, hb1⟩)
    go_ret2
    exact ⟨_, by rw [HR.out]; rfl, by rw [HR.out]; exact O_SealS.nil _ _ _ _ _, hb1⟩
  · rw [hv] at HV
    obtain ⟨hall, hl60⟩ := vSeals_iff.1 hv
    have HO := hide hall; clear hall
    by_cases hk : 0 ≤ k ∧ k < x.length
    · obtain ⟨n, rfl⟩ := Int.eq_ofNat_of_zero_le hk.1
      have hn : n < x.length := by omega
      obtain ⟨b1, o1, z1, rfl, hbk, hz1, _, _⟩ := Rd2.at_ HX.out hn
      obtain ⟨⟨hq1, hq2⟩, hq3, hq4⟩ := HO.out z1 (List.mem_of_getElem? hz1)
      have HC : Hid (∀ W, Below w.heap.size w W → W.cell? ⟨b1, o1 + n * 2, none⟩ = some (.int .i64 z1.a) ∧ W.cell? ⟨b1, o1 + n * 2 + 1, none⟩ = some (.int .i64 z1.b)) := fun W hW => by
        obtain ⟨b2, o2, z2, he2, _, hz2, hda, hdb⟩ := (HX.out.below hW).at_ hn
        simp only [Option.some.injEq, Addr.mk.injEq, and_true] at he2
        obtain ⟨rfl, rfl⟩ := he2
        rw [hz1] at hz2; injection hz2 with hz2; subst hz2
        exact ⟨hda, hdb⟩
      by_cases he : z1.a = z1.b
      · have HR := hide (show runCarrier x n = ([], 6) by rw [runCarrier_at hv hz1]; simp [he])
        have hE : (z1.a == z1.b) = true := by simp [he]
        have he' := hide he
        have Z := hide hz1
        clear he hz1 hv hk
        go_enter Try.func13, Try.ntmps13
        go_wp2_with (first | (go_at_call 82; refine (HV.out).mono ?_; rintro e w1 ⟨rfl, hb1⟩; have hcc := HC.out w1 hb1; obtain ⟨hca, hcb⟩ := hcc) | (go_at_call 83; first | (refine (l00In_t _ _ _ _ (by omega)).mono ?_; rintro e w' ⟨rfl, rfl⟩) | (refine (l00In_f _ _ _ _ (by omega)).mono ?_; rintro e w' ⟨rfl, rfl⟩)))
        go_quiet (fail)
        go_wp2_with fail
        go_ret2
        exact ⟨_, by rw [HR.out]; rfl, by rw [HR.out]; exact O_SealS.nil _ _ _ _ _, bdn hb1 _⟩
      · have HR := hide (show runCarrier x n = (x.set n ⟨z1.a + 1, z1.b⟩, 0) by rw [runCarrier_at hv hz1]; simp [he])
        have hE : (z1.a == z1.b) = false := by simp [he]
        have he' := hide he
        have Z := hide hz1
        clear he hz1 hv hk
        go_enter Try.func13, Try.ntmps13
        have hinfo : (Try.prog.info? 46).map (fun i => (i.zero, i.size, i.bytes)) = some (some (.agg #[.int .i64 0, .int .i64 0]), 2, 16) := by kernel_rfl
        obtain ⟨i0, hi0, hz0, hs0, hb0⟩ := info_parts hinfo
        clear hinfo
        go_wp2_with (first | (go_at_call 82; refine (HV.out).mono ?_; rintro e w1 ⟨rfl, hb1⟩; have hcc := HC.out w1 hb1; obtain ⟨hca, hcb⟩ := hcc) | (go_at_call 83; first | (refine (l00In_t _ _ _ _ (by omega)).mono ?_; rintro e w' ⟨rfl, rfl⟩) | (refine (l00In_f _ _ _ _ (by omega)).mono ?_; rintro e w' ⟨rfl, rfl⟩)))
        go_quiet (fail)
        have ho0 := own_new0 (w1.drewN nq) w.heap.size 46 2 hb1.size
        have hb2 : Below w.heap.size w ((w1.drewN nq).alloc (.cells #[] 46)) := (bdn hb1 nq).alloc hb1.size _
        have HRD := hide (Rd2.below HX.out hb2)
        have hsz := hb1.size
        go_wp2_with (at_builtin; go_must (refine wp_app _ rfl _ _ 24 rfl w.heap.size 46 i0 (.agg #[.int .i64 0, .int .i64 0]) 2 16 Try.underlying24 hi0 hz0 hs0 hb0 rfl (by decide) _ _ _ rfl ho0 _ _ x.length c _ rfl (flatMap_len T2.cells 2 (fun _ => rfl) x) HRD.out (T2.ones _) (by omega) (by decide) (by simp <;> omega) ?_); intro v' w2 hown' hgrow hat; simp only [Nat.zero_add, List.nil_append] at hown'; obtain ⟨g, c', rfl, hgb, hgs⟩ := own_pos hown' (by omega); have hq0 : w2.cell? ⟨g, n * 2, none⟩ = some (.int .i64 z1.a) := (hown'.cellAt (n * 2) (by omega)).trans (flatMap_get _ 2 (fun _ => rfl) _ n 0 _ Z.out (by omega)); have hf0 := hown'.frozenAt (n * 2); have hb3 := app_below hb2 ho0 hgrow (Nat.le_refl _) (by simp; omega))

        go_ret2
        refine ⟨_, by rw [HR.out]; rfl, ?_, hb3.setCell hgb _⟩
        rw [HR.out]
        have hs0 := hown'.stored (n * 2) (.int .i64 (z1.a + 1))
        have hfin := flatMap_set T2.cells 2 (fun _ => rfl) x n 0 z1 ⟨z1.a + 1, z1.b⟩ (.int .i64 (z1.a + 1)) Z.out (by omega) rfl
        simp only [Nat.add_zero] at hfin
        rw [hfin] at hs0
        have hrow := hs0.1
        have : (x.set n ⟨z1.a + 1, z1.b⟩).length = x.length := by simp
        unfold O_SealS
        dsimp only
        rw [this]
        exact OwnV.of_row hrow (by omega)
    · have HR := hide (show runCarrier x k = ([], 2) by simp [runCarrier, hv, hk])
      have hk' : k < 0 ∨ (x.length : Int) - 1 < k := by omega
      clear hk hv
      go_enter Try.func13, Try.ntmps13
      go_wp2_with (first | (go_at_call 82; refine (HV.out).mono ?_; rintro e w1 ⟨rfl, hb1⟩) | (go_at_call 83; first | (refine (l00In_t _ _ _ _ (by omega)).mono ?_; rintro e w' ⟨rfl, rfl⟩) | (refine (l00In_f _ _ _ _ (by omega)).mono ?_; rintro e w' ⟨rfl, rfl⟩)))
      go_ret2
      exact ⟨_, by rw [HR.out]; rfl, by rw [HR.out]; exact O_SealS.nil _ _ _ _ _, hb1⟩
set_option maxRecDepth 100000 in
set_option maxHeartbeats 2000000 in
theorem P_RunCarrier (x : List T2) (v : Value) (k : Int) (w : World) (hs : x.length ≤ 1048576) (_ : ∀ z ∈ x, z.Fits) (h : R_SealS w w.heap.size v x) (_ : -9223372036854775808 ≤ k) (_ : k ≤ 9223372036854775807) :
    Calls Try.prog 12 #[v, .int .i64 k] w fun e w' => ∃ r, e = .returned (.tuple #[r, .int .i64 (runCarrier x k).2]) ∧ O_SealS w' w.heap.size w'.heap.size r (runCarrier x k).1 ∧ Below w.heap.size w w' := by
  obtain ⟨A, c, rfl, h1⟩ := h
  have HV := hide (implValidSeals_any x A c w hs h1)
  have HX := hide h1; clear h1
  cases hv : vSeals x
  · rw [hv] at HV
    have HR := hide (show runCarrier x k = ([], 1) by simp [runCarrier, hv])
    clear hv
    go_enter Try.func12, Try.ntmps12
    go_wp2_with (go_at_call 27; refine (HV.out).mono ?_; rintro e w1 ⟨rfl, hb1⟩)
    go_ret2
    exact ⟨_, by rw [HR.out]; rfl, by rw [HR.out]; exact O_SealS.nil _ _ _ _ _, hb1⟩
  · rw [hv] at HV
    obtain ⟨hall, hl60⟩ := vSeals_iff.1 hv
    have HO := hide hall; clear hall
    by_cases hk : 0 ≤ k ∧ k < x.length
    · obtain ⟨n, rfl⟩ := Int.eq_ofNat_of_zero_le hk.1
      have hn : n < x.length := by omega
      obtain ⟨b1, o1, z1, rfl, hbk, hz1, _, _⟩ := Rd2.at_ HX.out hn
      obtain ⟨⟨hq1, hq2⟩, hq3, hq4⟩ := HO.out z1 (List.mem_of_getElem? hz1)
      have HC : Hid (∀ W, Below w.heap.size w W → W.cell? ⟨b1, o1 + n * 2, none⟩ = some (.int .i64 z1.a) ∧ W.cell? ⟨b1, o1 + n * 2 + 1, none⟩ = some (.int .i64 z1.b)) := fun W hW => by
        obtain ⟨b2, o2, z2, he2, _, hz2, hda, hdb⟩ := (HX.out.below hW).at_ hn
        simp only [Option.some.injEq, Addr.mk.injEq, and_true] at he2
        obtain ⟨rfl, rfl⟩ := he2
        rw [hz1] at hz2; injection hz2 with hz2; subst hz2
        exact ⟨hda, hdb⟩
      by_cases he : z1.a = z1.b
      · have HR := hide (show runCarrier x n = ([], 6) by rw [runCarrier_at hv hz1]; simp [he])
        have hE : (z1.a == z1.b) = true := by simp [he]
        have he' := hide he
        have Z := hide hz1
        clear he hz1 hv hk
        go_enter Try.func12, Try.ntmps12
        go_wp2_with (first | (go_at_call 27; refine (HV.out).mono ?_; rintro e w1 ⟨rfl, hb1⟩; have hcc := HC.out w1 hb1; obtain ⟨hca, hcb⟩ := hcc) | (go_at_call 80; first | (refine (within_t _ _ _ _ (by omega)).mono ?_; rintro e w' ⟨rfl, rfl⟩) | (refine (within_f _ _ _ _ (by omega)).mono ?_; rintro e w' ⟨rfl, rfl⟩)))
        go_quiet (fail)
        go_wp2_with fail
        go_ret2
        exact ⟨_, by rw [HR.out]; rfl, by rw [HR.out]; exact O_SealS.nil _ _ _ _ _, bdn hb1 _⟩
      · have HR := hide (show runCarrier x n = (x.set n ⟨z1.a + 1, z1.b⟩, 0) by rw [runCarrier_at hv hz1]; simp [he])
        have hE : (z1.a == z1.b) = false := by simp [he]
        have he' := hide he
        have Z := hide hz1
        clear he hz1 hv hk
        go_enter Try.func12, Try.ntmps12
        have HCL := hide fun W (hW : Below w.heap.size w W) => cloneSeal_any x _ c W hs (((HX.out.below hW).more hW.size))
        go_wp2_with (first | (go_at_call 27; refine (HV.out).mono ?_; rintro e w1 ⟨rfl, hb1⟩; have hcc := HC.out w1 hb1; obtain ⟨hca, hcb⟩ := hcc) | (go_at_call 80; first | (refine (within_t _ _ _ _ (by omega)).mono ?_; rintro e w' ⟨rfl, rfl⟩) | (refine (within_f _ _ _ _ (by omega)).mono ?_; rintro e w' ⟨rfl, rfl⟩)))
        go_quiet (fail)
        have hb2 : Below w.heap.size w (w1.drewN nq) := bdn hb1 nq
        go_wp2_with (go_at_call 81; refine (HCL.out _ hb2).mono ?_; rintro e w2 ⟨A', c', rfl, hown', hb3'⟩; obtain ⟨g, c'', hve, hgb', hgs⟩ := own_pos hown' (by omega); simp only [Value.slice.injEq, true_and] at hve; obtain ⟨rfl, rfl⟩ := hve; have hq0 : w2.cell? ⟨g, n * 2, none⟩ = some (.int .i64 z1.a) := (hown'.cellAt (n * 2) (by omega)).trans (flatMap_get _ 2 (fun _ => rfl) _ n 0 _ Z.out (by omega)); have hf0 := hown'.frozenAt (n * 2); have hb3 := hb2.trans (hb3'.mono hb2.size); have hgb : w.heap.size ≤ g := Nat.le_trans hb2.size hgb'; replace hown' := own_base hown' hb2.size)

        go_ret2
        refine ⟨_, by rw [HR.out]; rfl, ?_, hb3.setCell hgb _⟩
        rw [HR.out]
        have hs0 := hown'.stored (n * 2) (.int .i64 (z1.a + 1))
        have hfin := flatMap_set T2.cells 2 (fun _ => rfl) x n 0 z1 ⟨z1.a + 1, z1.b⟩ (.int .i64 (z1.a + 1)) Z.out (by omega) rfl
        simp only [Nat.add_zero] at hfin
        rw [hfin] at hs0
        have hrow := hs0.1
        have : (x.set n ⟨z1.a + 1, z1.b⟩).length = x.length := by simp
        unfold O_SealS
        dsimp only
        rw [this]
        exact OwnV.of_row hrow (by omega)
    · have HR := hide (show runCarrier x k = ([], 2) by simp [runCarrier, hv, hk])
      have hk' : k < 0 ∨ (x.length : Int) - 1 < k := by omega
      clear hk hv
      go_enter Try.func12, Try.ntmps12
      go_wp2_with (first | (go_at_call 27; refine (HV.out).mono ?_; rintro e w1 ⟨rfl, hb1⟩) | (go_at_call 80; first | (refine (within_t _ _ _ _ (by omega)).mono ?_; rintro e w' ⟨rfl, rfl⟩) | (refine (within_f _ _ _ _ (by omega)).mono ?_; rintro e w' ⟨rfl, rfl⟩)))
      go_ret2
      exact ⟨_, by rw [HR.out]; rfl, by rw [HR.out]; exact O_SealS.nil _ _ _ _ _, hb1⟩
end Go.Proofs.Ytflbddfmhjlknaa
