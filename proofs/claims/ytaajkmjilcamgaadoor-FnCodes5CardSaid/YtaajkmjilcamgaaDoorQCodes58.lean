/-
  AllWords and GreedyCode, in both packages. Printed by gen_codd.py.
-/
import Derived.Test.YtaajkmjilcamgaaDoorQCodes57
namespace Go.Proofs.YtaajkmjilcamgaaDoor
open Go.RowKit
def allR (s r : Int) : List ByteArray := if codeW s r 1 300 = 0 then allW s.toNat r.toNat else []
/-- The words that are taken one after the other. -/
def greedyG (d : Int) : List ByteArray → List ByteArray → List ByteArray
  | out, [] => out
  | out, w :: l => greedyG d (if nearL d out w then out else out ++ [w]) l
def greedyR (s r d : Int) : List ByteArray := if codeW s r d 300 = 0 then greedyG d [] (allW s.toNat r.toNat) else []
theorem codeW_ok {s r d l : Int} (h : codeW s r d l = 0) : (2 ≤ s ∧ s ≤ 4) ∧ (1 ≤ r ∧ r ≤ 8) ∧ (1 ≤ d ∧ d ≤ r) ∧ ((s.toNat ^ r.toNat : Nat) : Int) ≤ l := by
  unfold codeW at h
  split at h
  · rename_i h1
    split at h
    · rename_i h2
      exact ⟨h1.1, h1.2.1, h1.2.2, h2⟩
    · cases h
  · cases h
theorem rdS_block {w w' : World} {B B' b o : Nat} {xs : List ByteArray} (h : RdS w B (some ⟨b, o, none⟩) xs) (hb : w'.heap[b]? = w.heap[b]?) (hB : B ≤ B') : RdS w' B' (some ⟨b, o, none⟩) xs := fun hn => by
  obtain ⟨b', o', hA, hlt, hc⟩ := h hn
  cases hA
  exact ⟨b, o, rfl, by omega, fun j u hj => (World.cell?_of_block (a := ⟨b, o + j, none⟩) hb).trans (hc j u hj)⟩
/-- A list of words that grows beside another one. -/
structure GrS (base b o : Nat) (all : List ByteArray) (w wr : World) (v : Value) (out : List ByteArray) : Prop where
  row : wr.ownsRow base 9 1 v out.length (out.map Value.string)
  ne : v.ownBlock ≠ some b
  rd : RdS wr wr.heap.size (some ⟨b, o, none⟩) all
  lt : b < wr.heap.size
  bel : Below base w wr
  hi : base ≤ wr.heap.size
theorem GrS.below {base b o : Nat} {all : List ByteArray} {w wr w' : World} {v : Value} {out : List ByteArray} (h : GrS base b o all w wr v out) (k : Below wr.heap.size wr w') : GrS base b o all w w' v out :=
  ⟨row_belowS h.row k, h.ne, (h.rd.below k).more k.size, Nat.lt_of_lt_of_le h.lt k.size, h.bel.trans (k.mono h.hi), Nat.le_trans h.hi k.size⟩
theorem GrS.push {base b o : Nat} {all : List ByteArray} {w wr w' : World} {v v' : Value} {out : List ByteArray} {x : ByteArray} (h : GrS base b o all w wr v out)
    (ho : w'.ownsRow base 9 1 v' (out.length + 1) (out.map Value.string ++ [.string x])) (hg : wr.grownBy w' v.ownBlock) (hat : v'.ownBlock = v.ownBlock ∨ v'.ownBlock = some wr.heap.size) : GrS base b o all w w' v' (out ++ [x]) := by
  have hbel := app_below h.bel h.row hg (Nat.le_refl _) h.hi
  have hsz := hg.size
  refine ⟨?_, ?_, ?_, ?_, hbel, ?_⟩
  · rw [List.length_append, List.map_append]; exact ho
  · rcases hat with e | e
    · rw [e]; exact h.ne
    · rw [e]; intro q; cases q; exact Nat.lt_irrefl _ h.lt
  · exact rdS_block h.rd (hg.block b h.lt fun e => h.ne e.symm) hsz
  · have := h.lt; omega
  · exact Nat.le_trans h.hi hsz
theorem own_at {w : World} {base : Nat} {A : Option Addr} {c : Nat} {xs : List ByteArray} (h : w.ownsRow base 9 1 (.slice A xs.length c) xs.length (xs.map Value.string)) (hn : 0 < xs.length) : ∃ b, A = some ⟨b, 0, none⟩ ∧ base ≤ b ∧ b < w.heap.size := by
  rcases own_block h with ⟨_, h0, _⟩ | h0
  · omega
  · exact h0
theorem greedy_step {d : Int} {all out G : List ByteArray} {k : Nat} {v : ByteArray} (h : all[k]? = some v) (e : G = greedyG d out (all.drop k)) :
    (nearL d out v = true → G = greedyG d out (all.drop (k + 1))) ∧ (nearL d out v = false → G = greedyG d (out ++ [v]) (all.drop (k + 1))) := by
  rw [drop_cons h, greedyG] at e
  exact ⟨fun q => by rw [e, if_pos q], fun q => by rw [e, if_neg (by rw [q]; decide)]⟩
theorem to_below {P : Program} {f : FuncId} {args : Array Value} {w : World} {v : Ending} (h : Calls P f args w fun e w' => e = v ∧ ∃ m, w' = w.drewN m) : Calls P f args w fun e w' => e = v ∧ Below w.heap.size w w' :=
  h.mono fun _ _ ⟨he, m, hm⟩ => ⟨he, by rw [hm]; exact bdn (Below.refl _ _) m⟩
set_option maxRecDepth 100000 in
set_option maxHeartbeats 2000000 in
theorem P_AllWords (s r : Int) (w : World) :
    Calls Tryd.prog 12 #[.int .i64 s, .int .i64 r] w fun e w' => ∃ (A : Option Addr) (c : Nat), e = .returned (.tuple #[.slice A (allR s r).length c, .int .i64 (codeW s r 1 300)]) ∧ RdS w' w'.heap.size A (allR s r) ∧ Below w.heap.size w w' := by
  have HC := hide (show Calls Tryd.prog 20 #[.int .i64 s, .int .i64 r, .int .i64 1, .int .i64 300] w fun e w' => e = .returned (.int .i64 (codeW s r 1 300)) ∧ w = w' from wordsCode_any s r 1 300 w (by omega))
  by_cases h : codeW s r 1 300 = 0
  case neg =>
    have hL : allR s r = [] := by unfold allR; rw [if_neg h]
    rw [hL]
    generalize codeW s r 1 300 = cd at *
    have hB : (cd != 0) = true := by simpa using h
    have HH := hide h
    clear h hL
    go_enter Tryd.func12, Tryd.ntmps12
    go_wp2_with (go_at_call 20; refine (HC.out).mono ?_; rintro e w' ⟨rfl, rfl⟩)
    go_ret2
    exact ⟨none, 0, rfl, Rd.nil _ _ _, Below.refl _ _⟩
  obtain ⟨⟨h1, h2⟩, ⟨h3, h4⟩, _, h5⟩ := codeW_ok h
  have hL : allR s r = allW s.toNat r.toNat := by unfold allR; rw [if_pos h]
  rw [hL]
  rw [h] at HC ⊢
  obtain ⟨S, rfl⟩ : ∃ S : Nat, s = S := ⟨s.toNat, by omega⟩
  obtain ⟨R, rfl⟩ : ∃ R : Nat, r = R := ⟨r.toNat, by omega⟩
  rw [Int.toNat_natCast, Int.toNat_natCast] at h5 ⊢
  have HA := hide (allWords_any S R w (by omega) (by omega) (by omega) (by omega))
  generalize allW S R = L at *
  clear h h1 h2 h3 h4 h5 hL
  go_enter Tryd.func12, Tryd.ntmps12
  go_wp2_with (first | (go_at_call 20; refine (HC.out).mono ?_; rintro e w' ⟨rfl, rfl⟩) | (go_at_call 21; (with_reducible refine (HA.out).mono ?_); rintro e w1 ⟨A, c, rfl, ho, b1⟩))
  go_ret2
  exact ⟨A, c, rfl, RdS.of_own ho, b1⟩
set_option maxRecDepth 100000 in
set_option maxHeartbeats 2000000 in
theorem S_AllWords (s r : Int) (w : World) :
    Calls Tryd.prog 13 #[.int .i64 s, .int .i64 r] w fun e w' => ∃ (A : Option Addr) (c : Nat), e = .returned (.tuple #[.slice A (allR s r).length c, .int .i64 (codeW s r 1 300)]) ∧ RdS w' w'.heap.size A (allR s r) ∧ Below w.heap.size w w' := by
  have HC := hide (l05Whole_any s r w)
  by_cases h : codeW s r 1 300 = 0
  case neg =>
    have hL : allR s r = [] := by unfold allR; rw [if_neg h]
    rw [hL]
    generalize codeW s r 1 300 = cd at *
    have hB : (cd != 0) = true := by simpa using h
    have HH := hide h
    clear h hL
    go_enter Tryd.func13, Tryd.ntmps13
    go_wp2_with (go_at_call 30; refine (HC.out).mono ?_; rintro e w' ⟨rfl, rfl⟩)
    go_ret2
    exact ⟨none, 0, rfl, Rd.nil _ _ _, Below.refl _ _⟩
  obtain ⟨⟨h1, h2⟩, ⟨h3, h4⟩, _, h5⟩ := codeW_ok h
  have hL : allR s r = allW s.toNat r.toNat := by unfold allR; rw [if_pos h]
  rw [hL]
  rw [h] at HC ⊢
  obtain ⟨S, rfl⟩ : ∃ S : Nat, s = S := ⟨s.toNat, by omega⟩
  obtain ⟨R, rfl⟩ : ∃ R : Nat, r = R := ⟨r.toNat, by omega⟩
  rw [Int.toNat_natCast, Int.toNat_natCast] at h5 ⊢
  have HA := hide (l05All_any S R w (by omega) (by omega) (by omega) (by omega))
  generalize allW S R = L at *
  clear h h1 h2 h3 h4 h5 hL
  go_enter Tryd.func13, Tryd.ntmps13
  go_wp2_with (first | (go_at_call 30; refine (HC.out).mono ?_; rintro e w' ⟨rfl, rfl⟩) | (go_at_call 24; (with_reducible refine (HA.out).mono ?_); rintro e w1 ⟨A, c, rfl, ho, b1⟩))
  go_ret2
  exact ⟨A, c, rfl, RdS.of_own ho, b1⟩
set_option maxRecDepth 100000 in
set_option maxHeartbeats 4000000 in
theorem P_GreedyCode (s r d : Int) (w : World) :
    Calls Tryd.prog 6 #[.int .i64 s, .int .i64 r, .int .i64 d] w fun e w' => ∃ (A : Option Addr) (c : Nat), e = .returned (.tuple #[.slice A (greedyR s r d).length c, .int .i64 (codeW s r d 300)]) ∧ RdS w' w'.heap.size A (greedyR s r d) ∧ Below w.heap.size w w' := by
  obtain ⟨i0, hi0, hz0, hs0, hb0⟩ := info_parts string_inf
  have HC := hide (show Calls Tryd.prog 20 #[.int .i64 s, .int .i64 r, .int .i64 d, .int .i64 300] w fun e w' => e = .returned (.int .i64 (codeW s r d 300)) ∧ w = w' from wordsCode_any s r d 300 w (by omega))
  by_cases h : codeW s r d 300 = 0
  case neg =>
    have hL : greedyR s r d = [] := by unfold greedyR; rw [if_neg h]
    rw [hL]
    generalize codeW s r d 300 = cd at *
    have hB : (cd != 0) = true := by simpa using h
    have HH := hide h
    clear h hL
    go_enter Tryd.func6, Tryd.ntmps6
    go_wp2_with (go_at_call 20; refine (HC.out).mono ?_; rintro e w' ⟨rfl, rfl⟩)
    go_ret2
    exact ⟨none, 0, rfl, Rd.nil _ _ _, Below.refl _ _⟩
  obtain ⟨⟨h1, h2⟩, ⟨h3, h4⟩, _, h5⟩ := codeW_ok h
  have hL : greedyR s r d = greedyG d [] (allW s.toNat r.toNat) := by unfold greedyR; rw [if_pos h]
  rw [hL]
  rw [h] at HC ⊢
  obtain ⟨S, rfl⟩ : ∃ S : Nat, s = S := ⟨s.toNat, by omega⟩
  obtain ⟨R, rfl⟩ : ∃ R : Nat, r = R := ⟨r.toNat, by omega⟩
  rw [Int.toNat_natCast, Int.toNat_natCast] at h5 ⊢
  have HA := hide fun W => allWords_any S R W (by omega) (by omega) (by omega) (by omega)
  obtain ⟨G, hG⟩ : ∃ G, G = greedyG d [] (allW S R) := ⟨_, rfl⟩
  rw [← hG]
  have HGG := hide hG
  clear hG
  have HLN := hide (show 1 ≤ (allW S R).length ∧ (allW S R).length ≤ 300 by rw [allW_len]; exact ⟨pow_ge1 (by omega) R, by omega⟩)
  have HSZ := hide fun v (hv : v ∈ allW S R) => allW_size hv
  have hR8 : R ≤ 8 := by omega
  generalize allW S R = L at *
  clear h h1 h2 h3 h4 h5 hL
  go_enter Tryd.func6, Tryd.ntmps6
  have HB0 := hide (show Below w.heap.size w (w.alloc (.cells #[] 9)) from (Below.refl _ _).alloc (Nat.le_refl _) _)
  have HO0 := hide (own_new0 w w.heap.size 9 1 (Nat.le_refl _))
  have hza : (w.alloc (.cells #[] 9)).heap.size = w.heap.size + 1 := by simp
  go_wp2_with (first | (go_at_call 20; refine (HC.out).mono ?_; rintro e w' ⟨rfl, rfl⟩) | (go_at_call 21; (with_reducible refine (HA.out _).mono ?_); rintro e w1 ⟨A, c, rfl, ho, b1⟩))
  obtain ⟨hL1, hL2⟩ := HLN.out
  obtain ⟨b, rfl, hb1, hb2⟩ := own_at ho (by omega)
  have HG := hide (show GrS w.heap.size b 0 L w w1 (.slice (some ⟨w.heap.size, 0, none⟩) 0 0) [] from ⟨row_belowS HO0.out b1, (fun e => by have e2 := Option.some.inj (show some w.heap.size = some b from e); omega), RdS.of_own ho, hb2, HB0.out.trans (b1.mono HB0.out.size), by have := b1.size; omega⟩)
  clear ho b1 HO0 HB0 hza
  go_loopg [24, 9] L.length (fun g i sv wr => ∃ (k : Nat) (out : List ByteArray), k ≤ L.length ∧ Hid (g = L.length - k) ∧ i = .int .i64 k ∧ Hid (out.length ≤ k) ∧ Hid (∀ x ∈ out, x.size = R) ∧ Hid (G = greedyG d out (L.drop k)) ∧ Hid (GrS w.heap.size b 0 L w wr sv out))
  case atStart => exact ⟨0, [], by omega, by simp [Hid], rfl, hide (by simp), hide (fun x hx => by cases hx), HGG, HG⟩
  case round =>
    obtain ⟨k, out, hk, hg, rfl, HOL, HOS, HE, HGR⟩ := hrel
    clear HG
    by_cases hlt : k < L.length
    case neg =>
      have he := HE.out
      rw [List.drop_eq_nil_of_le (by omega), greedyG] at he
      subst he
      have hrow := HGR.out.row
      obtain ⟨A5, c5, rfl, _⟩ := own_shape hrow
      have HRR := hide (RdS.of_own hrow)
      clear hrow
      go_wp2_with fail
      go_ret2
      exact ⟨A5, c5, rfl, HRR.out, HGR.out.bel⟩
    obtain ⟨b2, o2, v, hA, _, hv, hcv⟩ := HGR.out.rd.at_ hlt
    obtain ⟨rfl, rfl⟩ : b = b2 ∧ 0 = o2 := by cases hA; exact ⟨rfl, rfl⟩
    have hvz := HSZ.out v (List.mem_of_getElem? hv)
    obtain ⟨hs1, hs2⟩ := greedy_step (d := d) hv HE.out
    have HS1 := hide hs1
    have HS2 := hide hs2
    have hki : (k : Int) < (L.length : Int) := by omega
    have hrow := HGR.out.row
    obtain ⟨A5, c5, rfl, _⟩ := own_shape hrow
    have hol := HOL.out
    have HVZ := hide hvz
    clear hs1 hs2 hv hA hvz
    rw [Nat.zero_add] at hcv
    have HF := hide (isFar_any out v d A5 c5 wr (by omega) (fun x hx => by rw [HOS.out x hx, HVZ.out]) (by have := HVZ.out; omega) (RdS.of_own hrow))
    clear hrow
    cases hn : nearL d out v
    · rw [hn] at HF
      have HS := hide (HS2.out hn)
      clear hn HS1 HS2
      go_wp2_with (first | (go_at_call 22; (with_reducible refine (HF.out).mono ?_); rintro e w2 ⟨rfl, bz⟩; have HG2 := hide (HGR.out.below bz); clear bz) | (at_builtin; refine Hid.out ?_))
      refine hide ?_
      have HG3 := hide (HG2.out.below ((Below.refl _ _).alloc (Nat.le_refl _) (.cells #[.string v] 9)))
      have hro := HG3.out.row
      have hhi := HG3.out.hi
      refine wp_app _ rfl _ _ 26 rfl w.heap.size 9 i0 (.string ByteArray.empty) 1 16 Tryd.underlying26 hi0 hz0 hs0 hb0 rfl (by decide) (.slice A5 out.length c5) out.length (out.map Value.string) rfl hro _ _ 1 1 [.string v] rfl rfl (rd_new _ _ _ _ ?c1) (str_one _) ?c2 (by decide) hhi ?_
      case c1 => simp
      case c2 => omega
      intro v9 w9 hown9 hgrow9 hat9
      have HG9 := hide (HG3.out.push hown9 hgrow9 hat9)
      clear hown9 hgrow9 hat9 hro hhi HG3 HG2
      go_wp2_with fail
      go_roundg (L.length - (k + 1))
      case measure => have := hg.out; omega
      case rel => exact ⟨k + 1, out ++ [v], by omega, rfl, by go_num, hide (by rw [List.length_append, List.length_singleton]; omega), hide (fun x hx => by
        rcases List.mem_append.1 hx with hx | hx
        · exact HOS.out x hx
        · rw [List.mem_singleton] at hx; rw [hx]; exact HVZ.out), HS, HG9⟩
    · rw [hn] at HF
      have HS := hide (HS1.out hn)
      clear hn HS1 HS2
      go_wp2_with (go_at_call 22; (with_reducible refine (HF.out).mono ?_); rintro e w2 ⟨rfl, bz⟩; have HG2 := hide (HGR.out.below bz); clear bz)
      go_roundg (L.length - (k + 1))
      case measure => have := hg.out; omega
      case rel => exact ⟨k + 1, out, by omega, rfl, by go_num, hide (by omega), HOS, HS, HG2⟩
set_option maxRecDepth 100000 in
set_option maxHeartbeats 4000000 in
theorem S_GreedyCode (s r d : Int) (w : World) :
    Calls Tryd.prog 7 #[.int .i64 s, .int .i64 r, .int .i64 d] w fun e w' => ∃ (A : Option Addr) (c : Nat), e = .returned (.tuple #[.slice A (greedyR s r d).length c, .int .i64 (codeW s r d 300)]) ∧ RdS w' w'.heap.size A (greedyR s r d) ∧ Below w.heap.size w w' := by
  obtain ⟨i0, hi0, hz0, hs0, hb0⟩ := info_parts string_inf
  have HC := hide (l05Code_any s r d w)
  by_cases h : codeW s r d 300 = 0
  case neg =>
    have hL : greedyR s r d = [] := by unfold greedyR; rw [if_neg h]
    rw [hL]
    generalize codeW s r d 300 = cd at *
    have hB : (cd != 0) = true := by simpa using h
    have HH := hide h
    clear h hL
    go_enter Tryd.func7, Tryd.ntmps7
    go_wp2_with (go_at_call 23; refine (HC.out).mono ?_; rintro e w' ⟨rfl, rfl⟩)
    go_ret2
    exact ⟨none, 0, rfl, Rd.nil _ _ _, Below.refl _ _⟩
  obtain ⟨⟨h1, h2⟩, ⟨h3, h4⟩, _, h5⟩ := codeW_ok h
  have hL : greedyR s r d = greedyG d [] (allW s.toNat r.toNat) := by unfold greedyR; rw [if_pos h]
  rw [hL]
  rw [h] at HC ⊢
  obtain ⟨S, rfl⟩ : ∃ S : Nat, s = S := ⟨s.toNat, by omega⟩
  obtain ⟨R, rfl⟩ : ∃ R : Nat, r = R := ⟨r.toNat, by omega⟩
  rw [Int.toNat_natCast, Int.toNat_natCast] at h5 ⊢
  have HA := hide fun W => l05All_any S R W (by omega) (by omega) (by omega) (by omega)
  obtain ⟨G, hG⟩ : ∃ G, G = greedyG d [] (allW S R) := ⟨_, rfl⟩
  rw [← hG]
  have HGG := hide hG
  clear hG
  have HLN := hide (show 1 ≤ (allW S R).length ∧ (allW S R).length ≤ 300 by rw [allW_len]; exact ⟨pow_ge1 (by omega) R, by omega⟩)
  have HSZ := hide fun v (hv : v ∈ allW S R) => allW_size hv
  have hR8 : R ≤ 8 := by omega
  generalize allW S R = L at *
  clear h h1 h2 h3 h4 h5 hL
  go_enter Tryd.func7, Tryd.ntmps7
  go_wp2_with (first | (go_at_call 23; refine (HC.out).mono ?_; rintro e w' ⟨rfl, rfl⟩) | (go_at_call 24; (with_reducible refine (HA.out _).mono ?_); rintro e w1 ⟨A, c, rfl, ho, b1⟩))
  obtain ⟨hL1, hL2⟩ := HLN.out
  obtain ⟨b, rfl, hb1, hb2⟩ := own_at ho (by omega)
  have HG := hide (show GrS w.heap.size b 0 L w (w1.alloc (.cells #[] 9)) (.slice (some ⟨w1.heap.size, 0, none⟩) 0 0) [] from ⟨own_new0 w1 w.heap.size 9 1 b1.size, (fun e => by have e2 := Option.some.inj (show some w1.heap.size = some b from e); omega), (by
    have b2 : Below w1.heap.size w1 (w1.alloc (.cells #[] 9)) := (Below.refl _ _).alloc (Nat.le_refl _) _
    exact ((RdS.of_own ho).below b2).more b2.size), by simp; omega, b1.alloc b1.size _, Nat.le_trans b1.size (by simp)⟩)
  clear ho b1
  go_loopg [11, 10] L.length (fun g i sv wr => ∃ (k : Nat) (out : List ByteArray), k ≤ L.length ∧ Hid (g = L.length - k) ∧ i = .int .i64 k ∧ Hid (out.length ≤ k) ∧ Hid (∀ x ∈ out, x.size = R) ∧ Hid (G = greedyG d out (L.drop k)) ∧ Hid (GrS w.heap.size b 0 L w wr sv out))
  case atStart => exact ⟨0, [], by omega, by simp [Hid], rfl, hide (by simp), hide (fun x hx => by cases hx), HGG, HG⟩
  case round =>
    obtain ⟨k, out, hk, hg, rfl, HOL, HOS, HE, HGR⟩ := hrel
    clear HG
    by_cases hlt : k < L.length
    case neg =>
      have he := HE.out
      rw [List.drop_eq_nil_of_le (by omega), greedyG] at he
      subst he
      have hrow := HGR.out.row
      obtain ⟨A5, c5, rfl, _⟩ := own_shape hrow
      have HRR := hide (RdS.of_own hrow)
      clear hrow
      go_wp2_with fail
      go_ret2
      exact ⟨A5, c5, rfl, HRR.out, HGR.out.bel⟩
    obtain ⟨b2, o2, v, hA, _, hv, hcv⟩ := HGR.out.rd.at_ hlt
    obtain ⟨rfl, rfl⟩ : b = b2 ∧ 0 = o2 := by cases hA; exact ⟨rfl, rfl⟩
    have hvz := HSZ.out v (List.mem_of_getElem? hv)
    obtain ⟨hs1, hs2⟩ := greedy_step (d := d) hv HE.out
    have HS1 := hide hs1
    have HS2 := hide hs2
    have hki : (k : Int) < (L.length : Int) := by omega
    have hrow := HGR.out.row
    obtain ⟨A5, c5, rfl, _⟩ := own_shape hrow
    have hol := HOL.out
    have HVZ := hide hvz
    clear hs1 hs2 hv hA hvz
    rw [Nat.zero_add] at hcv
    have HF := hide (to_below (l05Near_any out v d A5 c5 wr (by omega) (fun x hx => by rw [HOS.out x hx, HVZ.out]) (by have := HVZ.out; omega) (RdS.of_own hrow)))
    clear hrow
    have hlo := HGR.out.lt
    cases hn : nearL d out v
    · rw [hn] at HF
      have HS := hide (HS2.out hn)
      clear hn HS1 HS2
      go_wp2_with (first | (go_at_call 25; (with_reducible refine (HF.out).mono ?_); rintro e w2 ⟨rfl, bz⟩; have HG2 := hide (HGR.out.below bz); have hcv2 := (bz.cell (p := ⟨b, k, none⟩) hlo).trans hcv; clear bz) | (at_builtin; refine Hid.out ?_))
      refine hide ?_
      have HG3 := hide (HG2.out.below ((Below.refl _ _).alloc (Nat.le_refl _) (.cells #[.string v] 9)))
      have hro := HG3.out.row
      have hhi := HG3.out.hi
      refine wp_app _ rfl _ _ 26 rfl w.heap.size 9 i0 (.string ByteArray.empty) 1 16 Tryd.underlying26 hi0 hz0 hs0 hb0 rfl (by decide) (.slice A5 out.length c5) out.length (out.map Value.string) rfl hro _ _ 1 1 [.string v] rfl rfl (rd_new _ _ _ _ ?c1) (str_one _) ?c2 (by decide) hhi ?_
      case c1 => simp
      case c2 => omega
      intro v9 w9 hown9 hgrow9 hat9
      have HG9 := hide (HG3.out.push hown9 hgrow9 hat9)
      clear hown9 hgrow9 hat9 hro hhi HG3 HG2
      go_wp2_with fail
      go_roundg (L.length - (k + 1))
      case measure => have := hg.out; omega
      case rel => exact ⟨k + 1, out ++ [v], by omega, rfl, by go_num, hide (by rw [List.length_append, List.length_singleton]; omega), hide (fun x hx => by
        rcases List.mem_append.1 hx with hx | hx
        · exact HOS.out x hx
        · rw [List.mem_singleton] at hx; rw [hx]; exact HVZ.out), HS, HG9⟩
    · rw [hn] at HF
      have HS := hide (HS1.out hn)
      clear hn HS1 HS2
      go_wp2_with (go_at_call 25; (with_reducible refine (HF.out).mono ?_); rintro e w2 ⟨rfl, bz⟩; have HG2 := hide (HGR.out.below bz); clear bz)
      go_roundg (L.length - (k + 1))
      case measure => have := hg.out; omega
      case rel => exact ⟨k + 1, out, by omega, rfl, by go_num, hide (by omega), HOS, HS, HG2⟩
end Go.Proofs.YtaajkmjilcamgaaDoor
