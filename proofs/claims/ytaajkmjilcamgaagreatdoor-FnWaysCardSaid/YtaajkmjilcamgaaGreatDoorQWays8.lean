/-
  Numbers with a decimal form of at most 18 digits. Plain lemmas.
  Texts cut at a byte, joined again, and decimal forms in them. Plain lemmas.
  The kit's contract of strconv.FormatInt, laid (plain text as the kit's own lay-plain writes it; numbers by names).
  Rows of bytes. Plain lemmas.
  Decimal forms: the program's, by the kit's contract of strconv.FormatInt, and the reference's.
  The text of a network: its words, and what is read back from them. Plain lemmas.
-/
import Derived.Test.YtaajkmjilcamgaaGreatDoorQWays7
import Derived.Lib.AtoiTie
import Derived.Lib.ParseIntBTie
import Derived.Lib.Strings
import Derived.Lib.SplitLaws
import Derived.Lib.Join
import Derived.Shelf.Strconv.Itoa4
import Derived.Ground.Names2Prog
import Derived.Test.YtaajkmjilcamgaaGreatDoorProg
import Derived.Test.YtaajkmjilcamgaaGreatDoorQWays1
import Derived.Laws.IdiomStrings
import Derived.Lib.ItoaLen
import Derived.Lib.AppendIntMem
import Derived.Test.YtaajkmjilcamgaaGreatDoorQWays0
namespace Go.Proofs.YtaajkmjilcamgaaGreatDoor
open Go.RowKit
theorem digitVal_of {k : Nat} (h : k < 10) : Lib.digitVal (UInt8.ofNat (48 + k)) = some k := by
  have h1 : (UInt8.ofNat (48 + k)).toNat = 48 + k := by rw [UInt8.toNat_ofNat']; omega
  unfold Lib.digitVal
  rw [h1, if_pos (by omega)]
  congr 1
  omega
theorem decFrom_snoc {b : UInt8} {d : Nat} (hd : Lib.digitVal b = some d) : ∀ (l : List UInt8) (acc n : Nat), Lib.decFrom acc l = some n → Lib.decFrom acc (l ++ [b]) = some (n * 10 + d) := by
  intro l
  induction l with
  | nil =>
    intro acc n h
    simp only [Lib.decFrom, Option.some.injEq] at h
    subst h
    simp [Lib.decFrom, hd]
  | cons a t ih =>
    intro acc n h
    simp only [List.cons_append, Lib.decFrom] at h ⊢
    cases ha : Lib.digitVal a with
    | none => rw [ha] at h; cases h
    | some x => rw [ha] at h; exact ih _ _ h
theorem decFrom_digits (u : Nat) : Lib.decFrom 0 (Lib.decDigits u) = some u := by
  induction u using Nat.strongRecOn with
  | _ u ih =>
    rw [Lib.decDigits]
    split
    · rename_i h
      simp only [Lib.decFrom, digitVal_of h]
      simp
    · rename_i h
      have := decFrom_snoc (digitVal_of (k := u % 10) (by omega)) _ _ _ (ih (u / 10) (by omega))
      rw [this]
      congr 1
      omega
theorem decDigits_len {u : Nat} (h : u < 1000000000000000000) : (Lib.decDigits u).length ≤ 18 := by
  rw [Lib.decDigits_length]
  by_cases h0 : 18 < Lib.nDigits u
  · exfalso
    have hk : ∀ k u, k + 1 ≤ Lib.nDigits u → 1 ≤ u ∨ k = 0 → 10 ^ k ≤ u ∨ k = 0 := by
      intro k
      induction k with
      | zero => intro u _ _; exact .inr rfl
      | succ k ih =>
        intro u hu _
        left
        by_cases hs : u < 10
        · rw [Lib.nDigits_small hs] at hu; omega
        · rw [Lib.nDigits_big hs] at hu
          rcases ih (u / 10) (by omega) (.inl (by omega)) with h | h
          · have e : 10 ^ (k + 1) = 10 ^ k * 10 := Nat.pow_succ 10 k
            omega
          · subst h; simp; omega
    rcases hk 18 u (by omega) (.inl (by
      by_cases h1 : u = 0
      · subst h1; rw [Lib.nDigits_small (by decide)] at h0; omega
      · omega)) with h | h
    · omega
    · omega
  · omega
theorem decDigits_big {u : Nat} (h : (Lib.decDigits u).length ≤ 18) : u < 1000000000000000000 := by
  rw [Lib.decDigits_length] at h
  have h1 := Lib.lt_pow_nDigits u
  have h2 : 10 ^ Lib.nDigits u ≤ 10 ^ 18 := Nat.pow_le_pow_right (by decide) h
  have h3 : (10 : Nat) ^ 18 = 1000000000000000000 := by decide
  omega
theorem decDigits_all (u : Nat) : ∀ b ∈ Lib.decDigits u, 48 ≤ b.toNat ∧ b.toNat ≤ 57 := by
  intro b hb
  obtain ⟨k, hk, rfl⟩ := List.mem_iff_getElem.1 hb
  obtain ⟨d, hd⟩ := Lib.digit_of_decFrom _ _ _ (decFrom_digits u) k _ (List.getElem?_eq_getElem hk)
  have := Lib.digitVal_eq hd
  omega
/-- The text without a sign ahead. -/
def noSign (l : List UInt8) : List UInt8 := if l.head? = some 45 then l.tail else l
theorem noSign_minus (r : List UInt8) : noSign (45 :: r) = r := by simp [noSign]
theorem noSign_digits (u : Nat) : noSign (Lib.decDigits u) = Lib.decDigits u := by
  unfold noSign
  rw [if_neg]
  intro h
  have hm : (45 : UInt8) ∈ Lib.decDigits u := List.mem_of_mem_head? (by rw [h]; rfl)
  have := (decDigits_all u 45 hm).1
  revert this
  decide
theorem noSign_itoa (n : Int) : noSign (Lib.itoa n) = Lib.decDigits n.natAbs := by
  unfold Lib.itoa
  by_cases h : n < 0
  · rw [if_pos h, noSign_minus]
  · rw [if_neg h, noSign_digits]
    congr 1
    omega
/-- What the digits spell, with the sign. -/
def signed1 (l : List UInt8) (m : Nat) : Int := if l.head? = some 45 then -(m : Int) else m
theorem signed1_itoa (n : Int) : signed1 (Lib.itoa n) n.natAbs = n := by
  unfold signed1 Lib.itoa
  by_cases h : n < 0
  · rw [if_pos h]; simp; omega
  · rw [if_neg h, if_neg]
    · omega
    · intro hh
      have hm : (45 : UInt8) ∈ Lib.decDigits n.toNat := List.mem_of_mem_head? (by rw [hh]; rfl)
      have := (decDigits_all _ 45 hm).1
      revert this
      decide
/-- The number with the decimal form l, of at most 18 digits. -/
def numOf (l : List UInt8) : Option Int :=
  if (noSign l).length ≤ 18 then
    match Lib.decFrom 0 (noSign l) with
    | some m => if Lib.itoa (signed1 l m) = l then some (signed1 l m) else none
    | none => none
  else none
theorem numOf_itoa {n : Int} (h : n.natAbs < 1000000000000000000) : numOf (Lib.itoa n) = some n := by
  unfold numOf
  rw [noSign_itoa, if_pos (decDigits_len h), decFrom_digits]
  simp only [signed1_itoa, if_true]
theorem numOf_some {l : List UInt8} {n : Int} (h : numOf l = some n) : Lib.itoa n = l ∧ n.natAbs < 1000000000000000000 := by
  unfold numOf at h
  split at h
  · rename_i hl
    split at h
    · rename_i m hm
      split at h
      · rename_i hi
        cases h
        refine ⟨hi, ?_⟩
        have e := noSign_itoa (signed1 l m)
        rw [hi] at e
        exact decDigits_big (by rw [← e]; exact hl)
      · cases h
    · cases h
  · cases h
theorem numOf_long {l : List UInt8} (h : 18 < (noSign l).length) : numOf l = none := by unfold numOf; rw [if_neg (by omega)]
theorem numOf_no {l : List UInt8} (h : Lib.decFrom 0 (noSign l) = none) : numOf l = none := by
  unfold numOf
  split
  · rw [h]
  · rfl
theorem numOf_bad {l : List UInt8} {m : Nat} (h : Lib.decFrom 0 (noSign l) = some m) (h2 : Lib.itoa (signed1 l m) ≠ l) : numOf l = none := by
  unfold numOf
  split
  · rw [h]; simp only; rw [if_neg h2]
  · rfl
theorem numOf_good {l : List UInt8} {m : Nat} (h : Lib.decFrom 0 (noSign l) = some m) (h2 : Lib.itoa (signed1 l m) = l) (h3 : (noSign l).length ≤ 18) : numOf l = some (signed1 l m) := by
  unfold numOf
  rw [if_pos h3, h]
  simp only
  rw [if_pos h2]
theorem numOf_empty {l : List UInt8} (h : noSign l = []) : numOf l = none := by
  cases hn : numOf l with
  | none => rfl
  | some n =>
    have := numOf_some hn
    have e := noSign_itoa n
    rw [this.1, h] at e
    exact absurd e.symm (decDigits_ne _)
/-- What the library's parse gives at such a text. -/
theorem parse_of {l : List UInt8} {n : Int} (h : numOf l = some n) : Lib.parseIntB 64 l = .ok n := by
  obtain ⟨h1, h2⟩ := numOf_some h
  subst h1
  rw [Lib.parseIntB_64]
  have hd := decFrom_digits n.natAbs
  have hl := decDigits_len h2
  have hne := decDigits_ne n.natAbs
  have hdn : Lib.decNat (Lib.decDigits n.natAbs) = some n.natAbs := by
    unfold Lib.decNat
    rw [if_neg (by simp [hne])]; exact hd
  have hpm := Lib.parseMag_short _ hl
  rw [hdn] at hpm
  have hpm2 : Lib.parseMag (Lib.decDigits n.natAbs) = .ok n.natAbs := hpm
  unfold Lib.itoa
  by_cases hn : n < 0
  · rw [if_pos hn]
    unfold Lib.atoiAll
    simp only [UInt8.reduceToNat, or_true, if_true, hpm2]
    rw [if_neg (by simp), if_neg (by omega)]
    congr 1
    omega
  · rw [if_neg hn, show n.toNat = n.natAbs by omega]
    cases hc : Lib.decDigits n.natAbs with
    | nil => exact absurd hc hne
    | cons c r =>
      have hb := decDigits_all n.natAbs c (by rw [hc]; exact List.mem_cons_self ..)
      unfold Lib.atoiAll
      rw [hc] at hpm2
      have e1 : ¬ (c.toNat = 43 ∨ c.toNat = 45) := by omega
      have e2 : ¬ c.toNat = 45 := by omega
      have e3 : ¬ 9223372036854775808 ≤ n.natAbs := by omega
      have e4 : c.toNat ≠ 43 := by omega
      simp only [e2, e4, or_self, hpm2, not_false_eq_true, true_and, false_and, if_false, if_neg e3]
      exact congrArg Lib.NumEnd.ok (show ((n.natAbs : Nat) : Int) = n by omega)
/-- What it gives at a text that is no such form: another number, or none. -/
theorem parse_not {l : List UInt8} (h : numOf l = none) (hl : (noSign l).length ≤ 18) {v : Int} (hp : Lib.parseIntB 64 l = .ok v) : Lib.itoa v ≠ l := by
  intro e
  have e2 := noSign_itoa v
  rw [e] at e2
  rw [← e, numOf_itoa (decDigits_big (by rw [← e2]; exact hl))] at h
  cases h
theorem parse_range {l : List UInt8} (hl : (noSign l).length ≤ 18) : Lib.parseIntB 64 l ≠ .range := by
  rw [Lib.parseIntB_64]
  cases l with
  | nil => intro h; cases h
  | cons c r =>
    by_cases hc : c = 45
    · subst hc
      rw [noSign_minus] at hl
      have hpm := Lib.parseMag_short _ hl
      unfold Lib.atoiAll
      simp only [UInt8.reduceToNat, or_true, if_true, hpm]
      cases hd : Lib.decNat r with
      | none => intro h; cases h
      | some m =>
        have := Lib.decNat_small hl hd
        simp only [Lib.NumEnd.ofOption]
        rw [if_neg (by simp), if_neg (by omega)]
        intro h; cases h
    · have e : noSign (c :: r) = c :: r := by unfold noSign; rw [if_neg (by simpa using hc)]
      rw [e] at hl
      rw [Lib.atoiAll_short _ hl]
      cases Lib.atoi (c :: r) with
      | none => intro h; cases h
      | some v => intro h; cases h
end Go.Proofs.YtaajkmjilcamgaaGreatDoor
namespace Go.Proofs.YtaajkmjilcamgaaGreatDoor
open Go.RowKit
/-- The parts of a text between the bytes c. -/
def splitL (c : UInt8) : List UInt8 → List (List UInt8)
  | [] => [[]]
  | b :: l => if b = c then [] :: splitL c l else match splitL c l with | [] => [[b]] | x :: r => (b :: x) :: r
theorem splitL_cons (c : UInt8) : ∀ l, ∃ x r, splitL c l = x :: r
  | [] => ⟨[], [], rfl⟩
  | b :: l => by
    obtain ⟨x, r, h⟩ := splitL_cons c l
    unfold splitL
    split
    · exact ⟨_, _, rfl⟩
    · rw [h]; exact ⟨_, _, rfl⟩
theorem splitL_hit (c : UInt8) (l : List UInt8) : splitL c (c :: l) = [] :: splitL c l := by rw [splitL, if_pos rfl]
theorem splitL_other {b c : UInt8} (h : b ≠ c) {l x : List UInt8} {r : List (List UInt8)} (e : splitL c l = x :: r) : splitL c (b :: l) = (b :: x) :: r := by rw [splitL, if_neg h, e]
theorem splitL_none {c : UInt8} : ∀ {l : List UInt8}, c ∉ l → splitL c l = [l]
  | [], _ => rfl
  | b :: l, h => by
    rw [splitL_other (fun e => h (by rw [e]; exact List.mem_cons_self ..)) (splitL_none (fun e => h (List.mem_cons_of_mem _ e)))]
theorem splitL_app {c : UInt8} : ∀ {x : List UInt8} (l : List UInt8), c ∉ x → splitL c (x ++ c :: l) = x :: splitL c l
  | [], l, _ => splitL_hit c l
  | b :: x, l, h => by
    rw [List.cons_append, splitL_other (fun e => h (by rw [e]; exact List.mem_cons_self ..)) (splitL_app l (fun e => h (List.mem_cons_of_mem _ e)))]
theorem index_skip {b c : UInt8} (h : b ≠ c) (l : List UInt8) : Lib.index (b :: l) [c] = if Lib.index l [c] == -1 then -1 else Lib.index l [c] + 1 := by
  have hp : ([c] : List UInt8).isPrefixOf (b :: l) = false := by simp [List.isPrefixOf, Ne.symm h]
  rw [Lib.index, hp]; simp
theorem index_at (c : UInt8) (l : List UInt8) : Lib.index (c :: l) [c] = 0 := by rw [Lib.index]; simp [List.isPrefixOf]
theorem splitK_all (c : UInt8) : ∀ (l : List UInt8) (k : Nat), l.count c ≤ k → Lib.splitK [c] 0 k l = splitL c l
  | [], 0, _ => rfl
  | [], k + 1, _ => by
    unfold Lib.splitK
    rw [if_pos (by simp [Lib.index])]; rfl
  | b :: l, k, hk => by
    by_cases h : b = c
    · subst h
      rw [List.count_cons_self] at hk
      obtain ⟨k, rfl⟩ : ∃ j, k = j + 1 := ⟨k - 1, by omega⟩
      unfold Lib.splitK
      rw [index_at, if_neg (by decide), splitL_hit]
      show _ :: Lib.splitK [b] 0 k l = _
      rw [splitK_all b l k (by omega)]
      rfl
    · have hk2 : l.count c ≤ k := by rwa [List.count_cons_of_ne (by simpa using h)] at hk
      have ih := splitK_all c l k hk2
      cases k with
      | zero =>
        rw [splitL_other h ih.symm]
        rfl
      | succ k =>
        rw [Lib.splitK, index_skip h]
        rw [Lib.splitK] at ih
        by_cases hm : Lib.index l [c] = -1
        · rw [if_pos (by rw [hm]; rfl)] at ih
          rw [if_pos (by rw [hm]; rfl), splitL_other h ih.symm]
        · have hge := Lib.index_ge l [c]
          obtain ⟨j, hj⟩ : ∃ j : Nat, Lib.index l [c] = j := ⟨(Lib.index l [c]).toNat, by omega⟩
          rw [hj] at ih ⊢
          have e1 : ¬ ((j : Int) == -1) = true := by rw [beq_iff_eq]; omega
          have e2 : ¬ ((j : Int) + 1 == -1) = true := by rw [beq_iff_eq]; omega
          rw [if_neg e1] at ih
          rw [if_neg e1, if_neg e2]
          rw [splitL_other h ih.symm]
          have e3 : ((j : Int) + 1).toNat = j + 1 := by omega
          rw [e3]
          simp
/-- The parts of a text, as texts. -/
def splitW (c : UInt8) (s : ByteArray) : List ByteArray := (splitL c s.data.toList).map fun l => ⟨l.toArray⟩
theorem bytes_of (s : ByteArray) : (⟨s.data.toList.toArray⟩ : ByteArray) = s := Lib.mk_data s
theorem splitB_of {c : UInt8} {k : Nat} {s : ByteArray} (h : s.data.toList.count c ≤ k) : Lib.splitB ⟨#[c]⟩ 0 k s = splitW c s := by
  have e := Lib.splitB_data ⟨#[c]⟩ 0 k s
  have e2 : (Lib.splitB ⟨#[c]⟩ 0 k s).map (·.data.toList) = splitL c s.data.toList := e.trans (splitK_all c _ k h)
  unfold splitW
  rw [← e2, List.map_map]
  have : ((fun l : List UInt8 => (⟨l.toArray⟩ : ByteArray)) ∘ fun x : ByteArray => x.data.toList) = id := funext fun x => bytes_of x
  rw [this, List.map_id]
theorem countB_one (c : UInt8) (s : ByteArray) : Lib.countB s ⟨#[c]⟩ = s.data.toList.count c := Lib.count_one c _
theorem split_all (c : UInt8) (s : ByteArray) : Lib.splitB ⟨#[c]⟩ 0 (Lib.countB s ⟨#[c]⟩) s = splitW c s := splitB_of (Nat.le_of_eq (countB_one c s).symm)
theorem split_len (c : UInt8) (s : ByteArray) : (splitW c s).length = Lib.countB s ⟨#[c]⟩ + 1 := by
  rw [← split_all]; exact Lib.splitB_all ⟨#[c]⟩ (Nat.le_refl 1) 0 _ _ rfl
/-- Parts without the byte, joined with it and cut again. -/
theorem splitL_join {c : UInt8} : ∀ {ws : List (List UInt8)} {w : List UInt8}, (∀ x ∈ w :: ws, c ∉ x) → splitL c (Lib.join (w :: ws) [c]) = w :: ws
  | [], w, h => by rw [Lib.join_one]; exact splitL_none (h w (List.mem_cons_self ..))
  | v :: ws, w, h => by
    have e : Lib.join (w :: v :: ws) [c] = w ++ c :: Lib.join (v :: ws) [c] := by rw [Lib.join_cons, Lib.join_cons, Lib.joinTail, List.map_cons, List.flatten_cons]; simp [Lib.joinTail]
    rw [e, splitL_app _ (h w (List.mem_cons_self ..)), splitL_join fun x hx => h x (List.mem_cons_of_mem _ hx)]
theorem count_join {c : UInt8} : ∀ {ws : List (List UInt8)} {w : List UInt8}, (∀ x ∈ w :: ws, c ∉ x) → (Lib.join (w :: ws) [c]).count c = ws.length
  | [], w, h => by rw [Lib.join_one]; exact List.count_eq_zero.2 (h w (List.mem_cons_self ..))
  | v :: ws, w, h => by
    have e : Lib.join (w :: v :: ws) [c] = w ++ c :: Lib.join (v :: ws) [c] := by rw [Lib.join_cons, Lib.join_cons, Lib.joinTail, List.map_cons, List.flatten_cons]; simp [Lib.joinTail]
    rw [e, List.count_append, List.count_cons_self, count_join fun x hx => h x (List.mem_cons_of_mem _ hx), List.count_eq_zero.2 (h w (List.mem_cons_self ..))]
    simp
theorem index_app {c : UInt8} : ∀ {x : List UInt8} (l : List UInt8), c ∉ x → Lib.index (x ++ c :: l) [c] = (x.length : Int)
  | [], l, _ => index_at c l
  | b :: x, l, h => by
    rw [List.cons_append, index_skip (fun e => h (by rw [e]; exact List.mem_cons_self ..)), index_app l (fun e => h (List.mem_cons_of_mem _ e)), if_neg (by rw [beq_iff_eq]; omega)]
    simp
theorem cut_app {c : UInt8} {x : List UInt8} (l : List UInt8) (h : c ∉ x) : Lib.cut (x ++ c :: l) [c] = (x, l, true) := by
  unfold Lib.cut
  rw [index_app l h, if_pos (by omega), Int.toNat_natCast]
  simp
theorem trim_app (x : List UInt8) (c : UInt8) : Lib.trimSuffix (x ++ [c]) [c] = x := by
  unfold Lib.trimSuffix Lib.hasSuffix
  rw [if_pos (List.isSuffixOf_iff_suffix.2 (List.suffix_append _ _))]
  simp
/-- Digits and the sign alone. -/
theorem itoa_bytes (n : Int) : ∀ b ∈ Lib.itoa n, b = 45 ∨ (48 ≤ b.toNat ∧ b.toNat ≤ 57) := by
  intro b hb
  unfold Lib.itoa at hb
  split at hb
  · rcases List.mem_cons.1 hb with h | h
    · exact .inl h
    · exact .inr (decDigits_all _ b h)
  · exact .inr (decDigits_all _ b hb)
theorem itoa_not {n : Int} {c : UInt8} (h1 : c ≠ 45) (h2 : ¬ (48 ≤ c.toNat ∧ c.toNat ≤ 57)) : c ∉ Lib.itoa n := fun h => by
  rcases itoa_bytes n c h with e | e
  · exact h1 e
  · exact h2 e
theorem itoa_ne (n : Int) : Lib.itoa n ≠ [] := by
  unfold Lib.itoa
  split
  · simp
  · exact decDigits_ne _
end Go.Proofs.YtaajkmjilcamgaaGreatDoor
namespace Go.Proofs
open Go.Shelf
def YtaajkmjilcamgaaGreatDoor.fmtLay_ren : Go.Shelf.Ren := ⟨fun | 173 => 80 | 246 => 108 | 283 => 129 | 284 => 130 | 285 => 131 | 286 => 132 | 129 => 144 | 317 => 143 | 318 => 145 | 319 => 146 | 320 => 147 | 337 => 149 | 338 => 150 | n => n, fun | 2 => 2 | 3 => 3 | 9 => 9 | 4 => 4 | 171 => 150 | 0 => 0 | 53 => 96 | 37 => 22 | 5 => 5 | 173 => 153 | 212 => 166 | 51 => 133 | 20 => 20 | 213 => 167 | 46 => 121 | 232 => 178 | 233 => 179 | n => n, fun | 17 => 3 | 18 => 6 | 19 => 7 | n => n⟩
theorem YtaajkmjilcamgaaGreatDoor.fmtLay : Go.Proofs.LaysM.n173 Tryz.prog YtaajkmjilcamgaaGreatDoor.fmtLay_ren := {
  mixed := by kernel_rfl
  f129 := Tryz.func144.trans (congrArg some (by kernel_rfl))
  f173 := Tryz.func80.trans (congrArg some (by kernel_rfl))
  f246 := Tryz.func108.trans (congrArg some (by kernel_rfl))
  f283 := Tryz.func129.trans (congrArg some (by kernel_rfl))
  f284 := Tryz.func130.trans (congrArg some (by kernel_rfl))
  f285 := Tryz.func131.trans (congrArg some (by kernel_rfl))
  f286 := Tryz.func132.trans (congrArg some (by kernel_rfl))
  f317 := Tryz.func143.trans (congrArg some (by kernel_rfl))
  f318 := Tryz.func145.trans (congrArg some (by kernel_rfl))
  f319 := Tryz.func146.trans (congrArg some (by kernel_rfl))
  f320 := Tryz.func147.trans (congrArg some (by kernel_rfl))
  f337 := Tryz.func149.trans (congrArg some (by kernel_rfl))
  f338 := Tryz.func150.trans (congrArg some (by kernel_rfl))
  t0 := Tryz.underlying0
  a0 := Tryz.isAgg0
  z0 := Tryz.sizeOf0
  v0 := Tryz.zeroValue0
  t2 := Tryz.underlying2
  a2 := Tryz.isAgg2
  z2 := Tryz.sizeOf2
  v2 := Tryz.zeroValue2
  t3 := Tryz.underlying3
  a3 := Tryz.isAgg3
  z3 := Tryz.sizeOf3
  v3 := Tryz.zeroValue3
  t4 := Tryz.underlying4
  a4 := Tryz.isAgg4
  z4 := Tryz.sizeOf4
  v4 := Tryz.zeroValue4
  t5 := Tryz.underlying5
  a5 := Tryz.isAgg5
  z5 := Tryz.sizeOf5
  v5 := Tryz.zeroValue5
  t9 := Tryz.underlying9
  a9 := Tryz.isAgg9
  z9 := Tryz.sizeOf9
  v9 := Tryz.zeroValue9
  t20 := Tryz.underlying20
  a20 := Tryz.isAgg20
  z20 := Tryz.sizeOf20
  v20 := Tryz.zeroValue20
  t37 := Tryz.underlying22
  a37 := Tryz.isAgg22
  z37 := Tryz.sizeOf22
  v37 := Tryz.zeroValue22
  t46 := Tryz.underlying121
  a46 := Tryz.isAgg121
  z46 := Tryz.sizeOf121
  v46 := Tryz.zeroValue121
  t51 := Tryz.underlying133
  a51 := Tryz.isAgg133
  z51 := Tryz.sizeOf133
  v51 := Tryz.zeroValue133
  t53 := Tryz.underlying96
  a53 := Tryz.isAgg96
  z53 := Tryz.sizeOf96
  v53 := Tryz.zeroValue96
  t171 := Tryz.underlying150
  a171 := Tryz.isAgg150
  z171 := Tryz.sizeOf150
  v171 := Tryz.zeroValue150
  t173 := Tryz.underlying153
  a173 := Tryz.isAgg153
  z173 := Tryz.sizeOf153
  v173 := Tryz.zeroValue153
  t212 := Tryz.underlying166
  a212 := Tryz.isAgg166
  z212 := Tryz.sizeOf166
  v212 := Tryz.zeroValue166
  t213 := Tryz.underlying167
  a213 := Tryz.isAgg167
  z213 := Tryz.sizeOf167
  t232 := Tryz.underlying178
  a232 := Tryz.isAgg178
  z232 := Tryz.sizeOf178
  v232 := Tryz.zeroValue178
  t233 := Tryz.underlying179
  a233 := Tryz.isAgg179
  z233 := Tryz.sizeOf179
  v233 := Tryz.zeroValue179
  g17 := by kernel_rfl
  g18 := by kernel_rfl
  g19 := by kernel_rfl
  i0 := by kernel_rfl
  i2 := by kernel_rfl
  i3 := by kernel_rfl
  i4 := by kernel_rfl
  i5 := by kernel_rfl
  i9 := by kernel_rfl
  i20 := by kernel_rfl
  i37 := by kernel_rfl
  i46 := by kernel_rfl
  i51 := by kernel_rfl
  i53 := by kernel_rfl
  i171 := by kernel_rfl
  i173 := by kernel_rfl
  i212 := by kernel_rfl
  i232 := by kernel_rfl
  i233 := by kernel_rfl
  m17 := by kernel_rfl
  m18 := by kernel_rfl
  m19 := by kernel_rfl }
end Go.Proofs
namespace Go.Proofs.YtaajkmjilcamgaaGreatDoor
open Go.RowKit
/-- Bytes as cells. -/
def bcs (l : List UInt8) : List Value := l.map fun x => Value.int .u8 (x.toNat : Int)
theorem bcs_snoc (l : List UInt8) {x : Nat} (h : x ≤ 255) : bcs l ++ [.int .u8 (x : Int)] = bcs (l ++ [UInt8.ofNat x]) := by
  unfold bcs
  rw [List.map_append, List.map_cons, List.map_nil, UInt8.toNat_ofNat', Nat.mod_eq_of_lt (by omega)]
theorem byte_one (z : Int) : ∀ u ∈ [Value.int .u8 z], u.oneCell' = true := by intro u hu; simp at hu; subst hu; rfl
theorem uint8_info : (Tryz.prog.info? 5).map (fun i => (i.zero, i.size, i.bytes)) = some (some (.int .u8 0), 1, 1) := by kernel_rfl
theorem bcs_cons (l : List UInt8) {x : Nat} (h : x ≤ 255) : .int .u8 (x : Int) :: bcs l = bcs (UInt8.ofNat x :: l) := by
  unfold bcs
  rw [List.map_cons, UInt8.toNat_ofNat', Nat.mod_eq_of_lt (by omega)]
theorem bcs_one (l : List UInt8) : ∀ u ∈ bcs l, u.oneCell' = true := by
  intro u hu
  obtain ⟨x, _, rfl⟩ := List.mem_map.1 hu
  rfl
theorem bcs_len (l : List UInt8) : (bcs l).length = l.length := by simp [bcs]
end Go.Proofs.YtaajkmjilcamgaaGreatDoor
namespace Go.Proofs.YtaajkmjilcamgaaGreatDoor
open Go.RowKit
/-- The table of powers of ten lies as its initialiser lays it. -/
def TabW (w : World) : Prop := Lib.TabIs Tryz.prog w "internal/strconv.uint64pow10" .u64 Lib.pow10Tab
theorem TabW.below {w w' : World} (h : TabW w) (b : Below w.heap.size w w') : TabW w' := Lib.tabBelow_of_tabIs h w' b
theorem itoa_size {n : Int} (h0 : -9223372036854775808 ≤ n) (h1 : n ≤ 9223372036854775807) : (⟨(Lib.itoa n).toArray⟩ : ByteArray).size ≤ 21 := by
  have h := Lib.itoa_length_le n h0 h1
  have e : (⟨(Lib.itoa n).toArray⟩ : ByteArray).size = (Lib.itoa n).length := by simp [ByteArray.size]
  omega
/-- The decimal form as a text. -/
def decB (n : Int) : ByteArray := ⟨(Lib.itoa n).toArray⟩
set_option maxRecDepth 100000 in
theorem decimal_any (n : Int) (w : World) (h0 : -9223372036854775808 ≤ n) (h1 : n ≤ 9223372036854775807) (ht : TabW w) :
    Calls Tryz.prog 44 #[.int .i64 n] w fun e w' => e = .returned (.string (decB n)) ∧ Below w.heap.size w w' := by
  have HC : Hid (Calls Tryz.prog 80 #[.int .i64 n, .int .i64 10] w fun e w' => e = .returned (.string (decB n)) ∧ Below w.heap.size w w') := hide ((Go.Proofs.Any.strconv_FormatInt_10 YtaajkmjilcamgaaGreatDoor.fmtLay n h0 h1 w ht).mono fun e w' h => by
    obtain ⟨he, k, os, hw⟩ := h
    exact ⟨he, by rw [hw]; exact Lib.below_grow _ _ (Nat.le_refl _) _ _⟩)
  clear ht
  go_enter Tryz.func44, Tryz.ntmps44
  go_wp2_with (go_at_call 80; (with_reducible refine (HC.out).mono ?_); rintro e w1 ⟨rfl, b1⟩)
  go_ret
  exact ⟨rfl, b1⟩
theorem DecInv.len {n k : Int} {out : List UInt8} (h : DecInv n k out) : out.length ≤ (Lib.decDigits n.natAbs).length := by
  rcases h with ⟨_, _, h⟩ | ⟨_, _, h⟩ | ⟨_, _, h⟩
  · rw [h, List.length_append]; omega
  · rw [h]; exact Nat.zero_le _
  · rw [h]; exact Nat.le_refl _
theorem digits20 {n : Int} (h0 : -9223372036854775808 ≤ n) (h1 : n ≤ 9223372036854775807) : (Lib.decDigits n.natAbs).length ≤ 20 := by
  rw [Lib.decDigits_length]; exact Lib.nDigits_le20 _ (by omega)
set_option maxRecDepth 100000 in
set_option maxHeartbeats 4000000 in
theorem l01Dec_any (n : Int) (w : World) (h0 : -9223372036854775808 ≤ n) (h1 : n ≤ 9223372036854775807) :
    Calls Tryz.prog 91 #[.int .i64 n] w fun e w' => e = .returned (.string (decB n)) ∧ Below w.heap.size w w' := by
  obtain ⟨i0, hi0, hz0, hs0, hb0⟩ := info_parts uint8_info
  have ho1 := hide (own_new0 w w.heap.size 5 1 (Nat.le_refl _))
  have hB1 := hide (show Below w.heap.size w (w.alloc (.cells #[] 5)) from (Below.refl _ _).alloc (Nat.le_refl _) _)
  have H20 := hide (digits20 h0 h1)
  go_enter Tryz.func91, Tryz.ntmps91
  go_wp2_with fail
  go_loopg [4, 3] n.natAbs (fun g kv sv wr => ∃ (k : Int) (l : List UInt8) (gb cb : Nat), Hid (g = k.natAbs) ∧ kv = .int .i64 k ∧ (-9223372036854775808 ≤ k ∧ k ≤ 9223372036854775807) ∧ sv = .slice (some ⟨gb, 0, none⟩) l.length cb ∧ Hid (wr.ownsRow w.heap.size 5 1 (.slice (some ⟨gb, 0, none⟩) l.length cb) l.length (bcs l)) ∧ Hid (DecInv n k l) ∧ Hid (Below w.heap.size w wr))
  case atStart => exact ⟨n, [], w.heap.size, 0, rfl, rfl, ⟨h0, h1⟩, rfl, hide (by simpa [bcs] using ho1.out), hide (DecInv.start n), hB1⟩
  case round =>
    obtain ⟨k, l, gb, cb, hg, rfl, ⟨hk0, hk1⟩, rfl, HO, HD, HW⟩ := hrel
    clear ho1 hB1
    have hzw := HW.out.size
    have hl20 : l.length ≤ 20 := Nat.le_trans HD.out.len H20.out
    by_cases hkz : k = 0
    · have HZ := hide (hkz ▸ HD.out).zero
      have hB0 : (k != 0) = false := by simp [hkz]
      have HKZ := hide hkz
      clear hkz
      by_cases hl0 : l.length = 0
      · have hB2 : ((l.length : Int) == 0) = true := by simp [hl0]
        have HE := hide (show decB n = ⟨#[48]⟩ by
          rcases HZ.out with ⟨_, _, e⟩ | ⟨e, _⟩ | ⟨e, _⟩
          · unfold decB; rw [e]
          · exact absurd (List.eq_nil_of_length_eq_zero hl0) e
          · exact absurd (List.eq_nil_of_length_eq_zero hl0) e)
        have HL0 := hide hl0
        clear hl0
        go_wp2_with fail
        go_ret
        exact ⟨by rw [HE.out]; rfl, HW.out⟩
      have hB2 : ((l.length : Int) == 0) = false := by rw [beq_eq_false_iff_ne]; omega
      have hcv := run_convert_bytes_back (P := Tryz.prog) wr 22 9 5 ⟨gb, 0, none⟩ cb l Tryz.underlying22 Tryz.underlying5 Tryz.underlying9 (fun j hj => HO.out.cells (g := gb) rfl j _ (by unfold bcs; rw [List.getElem?_map, List.getElem?_eq_getElem hj]; rfl))
      have HL0 := hide hl0
      clear hl0
      by_cases hn : n < 0
      · have HE := hide (show decB n = ⟨#[45]⟩ ++ ⟨l.toArray⟩ by
          rcases HZ.out with ⟨e, _⟩ | ⟨_, _, e⟩ | ⟨_, e, _⟩
          · exact absurd (by rw [e]; rfl) HL0.out
          · unfold decB; rw [e]; apply ByteArray.ext; simp [ByteArray.data_append]
          · omega)
        have hsz : (⟨l.toArray⟩ : ByteArray).size = l.length := by simp [ByteArray.size]
        have hcat : ¬ 9223372036854775807 < (⟨#[45]⟩ : ByteArray).size + (⟨l.toArray⟩ : ByteArray).size := by rw [hsz]; have : (⟨#[45]⟩ : ByteArray).size = 1 := rfl; omega
        have hcat2 : ¬ 9223372036854775807 < 1 + l.length := by omega
        clear hsz
        go_wp2_with fail
        go_ret
        exact ⟨by rw [HE.out]; rfl, HW.out⟩
      · have HE := hide (show decB n = ⟨l.toArray⟩ by
          rcases HZ.out with ⟨e, _⟩ | ⟨_, e, _⟩ | ⟨_, _, e⟩
          · exact absurd (by rw [e]; rfl) HL0.out
          · omega
          · unfold decB; rw [e])
        have hnn : decide (n < 0) = false := decide_eq_false hn
        go_wp2_with fail
        go_ret
        exact ⟨by rw [HE.out]; rfl, HW.out⟩
    have hB0 : (k != 0) = true := by simp [hkz]
    have HST := hide (HD.out.step hkz)
    have hdig := dec_digit k
    have hna := Int.natAbs_tmod k 10
    have hnb : (k.tdiv 10).natAbs = k.natAbs / 10 := by rw [Int.natAbs_tdiv]; rfl
    have hna2 : (k.tmod 10).natAbs ≤ 9 := by rw [hna]; show k.natAbs % 10 ≤ 9; omega
    have hw1 : IntKind.i64.wrap (k.tmod 10) = k.tmod 10 := by rw [IntKind.wrap_i64] <;> omega
    have hw2 : IntKind.i64.wrap (k.tdiv 10) = k.tdiv 10 := by rw [IntKind.wrap_i64] <;> omega
    have HLT := hide (show (k.tdiv 10).natAbs < k.natAbs by omega)
    have HQ := hide (show -9223372036854775808 ≤ k.tdiv 10 ∧ k.tdiv 10 ≤ 9223372036854775807 by omega)
    have hm9 : k.natAbs % 10 ≤ 9 := by omega
    obtain ⟨m, hm⟩ : ∃ m, k.natAbs % 10 = m := ⟨_, rfl⟩
    rw [hm] at hdig HST hm9
    have HKZ := hide hkz
    clear hna hnb hm hkz
    have h256 : (48 + (m : Int)) % 256 = 48 + (m : Int) := by omega
    obtain ⟨q, hkq⟩ : ∃ q, k.tdiv 10 = q := ⟨_, rfl⟩
    rw [hkq] at hw2 HLT HQ HST
    clear hw1 hna2
    have hlit := hide (show (wr.alloc (.cells #[.int .u8 (48 + (m : Int))] 5)).ownsRow w.heap.size 5 1 (.slice (some ⟨wr.heap.size, 0, none⟩) 1 1) 1 [.int .u8 (48 + (m : Int))] from World.ownsRow_lit wr #[.int .u8 (48 + (m : Int))] 1 hzw (by decide) rfl)
    have hsrc := hide (show Rd (wr.alloc (.cells #[.int .u8 (48 + (m : Int))] 5)) (wr.heap.size + 1) (some ⟨gb, 0, none⟩) (bcs l) from ((Rd.of_own HO.out).below ((Below.refl _ _).alloc (Nat.le_refl _) _)).more (by omega))
    have hba := hide (HW.out.alloc hzw (.cells #[.int .u8 (48 + (m : Int))] 5))
    by_cases hd : k.tmod 10 < 0
    · rw [if_pos hd] at hdig
      have hkd : k.tmod 10 = -(m : Int) := by omega
      have hm0 : (m : Int) ≠ 0 := by omega
      have hdd : decide (-(m : Int) < 0) = true := decide_eq_true (by omega)
      have hdd2 : 0 < m := by omega
      have hwn : IntKind.i64.wrap (- -(m : Int)) = (m : Int) := by rw [IntKind.wrap_i64] <;> omega
      have hw8 : IntKind.u8.wrap (48 + (m : Int)) = 48 + (m : Int) := by simp [IntKind.wrap, IntKind.bits, IntKind.signed]; omega
      clear hdig hd
      go_wp2_with (at_builtin; refine Hid.out ?_)
      refine hide ?_
      have hlo := hlit.out
      refine wp_app _ rfl _ _ 22 rfl w.heap.size 5 i0 (.int .u8 0) 1 1 Tryz.underlying22 hi0 hz0 hs0 hb0 rfl (by decide) (.slice (some ⟨wr.heap.size, 0, none⟩) 1 1) 1 _ rfl hlo _ _ l.length cb (bcs l) rfl (by rw [bcs_len]; omega) hsrc.out (bcs_one l) ?c2 (by decide) ?c3 ?_
      case c2 => omega
      case c3 => exact hba.out.size
      intro v4 w4 hown4 hgrow4 hat4
      have HB4 := hide (app_below hba.out hlo hgrow4 (Nat.le_refl _) hba.out.size)
      have h4 : w4.ownsRow w.heap.size 5 1 v4 (l.length + 1) (bcs (UInt8.ofNat (48 + m) :: l)) := by
        rw [← bcs_cons l (show 48 + m ≤ 255 by omega), Nat.add_comm l.length 1]
        exact hown4
      obtain ⟨A9, c9, rfl, _⟩ := own_shape h4
      obtain ⟨g9, rfl, _, _⟩ : ∃ g, A9 = some ⟨g, 0, none⟩ ∧ w.heap.size ≤ g ∧ g < w4.heap.size := by
        rcases own_block h4 with ⟨_, h0, _⟩ | h0
        · omega
        · exact h0
      have HO4 := hide h4
      clear hown4 hgrow4 hat4 h4 hlo hw8 hwn
      go_wp2_with fail
      go_roundg q.natAbs
      case measure => have := hg.out; have := HLT.out; omega
      case rel => exact ⟨q, UInt8.ofNat (48 + m) :: l, g9, c9, rfl, rfl, HQ.out, by rw [List.length_cons, Nat.add_comm], HO4, HST, HB4⟩
    · rw [if_neg hd] at hdig
      have hkd : k.tmod 10 = (m : Int) := hdig
      have hdd : decide ((m : Int) < 0) = false := decide_eq_false (by omega)
      clear hdig hd
      have hw8 : IntKind.u8.wrap (48 + (m : Int)) = 48 + (m : Int) := by simp [IntKind.wrap, IntKind.bits, IntKind.signed]; omega
      go_wp2_with (at_builtin; refine Hid.out ?_)
      refine hide ?_
      have hlo := hlit.out
      refine wp_app _ rfl _ _ 22 rfl w.heap.size 5 i0 (.int .u8 0) 1 1 Tryz.underlying22 hi0 hz0 hs0 hb0 rfl (by decide) (.slice (some ⟨wr.heap.size, 0, none⟩) 1 1) 1 _ rfl hlo _ _ l.length cb (bcs l) rfl (by rw [bcs_len]; omega) hsrc.out (bcs_one l) ?c2 (by decide) ?c3 ?_
      case c2 => omega
      case c3 => exact hba.out.size
      intro v4 w4 hown4 hgrow4 hat4
      have HB4 := hide (app_below hba.out hlo hgrow4 (Nat.le_refl _) hba.out.size)
      have h4 : w4.ownsRow w.heap.size 5 1 v4 (l.length + 1) (bcs (UInt8.ofNat (48 + m) :: l)) := by
        rw [← bcs_cons l (show 48 + m ≤ 255 by omega), Nat.add_comm l.length 1]
        exact hown4
      obtain ⟨A9, c9, rfl, _⟩ := own_shape h4
      obtain ⟨g9, rfl, _, _⟩ : ∃ g, A9 = some ⟨g, 0, none⟩ ∧ w.heap.size ≤ g ∧ g < w4.heap.size := by
        rcases own_block h4 with ⟨_, h0, _⟩ | h0
        · omega
        · exact h0
      have HO4 := hide h4
      clear hown4 hgrow4 hat4 h4 hlo hw8
      go_wp2_with fail
      go_roundg q.natAbs
      case measure => have := hg.out; have := HLT.out; omega
      case rel => exact ⟨q, UInt8.ofNat (48 + m) :: l, g9, c9, rfl, rfl, HQ.out, by rw [List.length_cons, Nat.add_comm], HO4, HST, HB4⟩
end Go.Proofs.YtaajkmjilcamgaaGreatDoor
namespace Go.Proofs.YtaajkmjilcamgaaGreatDoor
open Go.RowKit
def tubeL (t : T3) : List UInt8 := Lib.itoa t.a ++ 62 :: (Lib.itoa t.b ++ 42 :: Lib.itoa t.c)
def headL (n : Int) : List UInt8 := Lib.itoa n ++ [58]
def netL (n : Int) (tb : List T3) : List UInt8 := Lib.join (headL n :: tb.map tubeL) [32]
def tubeB (t : T3) : ByteArray := ⟨(tubeL t).toArray⟩
def headB (n : Int) : ByteArray := ⟨(headL n).toArray⟩
def netB (n : Int) (tb : List T3) : ByteArray := ⟨(netL n tb).toArray⟩
theorem app_mk (x y : List UInt8) : (⟨x.toArray⟩ : ByteArray) ++ ⟨y.toArray⟩ = ⟨(x ++ y).toArray⟩ := by
  apply ByteArray.ext; simp [ByteArray.data_append]
theorem headB_eq (n : Int) : decB n ++ ⟨#[58]⟩ = headB n := app_mk _ [58]
theorem tubeB_eq (t : T3) : decB t.a ++ ⟨#[62]⟩ ++ decB t.b ++ ⟨#[42]⟩ ++ decB t.c = tubeB t := by
  have e1 : decB t.a ++ ⟨#[62]⟩ = ⟨(Lib.itoa t.a ++ [62]).toArray⟩ := app_mk _ [62]
  have e2 : (⟨(Lib.itoa t.a ++ [62]).toArray⟩ : ByteArray) ++ decB t.b = ⟨((Lib.itoa t.a ++ [62]) ++ Lib.itoa t.b).toArray⟩ := app_mk _ _
  have e3 : (⟨((Lib.itoa t.a ++ [62]) ++ Lib.itoa t.b).toArray⟩ : ByteArray) ++ ⟨#[42]⟩ = ⟨((Lib.itoa t.a ++ [62]) ++ Lib.itoa t.b ++ [42]).toArray⟩ := app_mk _ [42]
  have e4 : (⟨((Lib.itoa t.a ++ [62]) ++ Lib.itoa t.b ++ [42]).toArray⟩ : ByteArray) ++ decB t.c = ⟨((Lib.itoa t.a ++ [62]) ++ Lib.itoa t.b ++ [42] ++ Lib.itoa t.c).toArray⟩ := app_mk _ _
  rw [e1, e2, e3, e4]
  simp [tubeB, tubeL]
theorem tube_cut1 (t : T3) : Lib.cut (tubeL t) [62] = (Lib.itoa t.a, Lib.itoa t.b ++ 42 :: Lib.itoa t.c, true) := cut_app _ (itoa_not (by decide) (by decide))
theorem tube_cut2 (t : T3) : Lib.cut (Lib.itoa t.b ++ 42 :: Lib.itoa t.c) [42] = (Lib.itoa t.b, Lib.itoa t.c, true) := cut_app _ (itoa_not (by decide) (by decide))
theorem head_trim (n : Int) : Lib.trimSuffix (headL n) [58] = Lib.itoa n := trim_app _ _
theorem tubeL_no (t : T3) : (32 : UInt8) ∉ tubeL t := by
  unfold tubeL
  simp only [List.mem_append, List.mem_cons, not_or]
  exact ⟨itoa_not (by decide) (by decide), by decide, itoa_not (by decide) (by decide), by decide, itoa_not (by decide) (by decide)⟩
theorem headL_no (n : Int) : (32 : UInt8) ∉ headL n := by
  unfold headL
  simp only [List.mem_append, List.mem_cons, List.not_mem_nil, or_false, not_or]
  exact ⟨itoa_not (by decide) (by decide), by decide⟩
theorem netWs_no (n : Int) (tb : List T3) : ∀ x ∈ headL n :: tb.map tubeL, (32 : UInt8) ∉ x := by
  intro x hx
  rcases List.mem_cons.1 hx with rfl | hx
  · exact headL_no n
  · obtain ⟨t, _, rfl⟩ := List.mem_map.1 hx; exact tubeL_no t
theorem itoa_len {n : Int} (h : n.natAbs < 1000000000000000000) : (Lib.itoa n).length ≤ 19 := by
  have := decDigits_len h
  unfold Lib.itoa
  split
  · simp; omega
  · rw [show n.toNat = n.natAbs by omega]; omega
theorem tubeL_len {n : Int} {t : T3} (h : (0 ≤ t.a ∧ t.a ≤ 1000) ∧ (0 ≤ t.b ∧ t.b ≤ 1000) ∧ (0 ≤ t.c ∧ t.c ≤ 10000)) : (tubeL t).length ≤ 59 := by
  have h1 := itoa_len (n := t.a) (by omega)
  have h2 := itoa_len (n := t.b) (by omega)
  have h3 := itoa_len (n := t.c) (by omega)
  unfold tubeL
  simp only [List.length_append, List.length_cons]
  omega
theorem join_len : ∀ (ws : List (List UInt8)) (c : UInt8) (m : Nat), (∀ x ∈ ws, x.length ≤ m) → (Lib.join ws [c]).length ≤ ws.length * (m + 1)
  | [], _, _, _ => Nat.zero_le _
  | w :: ws, c, m, h => by
    rw [Lib.join_length]
    have h2 : ∀ ys : List (List UInt8), (∀ x ∈ ys, x.length ≤ m) → Lib.lens ys ≤ ys.length * m := by
      intro ys
      induction ys with
      | nil => intro _; exact Nat.zero_le _
      | cons y ys ih =>
        intro hy
        have e : Lib.lens (y :: ys) = y.length + Lib.lens ys := by simp [Lib.lens]
        rw [e, List.length_cons, Nat.succ_mul]
        have := hy y (List.mem_cons_self ..)
        have := ih fun x hx => hy x (List.mem_cons_of_mem _ hx)
        omega
    have := h2 (w :: ws) h
    simp only [List.length_cons, List.length_nil] at this ⊢
    rw [Nat.succ_mul] at this
    have e : (ws.length + 1) * (m + 1) = ws.length * m + ws.length + m + 1 := by rw [Nat.add_mul, Nat.mul_add]; omega
    rw [e]
    omega
/-- The words of the text of a network, as the library cuts it into at most 26. -/
theorem net_words {n : Int} {tb : List T3} (h : tb.length ≤ 24) : Lib.splitB ⟨#[32]⟩ 0 (min 26 ((netB n tb).size + 1) - 1) (netB n tb) = headB n :: tb.map tubeB := by
  have hc : (netL n tb).count 32 = tb.length := by
    have := count_join (c := 32) (netWs_no n tb)
    rwa [List.length_map] at this
  have hs : (netB n tb).size = (netL n tb).length := by simp [netB, ByteArray.size]
  have hle : (netL n tb).count 32 ≤ (netL n tb).length := List.count_le_length
  rw [splitB_of (by
    show (netL n tb).count 32 ≤ _
    rw [hs]; omega)]
  unfold splitW
  rw [show (netB n tb).data.toList = Lib.join (headL n :: tb.map tubeL) [32] from rfl, splitL_join (netWs_no n tb), List.map_cons, List.map_map]
  rfl
end Go.Proofs.YtaajkmjilcamgaaGreatDoor
