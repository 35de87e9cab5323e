/-
  Greatest sets of which no two are near; all words; codes. Plain lemmas.
  The arguments of a law, opened into the words of the walks: slices of numbers and of records. Printed by gen_open.py. No program is named.
-/
import Derived.Test.YtaajkmjilcamgaaGreatDoorQRides6
import Derived.Test.YtaajkmjilcamgaaGreatDoorQRides0
import Derived.ProofKit
import Derived.OpenShut
import Derived.Deep.Slices
import Derived.Deep.Fields
import Derived.ChangeOld
namespace Go.Proofs.YtaajkmjilcamgaaGreatDoor
open Go.RowKit
/-- m is the greatest number of elements of S of which no two are near. -/
def Alpha {α : Type} (near : α → α → Prop) (S : α → Prop) (m : Nat) : Prop :=
  (∃ T : List α, (∀ x ∈ T, S x) ∧ T.Pairwise (fun a b => ¬ near a b) ∧ T.length = m) ∧ ∀ T : List α, (∀ x ∈ T, S x) → T.Pairwise (fun a b => ¬ near a b) → T.length ≤ m
theorem Alpha.uniq {α : Type} {near : α → α → Prop} {S : α → Prop} {m n : Nat} (h : Alpha near S m) (k : Alpha near S n) : m = n := by
  obtain ⟨⟨T, h1, h2, h3⟩, h4⟩ := h
  obtain ⟨⟨U, k1, k2, k3⟩, k4⟩ := k
  have := k4 T h1 h2
  have := h4 U k1 k2
  omega
theorem Alpha.congr {α : Type} {near : α → α → Prop} {S S' : α → Prop} {m : Nat} (h : Alpha near S m) (e : ∀ x, S' x ↔ S x) : Alpha near S' m := by
  have : S' = S := funext fun x => propext (e x)
  rw [this]; exact h
theorem Alpha.empty {α : Type} {near : α → α → Prop} {S : α → Prop} (e : ∀ x, ¬ S x) : Alpha near S 0 := by
  refine ⟨⟨[], ⟨fun x hx => (by cases hx), List.Pairwise.nil, rfl⟩⟩, fun T h1 _ => ?_⟩
  cases T with
  | nil => exact Nat.le_refl _
  | cons x T => exact (e x (h1 x (List.mem_cons_self ..))).elim
theorem far_split {α : Type} {near : α → α → Prop} (hsym : ∀ a b, near a b → near b a) {x : α} {T : List α} (hx : x ∈ T) (hp : T.Pairwise (fun a b => ¬ near a b)) :
    ∃ T' : List α, T'.Pairwise (fun a b => ¬ near a b) ∧ T'.length + 1 = T.length ∧ ∀ z ∈ T', z ∈ T ∧ ¬ near x z := by
  obtain ⟨l1, l2, rfl⟩ := List.append_of_mem hx
  rw [List.pairwise_append] at hp
  obtain ⟨h1, h2, h3⟩ := hp
  rw [List.pairwise_cons] at h2
  refine ⟨l1 ++ l2, ?_, by simp <;> omega, fun z hz => ?_⟩
  · rw [List.pairwise_append]
    exact ⟨h1, h2.2, fun a ha b hb => h3 a ha b (List.mem_cons_of_mem _ hb)⟩
  · rcases List.mem_append.1 hz with h | h
    · exact ⟨List.mem_append_left _ h, fun e => h3 z h x (List.mem_cons_self ..) (hsym _ _ e)⟩
    · exact ⟨List.mem_append_right _ (List.mem_cons_of_mem _ h), h2.1 z h⟩
theorem alpha_grow {α : Type} {near : α → α → Prop} {S : α → Prop} {x : α} {T : List α} (hx : S x) (h1 : ∀ y ∈ T, S y ∧ ¬ near x y) (h2 : T.Pairwise (fun a b => ¬ near a b)) :
    (∀ y ∈ x :: T, S y) ∧ (x :: T).Pairwise (fun a b => ¬ near a b) ∧ (x :: T).length = T.length + 1 := by
  refine ⟨fun y hy => ?_, List.pairwise_cons.2 ⟨fun y hy => (h1 y hy).2, h2⟩, rfl⟩
  rcases List.mem_cons.1 hy with rfl | hy
  · exact hx
  · exact (h1 y hy).1
theorem Alpha.branch {α : Type} {near : α → α → Prop} (hsym : ∀ a b, near a b → near b a) {S : α → Prop} {x : α} {a b : Nat} (hx : S x)
    (h1 : Alpha near (fun y => S y ∧ y ≠ x) a) (h2 : Alpha near (fun y => S y ∧ ¬ near x y) b) : Alpha near S (max a (b + 1)) := by
  obtain ⟨⟨T, t1, t2, t3⟩, t4⟩ := h1
  obtain ⟨⟨U, u1, u2, u3⟩, u4⟩ := h2
  constructor
  · obtain ⟨g1, g2, g3⟩ := alpha_grow hx u1 u2
    by_cases h : a ≤ b + 1
    · exact ⟨x :: U, g1, g2, by rw [g3]; omega⟩
    · exact ⟨T, fun y hy => (t1 y hy).1, t2, by omega⟩
  · intro V v1 v2
    by_cases hV : x ∈ V
    · obtain ⟨V', p1, p2, p3⟩ := far_split hsym hV v2
      have := u4 V' (fun z hz => ⟨v1 z (p3 z hz).1, (p3 z hz).2⟩) p1
      omega
    · have := t4 V (fun z hz => ⟨v1 z hz, fun e => hV (e ▸ hz)⟩) v2
      omega
theorem Alpha.take {α : Type} {near : α → α → Prop} (hsym : ∀ a b, near a b → near b a) (hrfl : ∀ a, near a a) {S : α → Prop} {x : α} {b : Nat} (hx : S x)
    (hone : ∀ y z, S y → S z → y ≠ x → z ≠ x → near x y → near x z → y = z)
    (h2 : Alpha near (fun y => S y ∧ ¬ near x y) b) : Alpha near S (b + 1) := by
  obtain ⟨⟨U, u1, u2, u3⟩, u4⟩ := h2
  constructor
  · obtain ⟨g1, g2, g3⟩ := alpha_grow hx u1 u2
    exact ⟨x :: U, g1, g2, by rw [g3]; omega⟩
  · intro V v1 v2
    by_cases hV : ∃ y ∈ V, near x y
    · obtain ⟨y, hy, hn⟩ := hV
      obtain ⟨V', p1, p2, p3⟩ := far_split hsym hy v2
      have := u4 V' (fun z hz => ⟨v1 z (p3 z hz).1, fun e => by
        have hyz : ¬ near y z := (p3 z hz).2
        by_cases hyx : y = x
        · subst hyx; exact hyz e
        by_cases hzx : z = x
        · subst hzx; exact hyz (hsym _ _ hn)
        have := hone y z (v1 y hy) (v1 z (p3 z hz).1) hyx hzx hn e
        subst this
        exact hyz (hrfl _)⟩) p1
      omega
    · have := u4 V (fun z hz => ⟨v1 z hz, fun e => hV ⟨z, hz, e⟩⟩) v2
      omega
theorem Alpha.sym {α : Type} {near : α → α → Prop} (hsym : ∀ a b, near a b → near b a) {S : α → Prop} {x : α} {b : Nat} (hx : S x)
    (hall : ∀ t, S t → ∃ f : α → α, f t = x ∧ (∀ y, S y → S (f y)) ∧ ∀ y z, S y → S z → near (f y) (f z) → near y z)
    (h2 : Alpha near (fun y => S y ∧ ¬ near x y) b) : Alpha near S (b + 1) := by
  obtain ⟨⟨U, u1, u2, u3⟩, u4⟩ := h2
  constructor
  · obtain ⟨g1, g2, g3⟩ := alpha_grow hx u1 u2
    exact ⟨x :: U, g1, g2, by rw [g3]; omega⟩
  · intro V v1 v2
    cases V with
    | nil => simp
    | cons t V =>
      obtain ⟨f, f1, f2, f3⟩ := hall t (v1 t (List.mem_cons_self ..))
      rw [List.pairwise_cons] at v2
      have hp : (V.map f).Pairwise (fun a b => ¬ near a b) := by
        rw [List.pairwise_map]
        exact List.Pairwise.imp_of_mem (fun ha hb h e => h (f3 _ _ (v1 _ (List.mem_cons_of_mem _ ha)) (v1 _ (List.mem_cons_of_mem _ hb)) e)) v2.2
      have := u4 (V.map f) (fun y hy => by
        obtain ⟨z, hz, rfl⟩ := List.mem_map.1 hy
        refine ⟨f2 z (v1 z (List.mem_cons_of_mem _ hz)), fun e => v2.1 z hz ?_⟩
        rw [← f1] at e
        exact f3 _ _ (v1 t (List.mem_cons_self ..)) (v1 z (List.mem_cons_of_mem _ hz)) e) hp
      rw [List.length_map] at this
      rw [List.length_cons]
      omega
/-- The greatest number, as the reference looks for it. -/
def alphaL (d : Int) : Nat → List ByteArray → Nat
  | 0, _ => 0
  | _ + 1, [] => 0
  | n + 1, x :: l => max (alphaL d n l) (alphaL d n (l.filter fun y => decide (d ≤ farB x y)) + 1)
theorem alphaL_le (d : Int) : ∀ n l, l.length ≤ n → alphaL d n l ≤ l.length := by
  intro n
  induction n with
  | zero => intro l _; simp [alphaL]
  | succ n ih =>
    intro l hl
    cases l with
    | nil => simp [alphaL]
    | cons x l =>
      rw [alphaL, List.length_cons]
      rw [List.length_cons] at hl
      have h1 := ih l (by omega)
      have hf := List.length_filter_le (fun y => decide (d ≤ farB x y)) l
      have h2 := ih (l.filter fun y => decide (d ≤ farB x y)) (by omega)
      omega
theorem alphaL_fuel (d : Int) : ∀ n m l, l.length ≤ n → l.length ≤ m → alphaL d n l = alphaL d m l := by
  intro n
  induction n with
  | zero =>
    intro m l h1 _
    have : l = [] := List.eq_nil_of_length_eq_zero (by omega)
    subst this
    cases m <;> rfl
  | succ n ih =>
    intro m l h1 h2
    cases l with
    | nil => cases m <;> rfl
    | cons x l =>
      rw [List.length_cons] at h1 h2
      cases m with
      | zero => omega
      | succ m =>
        have hf := List.length_filter_le (fun y => decide (d ≤ farB x y)) l
        rw [alphaL, alphaL, ih m l (by omega) (by omega), ih m _ (by omega) (by omega)]
/-- Near: the distance is less. -/
def nearD (d : Int) (a b : ByteArray) : Prop := farB a b < d
theorem farN_self (a : ByteArray) : ∀ m i, farN a a i m = 0 := by
  intro m
  induction m with
  | zero => intro i; rfl
  | succ m ih => intro i; rw [farN, if_pos rfl, ih]; rfl
theorem farB_self (a : ByteArray) : farB a a = 0 := farN_self a _ _
/-- alphaL is that number, for a list without doubles whose words have one length. -/
theorem alphaL_ok (d : Int) (hd : 1 ≤ d) (r : Nat) : ∀ n l, l.length ≤ n → l.Nodup → (∀ w ∈ l, w.size = r) → Alpha (fun a b => a.size = r ∧ b.size = r → nearD d a b) (fun y => y ∈ l) (alphaL d n l) := by
  intro n
  induction n with
  | zero =>
    intro l hl _ _
    have : l = [] := List.eq_nil_of_length_eq_zero (by omega)
    subst this
    exact Alpha.empty fun x hx => by cases hx
  | succ n ih =>
    intro l hl hn hs
    cases l with
    | nil => exact Alpha.empty fun x hx => by cases hx
    | cons x l =>
      rw [List.length_cons] at hl
      rw [List.nodup_cons] at hn
      have hx := hs x (List.mem_cons_self ..)
      have hs2 : ∀ w ∈ l, w.size = r := fun w hw => hs w (List.mem_cons_of_mem _ hw)
      have hf := List.length_filter_le (fun y => decide (d ≤ farB x y)) l
      rw [alphaL]
      refine Alpha.branch (x := x) (fun a b h k => ?_) (List.mem_cons_self ..) ?_ ?_
      · have := h k.symm
        unfold nearD at *
        rw [farB_sym (by rw [k.1, k.2])]
        exact this
      · refine (ih l (by omega) hn.2 hs2).congr fun y => ?_
        constructor
        · rintro ⟨h1, h2⟩
          rcases List.mem_cons.1 h1 with h | h
          · exact (h2 h).elim
          · exact h
        · exact fun h => ⟨List.mem_cons_of_mem _ h, fun e => hn.1 (e ▸ h)⟩
      · refine (ih (l.filter fun y => decide (d ≤ farB x y)) (by omega) (hn.2.sublist (List.filter_sublist ..)) fun w hw => hs2 w (List.mem_filter.1 hw).1).congr fun y => ?_
        rw [List.mem_filter, decide_eq_true_eq]
        constructor
        · rintro ⟨h1, h2⟩
          rcases List.mem_cons.1 h1 with h | h
          · subst h
            exact (h2 fun _ => by unfold nearD; rw [farB_self]; omega).elim
          · refine ⟨h, ?_⟩
            have : ¬ nearD d x y := fun e => h2 fun _ => e
            unfold nearD at this
            omega
        · rintro ⟨h1, h2⟩
          refine ⟨List.mem_cons_of_mem _ h1, fun e => ?_⟩
          have := e ⟨hx, hs2 y h1⟩
          unfold nearD at this
          omega
/-- A word of one letter. -/
def chB (c : Nat) : ByteArray := ⟨#[UInt8.ofNat (97 + c)]⟩
def extW (s : Nat) (ws : List ByteArray) : List ByteArray := ws.flatMap fun w => (List.range s).map fun c => w ++ chB c
/-- All words with r letters out of s, in order. -/
def allW (s : Nat) : Nat → List ByteArray
  | 0 => [ByteArray.empty]
  | r + 1 => extW s (allW s r)
theorem extW_len (s : Nat) : ∀ ws, (extW s ws).length = ws.length * s := by
  intro ws
  induction ws with
  | nil => simp [extW]
  | cons w ws ih =>
    have : extW s (w :: ws) = ((List.range s).map fun c => w ++ chB c) ++ extW s ws := rfl
    rw [this, List.length_append, ih, List.length_map, List.length_range, List.length_cons, Nat.add_mul]
    omega
theorem allW_len (s : Nat) : ∀ r, (allW s r).length = s ^ r := by
  intro r
  induction r with
  | zero => rfl
  | succ r ih => rw [allW, extW_len, ih, Nat.pow_succ]
theorem extW_mem {s : Nat} {ws : List ByteArray} {w : ByteArray} : w ∈ extW s ws ↔ ∃ v ∈ ws, ∃ c, c < s ∧ w = v ++ chB c := by
  unfold extW
  rw [List.mem_flatMap]
  constructor
  · rintro ⟨v, hv, h⟩
    obtain ⟨c, hc, rfl⟩ := List.mem_map.1 h
    exact ⟨v, hv, c, List.mem_range.1 hc, rfl⟩
  · rintro ⟨v, hv, c, hc, rfl⟩
    exact ⟨v, hv, List.mem_map.2 ⟨c, List.mem_range.2 hc, rfl⟩⟩
theorem chB_size (c : Nat) : (chB c).size = 1 := rfl
theorem chr_at {s : ByteArray} {i : Nat} (h : i < s.size) : chr s i = (((s[i]'h).toNat : Nat) : Int) := by
  unfold chr
  congr 2
  cases s with
  | mk d =>
    show d[i]! = d[i]
    exact getElem!_pos d i h
theorem chr_left {v u : ByteArray} {i : Nat} (h : i < v.size) : chr (v ++ u) i = chr v i := by
  have h2 : i < (v ++ u).size := by rw [ByteArray.size_append]; omega
  rw [chr_at h2, chr_at h, ByteArray.getElem_append_left h]
theorem chr_right {v u : ByteArray} {i : Nat} (h1 : v.size ≤ i) (h : i < (v ++ u).size) : chr (v ++ u) i = chr u (i - v.size) := by
  have h2 : i - v.size < u.size := by rw [ByteArray.size_append] at h; omega
  rw [chr_at h, chr_at h2, ByteArray.getElem_append_right h1]
theorem chr_chB {c : Nat} (h : c < 100) : chr (chB c) 0 = 97 + (c : Int) := by
  show (((UInt8.ofNat (97 + c)).toNat : Nat) : Int) = _
  rw [UInt8.toNat_ofNat']
  have : (97 + c) % 256 = 97 + c := Nat.mod_eq_of_lt (by omega)
  omega
theorem bytes_ext {a b : ByteArray} (h : a.size = b.size) (k : ∀ i, i < a.size → chr a i = chr b i) : a = b := by
  refine ByteArray.ext_getElem h fun i hi hi' => ?_
  have := k i hi
  rw [chr_at hi, chr_at hi'] at this
  exact UInt8.toNat_inj.1 (by omega)
theorem allW_size {s : Nat} : ∀ {r : Nat} {w : ByteArray}, w ∈ allW s r → w.size = r := by
  intro r
  induction r with
  | zero => intro w h; rw [allW, List.mem_singleton] at h; subst h; rfl
  | succ r ih =>
    intro w h
    rw [allW, extW_mem] at h
    obtain ⟨v, hv, c, _, rfl⟩ := h
    rw [ByteArray.size_append, ih hv, chB_size]
theorem allW_let {s : Nat} (hs : s ≤ 90) : ∀ {r : Nat} {w : ByteArray}, w ∈ allW s r → ∀ i, i < r → ∃ c, c < s ∧ chr w i = 97 + (c : Int) := by
  intro r
  induction r with
  | zero => intro w _ i hi; omega
  | succ r ih =>
    intro w h i hi
    rw [allW, extW_mem] at h
    obtain ⟨v, hv, c, hc, rfl⟩ := h
    have hz := allW_size hv
    by_cases hir : i < r
    · rw [chr_left (by omega)]
      exact ih hv i hir
    · obtain rfl : i = r := by omega
      rw [chr_right (by omega) (by rw [ByteArray.size_append, chB_size]; omega), hz, Nat.sub_self]
      exact ⟨c, hc, chr_chB (by omega)⟩
theorem chB_chr {u : ByteArray} {c : Nat} (hu : u.size = 1) (hc : c < 90) (h : chr u 0 = 97 + (c : Int)) : u = chB c := by
  refine bytes_ext hu fun i hi => ?_
  obtain rfl : i = 0 := by omega
  rw [h, chr_chB (by omega)]
theorem allW_all {s : Nat} (hs : s ≤ 90) : ∀ {r : Nat} {w : ByteArray}, w.size = r → (∀ i, i < r → ∃ c, c < s ∧ chr w i = 97 + (c : Int)) → w ∈ allW s r := by
  intro r
  induction r with
  | zero =>
    intro w h _
    rw [allW, List.mem_singleton]
    exact bytes_ext h fun i hi => by omega
  | succ r ih =>
    intro w h k
    rw [allW, extW_mem]
    obtain ⟨c, hc, hcc⟩ := k r (by omega)
    have hz : (w.extract 0 r).size = r := by rw [ByteArray.size_extract]; omega
    have hx : ∀ i, i < r → chr (w.extract 0 r) i = chr w i := fun i hi => by
      rw [chr_at (by omega), chr_at (by omega), ByteArray.getElem_extract]
      simp
    refine ⟨w.extract 0 r, ih hz fun i hi => ?_, c, hc, ?_⟩
    · rw [hx i hi]; exact k i (by omega)
    · refine bytes_ext (by rw [ByteArray.size_append, hz, chB_size]; exact h) fun i hi => ?_
      by_cases hir : i < r
      · rw [chr_left (by omega), hx i hir]
      · obtain rfl : i = r := by omega
        rw [chr_right (by omega) (by rw [ByteArray.size_append, hz, chB_size]; omega), hz, Nat.sub_self, chr_chB (by omega), hcc]
theorem append_inj_r {v v' u u' : ByteArray} (h : v.size = v'.size) (e : v ++ u = v' ++ u') : v = v' ∧ u = u' := by
  have hz : u.size = u'.size := by
    have := congrArg ByteArray.size e
    rw [ByteArray.size_append, ByteArray.size_append] at this
    omega
  constructor
  · refine bytes_ext h fun i hi => ?_
    rw [← chr_left (u := u) hi, e, chr_left (by omega)]
  · refine bytes_ext hz fun i hi => ?_
    have h1 := chr_right (v := v) (u := u) (i := v.size + i) (by omega) (by rw [ByteArray.size_append]; omega)
    have h2 := chr_right (v := v') (u := u') (i := v.size + i) (by omega) (by rw [ByteArray.size_append]; omega)
    rw [e, h2, show v.size + i - v.size = i by omega, show v.size + i - v'.size = i by omega] at h1
    exact h1.symm
theorem allW_nodup {s : Nat} (hs : s ≤ 90) : ∀ r, (allW s r).Nodup := by
  intro r
  induction r with
  | zero => simp [allW]
  | succ r ih =>
    unfold List.Nodup
    rw [allW, extW, List.pairwise_flatMap]
    constructor
    · intro v hv
      rw [List.pairwise_map]
      refine List.Pairwise.imp_of_mem (fun {a b} ha hb hne e => hne ?_) (List.nodup_range (n := s))
      obtain ⟨_, h2⟩ := append_inj_r rfl e
      have h3 : chr (chB a) 0 = chr (chB b) 0 := congrArg (fun u => chr u 0) h2
      have ha := List.mem_range.1 ha
      have hb := List.mem_range.1 hb
      rw [chr_chB (by omega), chr_chB (by omega)] at h3
      omega
    · refine List.Pairwise.imp_of_mem (fun {a b} ha hb hne x hx y hy e => hne ?_) ih
      obtain ⟨c, _, rfl⟩ := List.mem_map.1 hx
      obtain ⟨c', _, rfl⟩ := List.mem_map.1 hy
      exact (append_inj_r (by rw [allW_size ha, allW_size hb]) e).1
/-- The letter c turned so that the letter t becomes the first. -/
def turnC (s : Nat) (t c : Nat) : Nat := (c + s - t) % s
theorem turnC_lt {s t c : Nat} (h : 0 < s) : turnC s t c < s := Nat.mod_lt _ h
theorem turnC_inj {s t c e : Nat} (ht : t < s) (hc : c < s) (he : e < s) (h : turnC s t c = turnC s t e) : c = e := by
  unfold turnC at h
  have f : ∀ q, q < s → (q + s - t) % s = if t ≤ q then q - t else q + s - t := fun q hq => by
    split
    · rw [show q + s - t = (q - t) + s by omega, Nat.add_mod_right, Nat.mod_eq_of_lt (by omega)]
    · rw [Nat.mod_eq_of_lt (by omega)]
  rw [f c hc, f e he] at h
  split at h <;> split at h <;> omega
/-- A word turned by a word. -/
def turnW (s : Nat) (t w : ByteArray) : ByteArray := ⟨((List.range w.size).map fun i => UInt8.ofNat (97 + turnC s (chr t i - 97).toNat (chr w i - 97).toNat)).toArray⟩
theorem turnW_size (s : Nat) (t w : ByteArray) : (turnW s t w).size = w.size := by
  show (((List.range w.size).map _).toArray).size = _
  simp
theorem turnW_chr {s : Nat} (hs : 0 < s) (hs2 : s ≤ 90) {t w : ByteArray} {i : Nat} (h : i < w.size) : chr (turnW s t w) i = 97 + (turnC s (chr t i - 97).toNat (chr w i - 97).toNat : Int) := by
  have hz : i < (turnW s t w).size := by rw [turnW_size]; exact h
  have hl := turnC_lt (t := (chr t i - 97).toNat) (c := (chr w i - 97).toNat) hs
  rw [chr_at hz]
  have e : (turnW s t w)[i]'hz = UInt8.ofNat (97 + turnC s (chr t i - 97).toNat (chr w i - 97).toNat) := by
    show (((List.range w.size).map fun i => UInt8.ofNat (97 + turnC s (chr t i - 97).toNat (chr w i - 97).toNat)).toArray)[i]'(by simpa using h) = _
    simp
  rw [e, UInt8.toNat_ofNat']
  have : (97 + turnC s (chr t i - 97).toNat (chr w i - 97).toNat) % 256 = 97 + turnC s (chr t i - 97).toNat (chr w i - 97).toNat := Nat.mod_eq_of_lt (by omega)
  omega
theorem farN_iff {a b a' b' : ByteArray} : ∀ m i, (∀ j, i ≤ j → j < i + m → (chr a j = chr b j ↔ chr a' j = chr b' j)) → farN a b i m = farN a' b' i m := by
  intro m
  induction m with
  | zero => intro i _; rfl
  | succ m ih =>
    intro i h
    rw [farN, farN, ih (i + 1) fun j h1 h2 => h j (by omega) (by omega)]
    have := h i (by omega) (by omega)
    by_cases hc : chr a i = chr b i
    · rw [if_pos hc, if_pos (this.1 hc)]
    · rw [if_neg hc, if_neg fun e => hc (this.2 e)]
theorem turnW_mem {s r : Nat} (hs : 0 < s) (hs2 : s ≤ 90) {t w : ByteArray} (hw : w ∈ allW s r) : turnW s t w ∈ allW s r := by
  have hz := allW_size hw
  refine allW_all hs2 (by rw [turnW_size, hz]) fun i hi => ?_
  rw [turnW_chr hs hs2 (by omega)]
  exact ⟨_, turnC_lt hs, rfl⟩
theorem turnW_far {s r : Nat} (hs : 0 < s) (hs2 : s ≤ 90) {t w v : ByteArray} (ht : t ∈ allW s r) (hw : w ∈ allW s r) (hv : v ∈ allW s r) : farB (turnW s t w) (turnW s t v) = farB w v := by
  have hz := allW_size hw
  have hz2 := allW_size hv
  unfold farB
  rw [turnW_size]
  refine farN_iff _ _ fun j _ hj => ?_
  rw [turnW_chr hs hs2 (by omega), turnW_chr hs hs2 (by omega)]
  obtain ⟨a, ha, ea⟩ := allW_let hs2 ht j (by omega)
  obtain ⟨b, hb, eb⟩ := allW_let hs2 hw j (by omega)
  obtain ⟨c, hc, ec⟩ := allW_let hs2 hv j (by omega)
  rw [ea, eb, ec, show (97 + (a : Int) - 97).toNat = a by omega, show (97 + (b : Int) - 97).toNat = b by omega, show (97 + (c : Int) - 97).toNat = c by omega]
  constructor
  · intro h
    have := turnC_inj (t := a) ha hb hc (by omega)
    omega
  · intro h
    have : b = c := by omega
    rw [this]
/-- The first word. -/
def zeroW (r : Nat) : ByteArray := ⟨(List.replicate r (97 : UInt8)).toArray⟩
theorem allW_head {s : Nat} (hs : 0 < s) : ∀ r, ∃ l, allW s r = zeroW r :: l := by
  intro r
  induction r with
  | zero => exact ⟨[], rfl⟩
  | succ r ih =>
    obtain ⟨l, e⟩ := ih
    obtain ⟨k, rfl⟩ : ∃ k, s = k + 1 := ⟨s - 1, by omega⟩
    refine ⟨((List.range k).map fun c => zeroW r ++ chB (c + 1)) ++ extW (k + 1) l, ?_⟩
    rw [allW, e]
    have h0 : extW (k + 1) (zeroW r :: l) = ((List.range (k + 1)).map fun c => zeroW r ++ chB c) ++ extW (k + 1) l := rfl
    have h1 : zeroW (r + 1) = zeroW r ++ chB 0 := by
      have hz : ∀ q, (zeroW q).size = q := fun q => by show ((List.replicate q (97 : UInt8)).toArray).size = q; simp
      have hc : ∀ q i, i < q → chr (zeroW q) i = 97 := fun q i hi => by
        rw [chr_at (by rw [hz]; exact hi)]
        have : (zeroW q)[i]'(by rw [hz]; exact hi) = 97 := by
          show ((List.replicate q (97 : UInt8)).toArray)[i]'(by simpa using hi) = 97
          simp
        rw [this]; rfl
      refine bytes_ext (by rw [hz, ByteArray.size_append, hz, chB_size]) fun i hi => ?_
      rw [hz] at hi
      rw [hc _ _ hi]
      by_cases hir : i < r
      · rw [chr_left (by rw [hz]; exact hir), hc _ _ hir]
      · obtain rfl : i = r := by omega
        rw [chr_right (by rw [hz]; exact Nat.le_refl _) (by rw [ByteArray.size_append, hz, chB_size]; omega), hz, Nat.sub_self, chr_chB (by omega)]
        rfl
    rw [h0, List.range_succ_eq_map, List.map_cons, h1, List.map_map]
    rfl
theorem turnW_self {s r : Nat} (hs : 0 < s) (hs2 : s ≤ 90) {t : ByteArray} (ht : t ∈ allW s r) : turnW s t t = zeroW r := by
  have hz := allW_size ht
  have hq : (zeroW r).size = r := by show ((List.replicate r (97 : UInt8)).toArray).size = r; simp
  refine bytes_ext (by rw [turnW_size, hz, hq]) fun i hi => ?_
  rw [turnW_size] at hi
  rw [turnW_chr hs hs2 hi, chr_at (s := zeroW r) (by rw [hq]; omega)]
  have : (zeroW r)[i]'(by rw [hq]; omega) = 97 := by
    show ((List.replicate r (97 : UInt8)).toArray)[i]'(by simp; omega) = 97
    simp
  rw [this]
  obtain ⟨a, ha, ea⟩ := allW_let hs2 ht i (by omega)
  rw [ea, show (97 + (a : Int) - 97).toNat = a by omega]
  have : turnC s a a = 0 := by unfold turnC; rw [show a + s - a = s by omega, Nat.mod_self]
  rw [this]
  rfl
/-- Near, between words of length r. -/
def nearZ (d : Int) (r : Nat) (a b : ByteArray) : Prop := a.size = r ∧ b.size = r → nearD d a b
/-- The first word is in a greatest code. -/
theorem alpha_all {s r : Nat} (hs : 0 < s) (hs2 : s ≤ 90) {d : Int} (hd : 1 ≤ d) {l : List ByteArray} (e : allW s r = zeroW r :: l) :
    Alpha (nearZ d r) (fun y => y ∈ allW s r) (alphaL d l.length (l.filter fun y => decide (d ≤ farB (zeroW r) y)) + 1) := by
  have hn := allW_nodup hs2 r
  have hsz : ∀ w ∈ allW s r, w.size = r := fun w hw => allW_size hw
  rw [e, List.nodup_cons] at hn
  have h0 : zeroW r ∈ allW s r := by rw [e]; exact List.mem_cons_self ..
  have hz0 := hsz _ h0
  refine Alpha.sym (x := zeroW r) (fun a b h k => ?_) h0 (fun t ht => ?_) ?_
  · have := h k.symm
    unfold nearD at *
    rw [farB_sym (by rw [k.1, k.2])]
    exact this
  · refine ⟨turnW s t, turnW_self hs hs2 ht, fun y hy => turnW_mem hs hs2 hy, fun y z hy hz h k => ?_⟩
    have := h ⟨by rw [turnW_size]; exact k.1, by rw [turnW_size]; exact k.2⟩
    unfold nearD at *
    rw [turnW_far hs hs2 ht hy hz] at this
    exact this
  · refine (alphaL_ok d hd r l.length (l.filter fun y => decide (d ≤ farB (zeroW r) y)) (List.length_filter_le _ _) (hn.2.sublist (List.filter_sublist ..)) fun w hw => hsz w (by rw [e]; exact List.mem_cons_of_mem _ (List.mem_filter.1 hw).1)).congr fun y => ?_
    rw [List.mem_filter, decide_eq_true_eq, e]
    constructor
    · rintro ⟨h1, h2⟩
      have h3 : ¬ nearD d (zeroW r) y := fun q => h2 fun _ => q
      unfold nearD at h3
      rcases List.mem_cons.1 h1 with h | h
      · subst h; rw [farB_self] at h3; omega
      · exact ⟨h, by omega⟩
    · rintro ⟨h1, h2⟩
      refine ⟨List.mem_cons_of_mem _ h1, fun q => ?_⟩
      have := q ⟨hz0, hsz y (by rw [e]; exact List.mem_cons_of_mem _ h1)⟩
      unfold nearD at this
      omega
end Go.Proofs.YtaajkmjilcamgaaGreatDoor
namespace Go.Proofs.YtaajkmjilcamgaaGreatDoor
open Go.ChangeShapes Go.WideShapes Go.ChangeAt Go.RowKit Go.Deep

theorem wf64 {z : Int} (h : (Lit.int .i64 z).wf = true) : -9223372036854775808 ≤ z ∧ z ≤ 9223372036854775807 := by
  simp [Lit.wf, IntKind.min, IntKind.max, IntKind.signed, IntKind.bits] at h
  exact ⟨by omega, by omega⟩

section
variable {w : World}
theorem addr_of_cell {a : Addr} {u : Value} (h : w.cell? a = some u) : a = ⟨a.block, a.off, none⟩ := by
  obtain ⟨b, o, s⟩ := a
  have := World.cell?_spot h
  simp at this; subst this; rfl
theorem rd_of_cells {a : Addr} {xs : List Value} (h : ∀ j, j < xs.length → w.cell? (a.add j) = xs[j]?) : Rd w w.heap.size (some a) xs := fun hn => by
  have hl : 0 < xs.length := List.length_pos_iff.2 hn
  have h0 := h 0 hl
  rw [List.getElem?_eq_getElem hl] at h0
  have ha : a.add 0 = a := by simp [Addr.add]
  rw [ha] at h0
  have e := addr_of_cell h0
  have hlt := World.block_lt_of_cell? w _ h0
  refine ⟨a.block, a.off, by rw [← e], hlt, fun j u hu => ?_⟩
  have hj := (List.getElem?_eq_some_iff.1 hu).1
  have := h j hj
  rw [e, Addr.add_lit] at this
  rw [this, hu]
theorem rd_family {α : Type} (f : α → List Value) (s : Nat) (hs : ∀ x, (f x).length = s) (hs0 : 0 < s) (X : Nat → α) (len : Nat) {a : Addr} (h : ∀ i, i < len → ∀ j, j < s → w.cell? (a.add (i * s + j)) = (f (X i))[j]?) :
    Rd w w.heap.size (some a) (((List.range len).map X).flatMap f) := by
  refine rd_of_cells fun q hq => ?_
  rw [flatMap_len f s hs] at hq
  simp only [List.length_map, List.length_range] at hq
  have hk : q / s < len := by rw [Nat.div_lt_iff_lt_mul hs0]; exact hq
  have hm := Nat.mod_lt q hs0
  have e : q / s * s + q % s = q := by rw [Nat.mul_comm]; exact Nat.div_add_mod q s
  have h1 := h (q / s) hk (q % s) hm
  have h2 := flatMap_get f s hs ((List.range len).map X) (q / s) (q % s) (X (q / s)) (by simp [hk]) hm
  rw [e] at h1 h2
  rw [h1, h2]
end

section
variable {H : Type} {enc : TypeId × Value → H} {P : Program} {w : World} {spare : Nat → Bool} {held : Bool} {b0 : Nat}
theorem trod_I {t e : TypeId} {fuel : Nat} {v : Value} {x : DataW H × List MemPlace} (ht : P.underlying t = some (.slice e)) (he : P.underlying e = some (.int .i64)) (hc : P.cellsOf e = 1)
    (h : DataW.trod enc P w b0 spare held fuel t [v] = some x) :
    ∃ A c, ∃ zs : List Int, v = .slice A zs.length c ∧ RdI w w.heap.size A zs ∧ zs.length ≤ 9223372036854775807 ∧ ∀ z ∈ zs, -9223372036854775808 ≤ z ∧ z ≤ 9223372036854775807 := by
  rcases open_ints ht he hc h with ⟨hcs, _⟩ | ⟨a, l, c, zs, hcs, _, hl, hm, hz, _, hcell, hwz⟩
  · simp at hcs; subst hcs
    exact ⟨none, 0, [], rfl, Rd.nil _ _ _, by simp, by simp⟩
  · simp at hcs; subst hcs
    have hll : l ≤ zs.length := by rw [hz]; split <;> omega
    unfold maxLen at hm
    refine ⟨some a, c, zs.take l, by simp [Nat.min_eq_left hll], ?_, by simp [Nat.min_eq_left hll]; omega, fun z hz' => wf64 (hwz z (List.mem_of_mem_take hz'))⟩
    refine rd_of_cells fun j hj => ?_
    simp only [List.length_map, List.length_take] at hj
    rw [hcell j (by omega)]
    simp [List.getD, show j < l by omega, show j < zs.length by omega]
theorem open_I {r : Reach} {b1 : Nat} {t e : TypeId} {v : Value} {d : DataW H} {p : List MemPlace} (ht : P.underlying t = some (.slice e)) (he : P.underlying e = some (.int .i64)) (hc : P.cellsOf e = 1)
    (hval : Value.okWide P w r b1 t v) (h : DataW.Trod enc P w b0 spare held t v d p) :
    ∃ A c, ∃ zs : List Int, v = .slice A zs.length c ∧ RdI w w.heap.size A zs ∧ zs.length ≤ 9223372036854775807 ∧ ∀ z ∈ zs, -9223372036854775808 ≤ z ∧ z ≤ 9223372036854775807 := by
  obtain ⟨a, l, c, rfl⟩ := okWide_slice ht hval
  obtain ⟨fuel, hf⟩ := h
  exact trod_I ht he hc (by simpa [Value.cells] using hf)
theorem open_Z {r : Reach} {b1 : Nat} {t : TypeId} {v : Value} {d : DataW H} {p : List MemPlace} (ht : P.underlying t = some (.int .i64))
    (hval : Value.okWide P w r b1 t v) (h : DataW.Trod enc P w b0 spare held t v d p) : ∃ z, v = .int .i64 z ∧ -9223372036854775808 ≤ z ∧ z ≤ 9223372036854775807 := by
  obtain ⟨z, rfl, _, _, hw⟩ := open_int ht hval h
  exact ⟨z, rfl, wf64 hw⟩
instance : Inhabited T2 := ⟨⟨0, 0⟩⟩
theorem rec_2 {e : TypeId} {fuel : Nat} {cs : List Value} {x : DataW H × List MemPlace} {f0 f1 : Field} (he : P.underlying e = some (.struct #[f0, f1])) (hone : oneCellFields P #[f0, f1] = true) (hC : P.cellsOf e = 2)
    (h0 : P.underlying f0.type = some (.int .i64)) (h1 : P.underlying f1.type = some (.int .i64)) (h : DataW.trod enc P w b0 spare held fuel e cs = some x) : ∃ y : T2, cs = y.cells ∧ y.Fits := by
  obtain ⟨xs, m, _, _, hlen, hxl, hg⟩ := DataW.trod_struct he h
  rw [hC] at hlen
  match cs, hlen with
  | [v0, v1], _ =>
    match xs, hxl with
    | [y0, y1], _ =>
      obtain ⟨o0, k0⟩ := hone_of hone 0 f0 rfl
      have t0 := hg 0 f0 rfl
      rw [o0, k0] at t0
      obtain ⟨n0, e0, _, w0⟩ := DataW.trod_int h0 (x := y0) (by simpa using t0)
      simp at e0
      obtain ⟨o1, k1⟩ := hone_of hone 1 f1 rfl
      have t1 := hg 1 f1 rfl
      rw [o1, k1] at t1
      obtain ⟨n1, e1, _, w1⟩ := DataW.trod_int h1 (x := y1) (by simpa using t1)
      simp at e1
      subst e0 e1
      exact ⟨⟨n0, n1⟩, rfl, wf64 w0, wf64 w1⟩
theorem trod_S2 {t e : TypeId} {fuel : Nat} {v : Value} {x : DataW H × List MemPlace} {f0 f1 : Field} (ht : P.underlying t = some (.slice e)) (he : P.underlying e = some (.struct #[f0, f1])) (hone : oneCellFields P #[f0, f1] = true) (hC : P.cellsOf e = 2)
    (h0 : P.underlying f0.type = some (.int .i64)) (h1 : P.underlying f1.type = some (.int .i64)) (h : DataW.trod enc P w b0 spare held fuel t [v] = some x) :
    ∃ A c, ∃ xs : List T2, v = .slice A xs.length c ∧ Rd2 w w.heap.size A xs ∧ xs.length ≤ 9223372036854775807 ∧ ∀ y ∈ xs, y.Fits := by
  rcases open_slice ht h with ⟨hcs, _⟩ | ⟨a, l, c, m, n, D, Pl, hcs, _, hl, hm, hmm, _, hi⟩
  · simp at hcs; subst hcs
    exact ⟨none, 0, [], rfl, Rd.nil _ _ _, by simp, by simp⟩
  · simp at hcs; subst hcs
    have hll : l ≤ m := by rw [hmm]; split <;> omega
    unfold maxLen at hm
    obtain ⟨X, hX⟩ := choose_lt (α := T2) (n := l) (p := fun i y => (∀ j, j < 2 → w.cell? (a.add (i * 2 + j)) = y.cells[j]?) ∧ y.Fits) (fun i hil => by
      obtain ⟨cs', q1, q2⟩ := hi i (by omega)
      rw [hC] at q1
      obtain ⟨y, rfl, hy⟩ := rec_2 he hone hC h0 h1 q2
      obtain ⟨_, _, hat⟩ := World.cells?_some q1
      exact ⟨y, fun j hj => by rw [← Go.Deep.add_add]; exact hat j hj, hy⟩)
    refine ⟨some a, c, (List.range l).map X, by simp, rd_family T2.cells 2 (fun _ => rfl) (by omega) X l fun i hil j hj => (hX i hil).1 j hj, by simp; omega, fun y hy => ?_⟩
    obtain ⟨i, hi', rfl⟩ := List.mem_map.1 hy
    exact (hX i (List.mem_range.1 hi')).2
theorem open_S2 {r : Reach} {b1 : Nat} {t e : TypeId} {v : Value} {d : DataW H} {p : List MemPlace} {f0 f1 : Field} (ht : P.underlying t = some (.slice e)) (he : P.underlying e = some (.struct #[f0, f1])) (hone : oneCellFields P #[f0, f1] = true) (hC : P.cellsOf e = 2)
    (h0 : P.underlying f0.type = some (.int .i64)) (h1 : P.underlying f1.type = some (.int .i64)) (hval : Value.okWide P w r b1 t v) (h : DataW.Trod enc P w b0 spare held t v d p) :
    ∃ A c, ∃ xs : List T2, v = .slice A xs.length c ∧ Rd2 w w.heap.size A xs ∧ xs.length ≤ 9223372036854775807 ∧ ∀ y ∈ xs, y.Fits := by
  obtain ⟨a, l, c, rfl⟩ := okWide_slice ht hval
  obtain ⟨fuel, hf⟩ := h
  exact trod_S2 ht he hone hC h0 h1 (by simpa [Value.cells] using hf)
theorem open_V2 {r : Reach} {b1 : Nat} {e : TypeId} {v : Value} {d : DataW H} {p : List MemPlace} {f0 f1 : Field} (he : P.underlying e = some (.struct #[f0, f1])) (hone : oneCellFields P #[f0, f1] = true) (hC : P.cellsOf e = 2)
    (h0 : P.underlying f0.type = some (.int .i64)) (h1 : P.underlying f1.type = some (.int .i64)) (hval : Value.okWide P w r b1 e v) (h : DataW.Trod enc P w b0 spare held e v d p) : ∃ y : T2, v = .agg #[.int .i64 y.a, .int .i64 y.b] ∧ y.Fits := by
  obtain ⟨cs, rfl, hsz⟩ := okWide_struct he hval
  obtain ⟨fuel, hf⟩ := h
  obtain ⟨y, hy, hfit⟩ := rec_2 he hone hC h0 h1 hf
  refine ⟨y, ?_, hfit⟩
  simp only [Value.cells] at hy
  obtain ⟨l⟩ := cs
  simp only at hy
  subst hy; rfl
instance : Inhabited T3 := ⟨⟨0, 0, 0⟩⟩
theorem rec_3 {e : TypeId} {fuel : Nat} {cs : List Value} {x : DataW H × List MemPlace} {f0 f1 f2 : Field} (he : P.underlying e = some (.struct #[f0, f1, f2])) (hone : oneCellFields P #[f0, f1, f2] = true) (hC : P.cellsOf e = 3)
    (h0 : P.underlying f0.type = some (.int .i64)) (h1 : P.underlying f1.type = some (.int .i64)) (h2 : P.underlying f2.type = some (.int .i64)) (h : DataW.trod enc P w b0 spare held fuel e cs = some x) : ∃ y : T3, cs = y.cells ∧ y.Fits := by
  obtain ⟨xs, m, _, _, hlen, hxl, hg⟩ := DataW.trod_struct he h
  rw [hC] at hlen
  match cs, hlen with
  | [v0, v1, v2], _ =>
    match xs, hxl with
    | [y0, y1, y2], _ =>
      obtain ⟨o0, k0⟩ := hone_of hone 0 f0 rfl
      have t0 := hg 0 f0 rfl
      rw [o0, k0] at t0
      obtain ⟨n0, e0, _, w0⟩ := DataW.trod_int h0 (x := y0) (by simpa using t0)
      simp at e0
      obtain ⟨o1, k1⟩ := hone_of hone 1 f1 rfl
      have t1 := hg 1 f1 rfl
      rw [o1, k1] at t1
      obtain ⟨n1, e1, _, w1⟩ := DataW.trod_int h1 (x := y1) (by simpa using t1)
      simp at e1
      obtain ⟨o2, k2⟩ := hone_of hone 2 f2 rfl
      have t2 := hg 2 f2 rfl
      rw [o2, k2] at t2
      obtain ⟨n2, e2, _, w2⟩ := DataW.trod_int h2 (x := y2) (by simpa using t2)
      simp at e2
      subst e0 e1 e2
      exact ⟨⟨n0, n1, n2⟩, rfl, wf64 w0, wf64 w1, wf64 w2⟩
theorem trod_S3 {t e : TypeId} {fuel : Nat} {v : Value} {x : DataW H × List MemPlace} {f0 f1 f2 : Field} (ht : P.underlying t = some (.slice e)) (he : P.underlying e = some (.struct #[f0, f1, f2])) (hone : oneCellFields P #[f0, f1, f2] = true) (hC : P.cellsOf e = 3)
    (h0 : P.underlying f0.type = some (.int .i64)) (h1 : P.underlying f1.type = some (.int .i64)) (h2 : P.underlying f2.type = some (.int .i64)) (h : DataW.trod enc P w b0 spare held fuel t [v] = some x) :
    ∃ A c, ∃ xs : List T3, v = .slice A xs.length c ∧ Rd3 w w.heap.size A xs ∧ xs.length ≤ 9223372036854775807 ∧ ∀ y ∈ xs, y.Fits := by
  rcases open_slice ht h with ⟨hcs, _⟩ | ⟨a, l, c, m, n, D, Pl, hcs, _, hl, hm, hmm, _, hi⟩
  · simp at hcs; subst hcs
    exact ⟨none, 0, [], rfl, Rd.nil _ _ _, by simp, by simp⟩
  · simp at hcs; subst hcs
    have hll : l ≤ m := by rw [hmm]; split <;> omega
    unfold maxLen at hm
    obtain ⟨X, hX⟩ := choose_lt (α := T3) (n := l) (p := fun i y => (∀ j, j < 3 → w.cell? (a.add (i * 3 + j)) = y.cells[j]?) ∧ y.Fits) (fun i hil => by
      obtain ⟨cs', q1, q2⟩ := hi i (by omega)
      rw [hC] at q1
      obtain ⟨y, rfl, hy⟩ := rec_3 he hone hC h0 h1 h2 q2
      obtain ⟨_, _, hat⟩ := World.cells?_some q1
      exact ⟨y, fun j hj => by rw [← Go.Deep.add_add]; exact hat j hj, hy⟩)
    refine ⟨some a, c, (List.range l).map X, by simp, rd_family T3.cells 3 (fun _ => rfl) (by omega) X l fun i hil j hj => (hX i hil).1 j hj, by simp; omega, fun y hy => ?_⟩
    obtain ⟨i, hi', rfl⟩ := List.mem_map.1 hy
    exact (hX i (List.mem_range.1 hi')).2
theorem open_S3 {r : Reach} {b1 : Nat} {t e : TypeId} {v : Value} {d : DataW H} {p : List MemPlace} {f0 f1 f2 : Field} (ht : P.underlying t = some (.slice e)) (he : P.underlying e = some (.struct #[f0, f1, f2])) (hone : oneCellFields P #[f0, f1, f2] = true) (hC : P.cellsOf e = 3)
    (h0 : P.underlying f0.type = some (.int .i64)) (h1 : P.underlying f1.type = some (.int .i64)) (h2 : P.underlying f2.type = some (.int .i64)) (hval : Value.okWide P w r b1 t v) (h : DataW.Trod enc P w b0 spare held t v d p) :
    ∃ A c, ∃ xs : List T3, v = .slice A xs.length c ∧ Rd3 w w.heap.size A xs ∧ xs.length ≤ 9223372036854775807 ∧ ∀ y ∈ xs, y.Fits := by
  obtain ⟨a, l, c, rfl⟩ := okWide_slice ht hval
  obtain ⟨fuel, hf⟩ := h
  exact trod_S3 ht he hone hC h0 h1 h2 (by simpa [Value.cells] using hf)
theorem open_V3 {r : Reach} {b1 : Nat} {e : TypeId} {v : Value} {d : DataW H} {p : List MemPlace} {f0 f1 f2 : Field} (he : P.underlying e = some (.struct #[f0, f1, f2])) (hone : oneCellFields P #[f0, f1, f2] = true) (hC : P.cellsOf e = 3)
    (h0 : P.underlying f0.type = some (.int .i64)) (h1 : P.underlying f1.type = some (.int .i64)) (h2 : P.underlying f2.type = some (.int .i64)) (hval : Value.okWide P w r b1 e v) (h : DataW.Trod enc P w b0 spare held e v d p) : ∃ y : T3, v = .agg #[.int .i64 y.a, .int .i64 y.b, .int .i64 y.c] ∧ y.Fits := by
  obtain ⟨cs, rfl, hsz⟩ := okWide_struct he hval
  obtain ⟨fuel, hf⟩ := h
  obtain ⟨y, hy, hfit⟩ := rec_3 he hone hC h0 h1 h2 hf
  refine ⟨y, ?_, hfit⟩
  simp only [Value.cells] at hy
  obtain ⟨l⟩ := cs
  simp only at hy
  subst hy; rfl
instance : Inhabited T4 := ⟨⟨0, 0, 0, 0⟩⟩
theorem rec_4 {e : TypeId} {fuel : Nat} {cs : List Value} {x : DataW H × List MemPlace} {f0 f1 f2 f3 : Field} (he : P.underlying e = some (.struct #[f0, f1, f2, f3])) (hone : oneCellFields P #[f0, f1, f2, f3] = true) (hC : P.cellsOf e = 4)
    (h0 : P.underlying f0.type = some (.int .i64)) (h1 : P.underlying f1.type = some (.int .i64)) (h2 : P.underlying f2.type = some (.int .i64)) (h3 : P.underlying f3.type = some (.int .i64)) (h : DataW.trod enc P w b0 spare held fuel e cs = some x) : ∃ y : T4, cs = y.cells ∧ y.Fits := by
  obtain ⟨xs, m, _, _, hlen, hxl, hg⟩ := DataW.trod_struct he h
  rw [hC] at hlen
  match cs, hlen with
  | [v0, v1, v2, v3], _ =>
    match xs, hxl with
    | [y0, y1, y2, y3], _ =>
      obtain ⟨o0, k0⟩ := hone_of hone 0 f0 rfl
      have t0 := hg 0 f0 rfl
      rw [o0, k0] at t0
      obtain ⟨n0, e0, _, w0⟩ := DataW.trod_int h0 (x := y0) (by simpa using t0)
      simp at e0
      obtain ⟨o1, k1⟩ := hone_of hone 1 f1 rfl
      have t1 := hg 1 f1 rfl
      rw [o1, k1] at t1
      obtain ⟨n1, e1, _, w1⟩ := DataW.trod_int h1 (x := y1) (by simpa using t1)
      simp at e1
      obtain ⟨o2, k2⟩ := hone_of hone 2 f2 rfl
      have t2 := hg 2 f2 rfl
      rw [o2, k2] at t2
      obtain ⟨n2, e2, _, w2⟩ := DataW.trod_int h2 (x := y2) (by simpa using t2)
      simp at e2
      obtain ⟨o3, k3⟩ := hone_of hone 3 f3 rfl
      have t3 := hg 3 f3 rfl
      rw [o3, k3] at t3
      obtain ⟨n3, e3, _, w3⟩ := DataW.trod_int h3 (x := y3) (by simpa using t3)
      simp at e3
      subst e0 e1 e2 e3
      exact ⟨⟨n0, n1, n2, n3⟩, rfl, wf64 w0, wf64 w1, wf64 w2, wf64 w3⟩
theorem trod_S4 {t e : TypeId} {fuel : Nat} {v : Value} {x : DataW H × List MemPlace} {f0 f1 f2 f3 : Field} (ht : P.underlying t = some (.slice e)) (he : P.underlying e = some (.struct #[f0, f1, f2, f3])) (hone : oneCellFields P #[f0, f1, f2, f3] = true) (hC : P.cellsOf e = 4)
    (h0 : P.underlying f0.type = some (.int .i64)) (h1 : P.underlying f1.type = some (.int .i64)) (h2 : P.underlying f2.type = some (.int .i64)) (h3 : P.underlying f3.type = some (.int .i64)) (h : DataW.trod enc P w b0 spare held fuel t [v] = some x) :
    ∃ A c, ∃ xs : List T4, v = .slice A xs.length c ∧ Rd4 w w.heap.size A xs ∧ xs.length ≤ 9223372036854775807 ∧ ∀ y ∈ xs, y.Fits := by
  rcases open_slice ht h with ⟨hcs, _⟩ | ⟨a, l, c, m, n, D, Pl, hcs, _, hl, hm, hmm, _, hi⟩
  · simp at hcs; subst hcs
    exact ⟨none, 0, [], rfl, Rd.nil _ _ _, by simp, by simp⟩
  · simp at hcs; subst hcs
    have hll : l ≤ m := by rw [hmm]; split <;> omega
    unfold maxLen at hm
    obtain ⟨X, hX⟩ := choose_lt (α := T4) (n := l) (p := fun i y => (∀ j, j < 4 → w.cell? (a.add (i * 4 + j)) = y.cells[j]?) ∧ y.Fits) (fun i hil => by
      obtain ⟨cs', q1, q2⟩ := hi i (by omega)
      rw [hC] at q1
      obtain ⟨y, rfl, hy⟩ := rec_4 he hone hC h0 h1 h2 h3 q2
      obtain ⟨_, _, hat⟩ := World.cells?_some q1
      exact ⟨y, fun j hj => by rw [← Go.Deep.add_add]; exact hat j hj, hy⟩)
    refine ⟨some a, c, (List.range l).map X, by simp, rd_family T4.cells 4 (fun _ => rfl) (by omega) X l fun i hil j hj => (hX i hil).1 j hj, by simp; omega, fun y hy => ?_⟩
    obtain ⟨i, hi', rfl⟩ := List.mem_map.1 hy
    exact (hX i (List.mem_range.1 hi')).2
theorem open_S4 {r : Reach} {b1 : Nat} {t e : TypeId} {v : Value} {d : DataW H} {p : List MemPlace} {f0 f1 f2 f3 : Field} (ht : P.underlying t = some (.slice e)) (he : P.underlying e = some (.struct #[f0, f1, f2, f3])) (hone : oneCellFields P #[f0, f1, f2, f3] = true) (hC : P.cellsOf e = 4)
    (h0 : P.underlying f0.type = some (.int .i64)) (h1 : P.underlying f1.type = some (.int .i64)) (h2 : P.underlying f2.type = some (.int .i64)) (h3 : P.underlying f3.type = some (.int .i64)) (hval : Value.okWide P w r b1 t v) (h : DataW.Trod enc P w b0 spare held t v d p) :
    ∃ A c, ∃ xs : List T4, v = .slice A xs.length c ∧ Rd4 w w.heap.size A xs ∧ xs.length ≤ 9223372036854775807 ∧ ∀ y ∈ xs, y.Fits := by
  obtain ⟨a, l, c, rfl⟩ := okWide_slice ht hval
  obtain ⟨fuel, hf⟩ := h
  exact trod_S4 ht he hone hC h0 h1 h2 h3 (by simpa [Value.cells] using hf)
theorem open_V4 {r : Reach} {b1 : Nat} {e : TypeId} {v : Value} {d : DataW H} {p : List MemPlace} {f0 f1 f2 f3 : Field} (he : P.underlying e = some (.struct #[f0, f1, f2, f3])) (hone : oneCellFields P #[f0, f1, f2, f3] = true) (hC : P.cellsOf e = 4)
    (h0 : P.underlying f0.type = some (.int .i64)) (h1 : P.underlying f1.type = some (.int .i64)) (h2 : P.underlying f2.type = some (.int .i64)) (h3 : P.underlying f3.type = some (.int .i64)) (hval : Value.okWide P w r b1 e v) (h : DataW.Trod enc P w b0 spare held e v d p) : ∃ y : T4, v = .agg #[.int .i64 y.a, .int .i64 y.b, .int .i64 y.c, .int .i64 y.d] ∧ y.Fits := by
  obtain ⟨cs, rfl, hsz⟩ := okWide_struct he hval
  obtain ⟨fuel, hf⟩ := h
  obtain ⟨y, hy, hfit⟩ := rec_4 he hone hC h0 h1 h2 h3 hf
  refine ⟨y, ?_, hfit⟩
  simp only [Value.cells] at hy
  obtain ⟨l⟩ := cs
  simp only at hy
  subst hy; rfl
end
end Go.Proofs.YtaajkmjilcamgaaGreatDoor
