/-
  Rows of bytes. Plain lemmas.
-/
import Derived.Test.YtofjnmeblmbnmaaInts
import Derived.Laws.IdiomStrings
namespace Go.Proofs.Ytofjnmeblmbnmaa
open Go.RowKit
/-- Bytes as cells. -/
def bcs (l : List UInt8) : List Value := l.map fun x => Value.int .u8 (x.toNat : Int)
theorem bcs_snoc (l : List UInt8) {x : Nat} (h : x ≤ 255) : bcs l ++ [.int .u8 (x : Int)] = bcs (l ++ [UInt8.ofNat x]) := by
  unfold bcs
  rw [List.map_append, List.map_cons, List.map_nil, UInt8.toNat_ofNat', Nat.mod_eq_of_lt (by omega)]
theorem byte_one (z : Int) : ∀ u ∈ [Value.int .u8 z], u.oneCell' = true := by intro u hu; simp at hu; subst hu; rfl
theorem uint8_info : (Try.prog.info? 5).map (fun i => (i.zero, i.size, i.bytes)) = some (some (.int .u8 0), 1, 1) := by kernel_rfl
theorem bcs_cons (l : List UInt8) {x : Nat} (h : x ≤ 255) : .int .u8 (x : Int) :: bcs l = bcs (UInt8.ofNat x :: l) := by
  unfold bcs
  rw [List.map_cons, UInt8.toNat_ofNat', Nat.mod_eq_of_lt (by omega)]
theorem bcs_one (l : List UInt8) : ∀ u ∈ bcs l, u.oneCell' = true := by
  intro u hu
  obtain ⟨x, _, rfl⟩ := List.mem_map.1 hu
  rfl
theorem bcs_len (l : List UInt8) : (bcs l).length = l.length := by simp [bcs]
end Go.Proofs.Ytofjnmeblmbnmaa
