/-
  The kit's contract of slices.SortFunc, laid at spans (plain text as the kit's own lay-plain writes it; numbers by names).
-/
import Derived.Shelf.SlSortCmp.WholeK
import Derived.Shelf.SlGeneric
import Derived.Ground.SlsfProg
import Derived.Test.YtfhociekhffjhaaProg
namespace Go.Proofs
open Go.Shelf
def Ytfhociekhffjhaa.sortSpan_ren : Go.Shelf.Ren := ⟨fun | 6 => 201 | 15 => 219 | 14 => 218 | 28 => 232 | 29 => 233 | 20 => 224 | 21 => 225 | 22 => 226 | 23 => 227 | 24 => 228 | 25 => 229 | 26 => 230 | 27 => 231 | 46 => 235 | 47 => 236 | 48 => 237 | 49 => 238 | 50 => 239 | 57 => 241 | n => n, fun | 22 => 116 | 24 => 119 | 25 => 207 | 3 => 3 | 39 => 210 | 0 => 0 | 53 => 238 | 55 => 182 | 4 => 4 | 46 => 231 | 45 => 230 | 50 => 235 | 5 => 5 | 9 => 9 | 66 => 240 | 70 => 244 | 76 => 246 | 77 => 247 | n => n, fun | n => n⟩
theorem Ytfhociekhffjhaa.sortSpan : Go.Proofs.SlLaysF0.n6 Try.prog Ytfhociekhffjhaa.sortSpan_ren := {
  mixed := by kernel_rfl
  f6 := ⟨Try.f201.name, by decide, Try.func201.trans (congrArg some (by kernel_rfl))⟩
  f14 := ⟨Try.f218.name, by decide, Try.func218.trans (congrArg some (by kernel_rfl))⟩
  f15 := Try.func219.trans (congrArg some (by kernel_rfl))
  f20 := ⟨Try.f224.name, by decide, Try.func224.trans (congrArg some (by kernel_rfl))⟩
  f21 := ⟨Try.f225.name, by decide, Try.func225.trans (congrArg some (by kernel_rfl))⟩
  f22 := ⟨Try.f226.name, by decide, Try.func226.trans (congrArg some (by kernel_rfl))⟩
  f23 := ⟨Try.f227.name, by decide, Try.func227.trans (congrArg some (by kernel_rfl))⟩
  f24 := ⟨Try.f228.name, by decide, Try.func228.trans (congrArg some (by kernel_rfl))⟩
  f25 := ⟨Try.f229.name, by decide, Try.func229.trans (congrArg some (by kernel_rfl))⟩
  f26 := ⟨Try.f230.name, by decide, Try.func230.trans (congrArg some (by kernel_rfl))⟩
  f27 := ⟨Try.f231.name, by decide, Try.func231.trans (congrArg some (by kernel_rfl))⟩
  f28 := Try.func232.trans (congrArg some (by kernel_rfl))
  f29 := Try.func233.trans (congrArg some (by kernel_rfl))
  f46 := ⟨Try.f235.name, by decide, Try.func235.trans (congrArg some (by kernel_rfl))⟩
  f47 := Try.func236.trans (congrArg some (by kernel_rfl))
  f48 := Try.func237.trans (congrArg some (by kernel_rfl))
  f49 := ⟨Try.f238.name, by decide, Try.func238.trans (congrArg some (by kernel_rfl))⟩
  f50 := ⟨Try.f239.name, by decide, Try.func239.trans (congrArg some (by kernel_rfl))⟩
  f57 := ⟨Try.f241.name, by decide, Try.func241.trans (congrArg some (by kernel_rfl))⟩
  t0 := Try.underlying0
  a0 := Try.isAgg0
  z0 := Try.sizeOf0
  v0 := Try.zeroValue0
  t3 := Try.underlying3
  a3 := Try.isAgg3
  z3 := Try.sizeOf3
  v3 := Try.zeroValue3
  t4 := Try.underlying4
  a4 := Try.isAgg4
  z4 := Try.sizeOf4
  v4 := Try.zeroValue4
  t5 := Try.underlying5
  a5 := Try.isAgg5
  z5 := Try.sizeOf5
  v5 := Try.zeroValue5
  t9 := Try.underlying9
  a9 := Try.isAgg9
  z9 := Try.sizeOf9
  v9 := Try.zeroValue9
  t22 := Try.underlying116
  a22 := Try.isAgg116
  z22 := Try.sizeOf116
  v22 := Try.zeroValue116
  t25 := Try.underlying207
  a25 := Try.isAgg207
  z25 := Try.sizeOf207
  v25 := Try.zeroValue207
  t39 := Try.underlying210
  a39 := Try.isAgg210
  z39 := Try.sizeOf210
  v39 := Try.zeroValue210
  t45 := Try.underlying230
  a45 := Try.isAgg230
  z45 := Try.sizeOf230
  v45 := Try.zeroValue230
  t46 := Try.underlying231
  a46 := Try.isAgg231
  z46 := Try.sizeOf231
  v46 := Try.zeroValue231
  t50 := Try.underlying235
  a50 := Try.isAgg235
  z50 := Try.sizeOf235
  v50 := Try.zeroValue235
  t53 := Try.underlying238
  a53 := Try.isAgg238
  z53 := Try.sizeOf238
  v53 := Try.zeroValue238
  t55 := Try.underlying182
  a55 := Try.isAgg182
  z55 := Try.sizeOf182
  v55 := Try.zeroValue182
  t66 := Try.underlying240
  a66 := Try.isAgg240
  z66 := Try.sizeOf240
  v66 := Try.zeroValue240
  t70 := Try.underlying244
  a70 := Try.isAgg244
  z70 := Try.sizeOf244
  v70 := Try.zeroValue244
  t76 := Try.underlying246
  a76 := Try.isAgg246
  z76 := Try.sizeOf246
  v76 := Try.zeroValue246
  t77 := Try.underlying247
  a77 := Try.isAgg247
  z77 := Try.sizeOf247
  v77 := Try.zeroValue247 }
end Go.Proofs
