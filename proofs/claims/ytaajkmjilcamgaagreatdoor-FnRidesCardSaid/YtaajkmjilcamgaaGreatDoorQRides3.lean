/-
  The kit's contracts of strings' Cut, Split, SplitN, TrimPrefix, TrimSuffix, Join and of strconv.ParseInt, laid (plain text as the kit's own lay-plain writes it; numbers by names).
  Numbers read from texts: the program's, by the kit's contracts of strings.TrimPrefix and strconv.ParseInt.
  Contracts of slices.Equal and slices.Clone at the program's element types. Printed by gen_lib.py.
  Lists whose elements hold a list of numbers and up to two numbers more: what a slice of them reads, and what is the call's own. Plain lemmas.
-/
import Derived.Shelf.Strings.Cut
import Derived.Shelf.Strings.Split
import Derived.Shelf.Strings.Prefix
import Derived.Shelf.Strings.OnBuilder
import Derived.Shelf.Strconv.ParseIntPublic10
import Derived.Shelf.Vars
import Derived.Shelf.LaysM
import Derived.Shelf.LaysC
import Derived.Ground.Names2Prog
import Derived.Test.YtaajkmjilcamgaaGreatDoorProg
import Derived.Test.YtaajkmjilcamgaaGreatDoorQRides0
import Derived.Test.YtaajkmjilcamgaaGreatDoorQRides2
import Derived.Test.YtaajkmjilcamgaaGreatDoorQRides1
import Derived.Lib.SliceRun
import Derived.Deep.DeepMust
namespace Go.Proofs
open Go.Shelf
def YtaajkmjilcamgaaGreatDoor.cutLay_ren : Go.Shelf.Ren := ⟨fun | 145 => 42 | 220 => 76 | 219 => 105 | 217 => 125 | 225 => 126 | 224 => 127 | 267 => 128 | 266 => 141 | 314 => 142 | n => n, fun | 9 => 9 | 4 => 4 | 59 => 70 | 3 => 3 | 5 => 5 | 46 => 121 | 146 => 134 | 51 => 133 | n => n, fun | 1 => 0 | n => n⟩
theorem YtaajkmjilcamgaaGreatDoor.cutLay : Go.Proofs.LaysM.n145 Tryz.prog YtaajkmjilcamgaaGreatDoor.cutLay_ren := {
  mixed := by kernel_rfl
  f145 := Tryz.func42.trans (congrArg some (by kernel_rfl))
  f217 := Tryz.func125.trans (congrArg some (by kernel_rfl))
  f219 := Tryz.func105.trans (congrArg some (by kernel_rfl))
  f220 := Tryz.func76.trans (congrArg some (by kernel_rfl))
  f224 := Tryz.func127.trans (congrArg some (by kernel_rfl))
  f225 := Tryz.func126.trans (congrArg some (by kernel_rfl))
  f266 := Tryz.func141.trans (congrArg some (by kernel_rfl))
  f267 := Tryz.func128.trans (congrArg some (by kernel_rfl))
  f314 := Tryz.func142.trans (congrArg some (by kernel_rfl))
  t3 := Tryz.underlying3
  a3 := Tryz.isAgg3
  z3 := Tryz.sizeOf3
  v3 := Tryz.zeroValue3
  t4 := Tryz.underlying4
  a4 := Tryz.isAgg4
  z4 := Tryz.sizeOf4
  v4 := Tryz.zeroValue4
  t5 := Tryz.underlying5
  a5 := Tryz.isAgg5
  z5 := Tryz.sizeOf5
  v5 := Tryz.zeroValue5
  t9 := Tryz.underlying9
  a9 := Tryz.isAgg9
  z9 := Tryz.sizeOf9
  v9 := Tryz.zeroValue9
  t46 := Tryz.underlying121
  a46 := Tryz.isAgg121
  z46 := Tryz.sizeOf121
  v46 := Tryz.zeroValue121
  t51 := Tryz.underlying133
  a51 := Tryz.isAgg133
  z51 := Tryz.sizeOf133
  v51 := Tryz.zeroValue133
  t59 := Tryz.underlying70
  a59 := Tryz.isAgg70
  z59 := Tryz.sizeOf70
  v59 := Tryz.zeroValue70
  t146 := Tryz.underlying134
  a146 := Tryz.isAgg134
  z146 := Tryz.sizeOf134
  v146 := Tryz.zeroValue134
  g1 := by kernel_rfl
  i3 := by kernel_rfl
  i4 := by kernel_rfl
  i5 := by kernel_rfl
  i9 := by kernel_rfl
  i46 := by kernel_rfl
  i51 := by kernel_rfl
  i59 := by kernel_rfl
  i146 := by kernel_rfl
  m1 := by kernel_rfl
  s1_3 := fun w h => Go.Proofs.cell_of_shapedOpen_int (zero := #[.int .i64 0]) (t := 3) h (of_decide_eq_true (by kernel_rfl)) (by kernel_rfl) rfl (by kernel_rfl) (by kernel_rfl) Tryz.underlying3 }
def YtaajkmjilcamgaaGreatDoor.splitLay_ren : Go.Shelf.Ren := ⟨fun | 146 => 60 | 221 => 72 | 268 => 98 | 138 => 99 | 143 => 100 | 195 => 116 | 197 => 117 | 218 => 118 | 219 => 105 | 260 => 135 | 217 => 125 | 225 => 126 | 224 => 127 | 267 => 128 | 266 => 141 | 314 => 142 | n => n, fun | 9 => 9 | 31 => 65 | 3 => 3 | 4 => 4 | 0 => 0 | 105 => 139 | 21 => 21 | 5 => 5 | 46 => 121 | 119 => 170 | 139 => 173 | 138 => 172 | 146 => 134 | 51 => 133 | n => n, fun | 1 => 0 | 3 => 4 | 4 => 5 | n => n⟩
theorem YtaajkmjilcamgaaGreatDoor.splitLay : Go.Proofs.LaysM.n146 Tryz.prog YtaajkmjilcamgaaGreatDoor.splitLay_ren := {
  mixed := by kernel_rfl
  f138 := Tryz.func99.trans (congrArg some (by kernel_rfl))
  f143 := Tryz.func100.trans (congrArg some (by kernel_rfl))
  f146 := Tryz.func60.trans (congrArg some (by kernel_rfl))
  f195 := Tryz.func116.trans (congrArg some (by kernel_rfl))
  f197 := Tryz.func117.trans (congrArg some (by kernel_rfl))
  f217 := Tryz.func125.trans (congrArg some (by kernel_rfl))
  f218 := Tryz.func118.trans (congrArg some (by kernel_rfl))
  f219 := Tryz.func105.trans (congrArg some (by kernel_rfl))
  f221 := Tryz.func72.trans (congrArg some (by kernel_rfl))
  f224 := Tryz.func127.trans (congrArg some (by kernel_rfl))
  f225 := Tryz.func126.trans (congrArg some (by kernel_rfl))
  f260 := Tryz.func135.trans (congrArg some (by kernel_rfl))
  f266 := Tryz.func141.trans (congrArg some (by kernel_rfl))
  f267 := Tryz.func128.trans (congrArg some (by kernel_rfl))
  f268 := Tryz.func98.trans (congrArg some (by kernel_rfl))
  f314 := Tryz.func142.trans (congrArg some (by kernel_rfl))
  t0 := Tryz.underlying0
  a0 := Tryz.isAgg0
  z0 := Tryz.sizeOf0
  v0 := Tryz.zeroValue0
  t3 := Tryz.underlying3
  a3 := Tryz.isAgg3
  z3 := Tryz.sizeOf3
  v3 := Tryz.zeroValue3
  t4 := Tryz.underlying4
  a4 := Tryz.isAgg4
  z4 := Tryz.sizeOf4
  v4 := Tryz.zeroValue4
  t5 := Tryz.underlying5
  a5 := Tryz.isAgg5
  z5 := Tryz.sizeOf5
  v5 := Tryz.zeroValue5
  t9 := Tryz.underlying9
  a9 := Tryz.isAgg9
  z9 := Tryz.sizeOf9
  v9 := Tryz.zeroValue9
  t21 := Tryz.underlying21
  a21 := Tryz.isAgg21
  z21 := Tryz.sizeOf21
  v21 := Tryz.zeroValue21
  t31 := Tryz.underlying65
  a31 := Tryz.isAgg65
  z31 := Tryz.sizeOf65
  v31 := Tryz.zeroValue65
  t46 := Tryz.underlying121
  a46 := Tryz.isAgg121
  z46 := Tryz.sizeOf121
  v46 := Tryz.zeroValue121
  t51 := Tryz.underlying133
  a51 := Tryz.isAgg133
  z51 := Tryz.sizeOf133
  v51 := Tryz.zeroValue133
  t105 := Tryz.underlying139
  a105 := Tryz.isAgg139
  z105 := Tryz.sizeOf139
  v105 := Tryz.zeroValue139
  t119 := Tryz.underlying170
  a119 := Tryz.isAgg170
  z119 := Tryz.sizeOf170
  t138 := Tryz.underlying172
  a138 := Tryz.isAgg172
  z138 := Tryz.sizeOf172
  v138 := Tryz.zeroValue172
  t139 := Tryz.underlying173
  a139 := Tryz.isAgg173
  z139 := Tryz.sizeOf173
  v139 := Tryz.zeroValue173
  t146 := Tryz.underlying134
  a146 := Tryz.isAgg134
  z146 := Tryz.sizeOf134
  v146 := Tryz.zeroValue134
  g1 := by kernel_rfl
  g3 := by kernel_rfl
  g4 := by kernel_rfl
  i0 := by kernel_rfl
  i3 := by kernel_rfl
  i4 := by kernel_rfl
  i5 := by kernel_rfl
  i9 := by kernel_rfl
  i21 := by kernel_rfl
  i31 := by kernel_rfl
  i46 := by kernel_rfl
  i51 := by kernel_rfl
  i105 := by kernel_rfl
  i138 := by kernel_rfl
  i139 := by kernel_rfl
  i146 := by kernel_rfl
  m1 := by kernel_rfl
  s1_3 := fun w h => Go.Proofs.cell_of_shapedOpen_int (zero := #[.int .i64 0]) (t := 3) h (of_decide_eq_true (by kernel_rfl)) (by kernel_rfl) rfl (by kernel_rfl) (by kernel_rfl) Tryz.underlying3
  m3 := by kernel_rfl
  m4 := by kernel_rfl }
def YtaajkmjilcamgaaGreatDoor.splitNLay_ren : Go.Shelf.Ren := ⟨fun | 147 => 39 | 221 => 72 | 268 => 98 | 138 => 99 | 143 => 100 | 195 => 116 | 197 => 117 | 218 => 118 | 219 => 105 | 260 => 135 | 217 => 125 | 225 => 126 | 224 => 127 | 267 => 128 | 266 => 141 | 314 => 142 | n => n, fun | 9 => 9 | 3 => 3 | 31 => 65 | 4 => 4 | 0 => 0 | 105 => 139 | 21 => 21 | 5 => 5 | 46 => 121 | 119 => 170 | 139 => 173 | 138 => 172 | 146 => 134 | 51 => 133 | n => n, fun | 1 => 0 | 3 => 4 | 4 => 5 | n => n⟩
theorem YtaajkmjilcamgaaGreatDoor.splitNLay : Go.Proofs.LaysM.n147 Tryz.prog YtaajkmjilcamgaaGreatDoor.splitNLay_ren := {
  mixed := by kernel_rfl
  f138 := Tryz.func99.trans (congrArg some (by kernel_rfl))
  f143 := Tryz.func100.trans (congrArg some (by kernel_rfl))
  f147 := Tryz.func39.trans (congrArg some (by kernel_rfl))
  f195 := Tryz.func116.trans (congrArg some (by kernel_rfl))
  f197 := Tryz.func117.trans (congrArg some (by kernel_rfl))
  f217 := Tryz.func125.trans (congrArg some (by kernel_rfl))
  f218 := Tryz.func118.trans (congrArg some (by kernel_rfl))
  f219 := Tryz.func105.trans (congrArg some (by kernel_rfl))
  f221 := Tryz.func72.trans (congrArg some (by kernel_rfl))
  f224 := Tryz.func127.trans (congrArg some (by kernel_rfl))
  f225 := Tryz.func126.trans (congrArg some (by kernel_rfl))
  f260 := Tryz.func135.trans (congrArg some (by kernel_rfl))
  f266 := Tryz.func141.trans (congrArg some (by kernel_rfl))
  f267 := Tryz.func128.trans (congrArg some (by kernel_rfl))
  f268 := Tryz.func98.trans (congrArg some (by kernel_rfl))
  f314 := Tryz.func142.trans (congrArg some (by kernel_rfl))
  t0 := Tryz.underlying0
  a0 := Tryz.isAgg0
  z0 := Tryz.sizeOf0
  v0 := Tryz.zeroValue0
  t3 := Tryz.underlying3
  a3 := Tryz.isAgg3
  z3 := Tryz.sizeOf3
  v3 := Tryz.zeroValue3
  t4 := Tryz.underlying4
  a4 := Tryz.isAgg4
  z4 := Tryz.sizeOf4
  v4 := Tryz.zeroValue4
  t5 := Tryz.underlying5
  a5 := Tryz.isAgg5
  z5 := Tryz.sizeOf5
  v5 := Tryz.zeroValue5
  t9 := Tryz.underlying9
  a9 := Tryz.isAgg9
  z9 := Tryz.sizeOf9
  v9 := Tryz.zeroValue9
  t21 := Tryz.underlying21
  a21 := Tryz.isAgg21
  z21 := Tryz.sizeOf21
  v21 := Tryz.zeroValue21
  t31 := Tryz.underlying65
  a31 := Tryz.isAgg65
  z31 := Tryz.sizeOf65
  v31 := Tryz.zeroValue65
  t46 := Tryz.underlying121
  a46 := Tryz.isAgg121
  z46 := Tryz.sizeOf121
  v46 := Tryz.zeroValue121
  t51 := Tryz.underlying133
  a51 := Tryz.isAgg133
  z51 := Tryz.sizeOf133
  v51 := Tryz.zeroValue133
  t105 := Tryz.underlying139
  a105 := Tryz.isAgg139
  z105 := Tryz.sizeOf139
  v105 := Tryz.zeroValue139
  t119 := Tryz.underlying170
  a119 := Tryz.isAgg170
  z119 := Tryz.sizeOf170
  t138 := Tryz.underlying172
  a138 := Tryz.isAgg172
  z138 := Tryz.sizeOf172
  v138 := Tryz.zeroValue172
  t139 := Tryz.underlying173
  a139 := Tryz.isAgg173
  z139 := Tryz.sizeOf173
  v139 := Tryz.zeroValue173
  t146 := Tryz.underlying134
  a146 := Tryz.isAgg134
  z146 := Tryz.sizeOf134
  v146 := Tryz.zeroValue134
  g1 := by kernel_rfl
  g3 := by kernel_rfl
  g4 := by kernel_rfl
  i0 := by kernel_rfl
  i3 := by kernel_rfl
  i4 := by kernel_rfl
  i5 := by kernel_rfl
  i9 := by kernel_rfl
  i21 := by kernel_rfl
  i31 := by kernel_rfl
  i46 := by kernel_rfl
  i51 := by kernel_rfl
  i105 := by kernel_rfl
  i138 := by kernel_rfl
  i139 := by kernel_rfl
  i146 := by kernel_rfl
  m1 := by kernel_rfl
  s1_3 := fun w h => Go.Proofs.cell_of_shapedOpen_int (zero := #[.int .i64 0]) (t := 3) h (of_decide_eq_true (by kernel_rfl)) (by kernel_rfl) rfl (by kernel_rfl) (by kernel_rfl) Tryz.underlying3
  m3 := by kernel_rfl
  m4 := by kernel_rfl }
def YtaajkmjilcamgaaGreatDoor.trimPLay_ren : Go.Shelf.Ren := ⟨fun | 101 => 73 | 208 => 101 | 206 => 119 | n => n, fun | 9 => 9 | 4 => 4 | 3 => 3 | n => n, fun | n => n⟩
theorem YtaajkmjilcamgaaGreatDoor.trimPLay : Go.Proofs.LaysM.n101 Tryz.prog YtaajkmjilcamgaaGreatDoor.trimPLay_ren := {
  mixed := by kernel_rfl
  f101 := Tryz.func73.trans (congrArg some (by kernel_rfl))
  f206 := Tryz.func119.trans (congrArg some (by kernel_rfl))
  f208 := Tryz.func101.trans (congrArg some (by kernel_rfl))
  t3 := Tryz.underlying3
  a3 := Tryz.isAgg3
  z3 := Tryz.sizeOf3
  v3 := Tryz.zeroValue3
  t4 := Tryz.underlying4
  a4 := Tryz.isAgg4
  z4 := Tryz.sizeOf4
  v4 := Tryz.zeroValue4
  t9 := Tryz.underlying9
  a9 := Tryz.isAgg9
  z9 := Tryz.sizeOf9
  v9 := Tryz.zeroValue9
  i3 := by kernel_rfl
  i4 := by kernel_rfl
  i9 := by kernel_rfl }
def YtaajkmjilcamgaaGreatDoor.trimSLay_ren : Go.Shelf.Ren := ⟨fun | 102 => 41 | 209 => 75 | 207 => 104 | n => n, fun | 9 => 9 | 4 => 4 | 3 => 3 | n => n, fun | n => n⟩
theorem YtaajkmjilcamgaaGreatDoor.trimSLay : Go.Proofs.LaysM.n102 Tryz.prog YtaajkmjilcamgaaGreatDoor.trimSLay_ren := {
  mixed := by kernel_rfl
  f102 := Tryz.func41.trans (congrArg some (by kernel_rfl))
  f207 := Tryz.func104.trans (congrArg some (by kernel_rfl))
  f209 := Tryz.func75.trans (congrArg some (by kernel_rfl))
  t3 := Tryz.underlying3
  a3 := Tryz.isAgg3
  z3 := Tryz.sizeOf3
  v3 := Tryz.zeroValue3
  t4 := Tryz.underlying4
  a4 := Tryz.isAgg4
  z4 := Tryz.sizeOf4
  v4 := Tryz.zeroValue4
  t9 := Tryz.underlying9
  a9 := Tryz.isAgg9
  z9 := Tryz.sizeOf9
  v9 := Tryz.zeroValue9
  i3 := by kernel_rfl
  i4 := by kernel_rfl
  i9 := by kernel_rfl }
def YtaajkmjilcamgaaGreatDoor.joinLay_ren : Go.Shelf.Ren := ⟨fun | 156 => 45 | 165 => 81 | 166 => 82 | 169 => 83 | 240 => 109 | 241 => 110 | 276 => 133 | 277 => 134 | n => n, fun | 31 => 65 | 9 => 9 | 3 => 3 | 4 => 4 | 0 => 0 | 20 => 20 | 72 => 111 | 76 => 113 | 70 => 109 | 37 => 22 | 75 => 103 | 127 => 129 | 164 => 155 | 5 => 5 | 80 => 115 | n => n, fun | n => n⟩
theorem YtaajkmjilcamgaaGreatDoor.joinLay : Go.Proofs.LaysM.n156 Tryz.prog YtaajkmjilcamgaaGreatDoor.joinLay_ren := {
  mixed := by kernel_rfl
  f156 := Tryz.func45.trans (congrArg some (by kernel_rfl))
  f165 := Tryz.func81.trans (congrArg some (by kernel_rfl))
  f166 := Tryz.func82.trans (congrArg some (by kernel_rfl))
  f169 := Tryz.func83.trans (congrArg some (by kernel_rfl))
  f240 := Tryz.func109.trans (congrArg some (by kernel_rfl))
  f241 := Tryz.func110.trans (congrArg some (by kernel_rfl))
  f276 := Tryz.func133.trans (congrArg some (by kernel_rfl))
  f277 := Tryz.func134.trans (congrArg some (by kernel_rfl))
  t0 := Tryz.underlying0
  a0 := Tryz.isAgg0
  z0 := Tryz.sizeOf0
  v0 := Tryz.zeroValue0
  t3 := Tryz.underlying3
  a3 := Tryz.isAgg3
  z3 := Tryz.sizeOf3
  v3 := Tryz.zeroValue3
  t4 := Tryz.underlying4
  a4 := Tryz.isAgg4
  z4 := Tryz.sizeOf4
  v4 := Tryz.zeroValue4
  t9 := Tryz.underlying9
  a9 := Tryz.isAgg9
  z9 := Tryz.sizeOf9
  v9 := Tryz.zeroValue9
  t20 := Tryz.underlying20
  a20 := Tryz.isAgg20
  z20 := Tryz.sizeOf20
  v20 := Tryz.zeroValue20
  t31 := Tryz.underlying65
  a31 := Tryz.isAgg65
  z31 := Tryz.sizeOf65
  v31 := Tryz.zeroValue65
  t37 := Tryz.underlying22
  a37 := Tryz.isAgg22
  z37 := Tryz.sizeOf22
  v37 := Tryz.zeroValue22
  t70 := Tryz.underlying109
  a70 := Tryz.isAgg109
  z70 := Tryz.sizeOf109
  v70 := Tryz.zeroValue109
  t72 := Tryz.underlying111
  a72 := Tryz.isAgg111
  z72 := Tryz.sizeOf111
  v72 := Tryz.zeroValue111
  t75 := Tryz.underlying103
  a75 := Tryz.isAgg103
  z75 := Tryz.sizeOf103
  v75 := Tryz.zeroValue103
  t76 := Tryz.underlying113
  a76 := Tryz.isAgg113
  z76 := Tryz.sizeOf113
  v76 := Tryz.zeroValue113
  t127 := Tryz.underlying129
  a127 := Tryz.isAgg129
  z127 := Tryz.sizeOf129
  v127 := Tryz.zeroValue129
  t164 := Tryz.underlying155
  a164 := Tryz.isAgg155
  z164 := Tryz.sizeOf155
  v164 := Tryz.zeroValue155
  t5 := Tryz.underlying5
  a5 := Tryz.isAgg5
  z5 := Tryz.sizeOf5
  v5 := Tryz.zeroValue5
  t80 := Tryz.underlying115
  a80 := Tryz.isAgg115
  z80 := Tryz.sizeOf115
  v80 := Tryz.zeroValue115
  i0 := by kernel_rfl
  i3 := by kernel_rfl
  i4 := by kernel_rfl
  i5 := by kernel_rfl
  i9 := by kernel_rfl
  i20 := by kernel_rfl
  i31 := by kernel_rfl
  i37 := by kernel_rfl
  i70 := by kernel_rfl
  i72 := by kernel_rfl
  i75 := by kernel_rfl
  i76 := by kernel_rfl
  i80 := by kernel_rfl
  i127 := by kernel_rfl
  i164 := by kernel_rfl }
def YtaajkmjilcamgaaGreatDoor.parseLay_ren : Go.Shelf.Ren := ⟨fun | 174 => 74 | 247 => 102 | 245 => 103 | 287 => 120 | 279 => 121 | 280 => 122 | 281 => 123 | 282 => 124 | 321 => 136 | 322 => 137 | 316 => 138 | 171 => 140 | 205 => 139 | 243 => 148 | 246 => 108 | 283 => 129 | 284 => 130 | 285 => 131 | 286 => 132 | 129 => 144 | 317 => 143 | 318 => 145 | 319 => 146 | 320 => 147 | 337 => 149 | 338 => 150 | n => n, fun | 9 => 9 | 3 => 3 | 2 => 2 | 75 => 103 | 85 => 104 | 4 => 4 | 167 => 142 | 5 => 5 | 53 => 96 | 175 => 143 | 46 => 121 | 168 => 145 | 37 => 22 | 0 => 0 | 210 => 162 | 21 => 21 | 127 => 129 | 145 => 176 | 143 => 174 | 171 => 150 | 173 => 153 | 212 => 166 | 51 => 133 | 20 => 20 | 213 => 167 | 232 => 178 | 233 => 179 | 80 => 115 | n => n, fun | 15 => 1 | 16 => 2 | 17 => 3 | 18 => 6 | 19 => 7 | n => n⟩
theorem YtaajkmjilcamgaaGreatDoor.parseLay : Go.Proofs.LaysC.n174 Tryz.prog YtaajkmjilcamgaaGreatDoor.parseLay_ren := {
  mixed := by kernel_rfl
  f129 := Tryz.func144.trans (congrArg some (by kernel_rfl))
  f171 := Tryz.func140.trans (congrArg some (by kernel_rfl))
  f174 := Tryz.func74.trans (congrArg some (by kernel_rfl))
  f205 := Tryz.func139.trans (congrArg some (by kernel_rfl))
  f243 := Tryz.func148.trans (congrArg some (by kernel_rfl))
  f245 := Tryz.func103.trans (congrArg some (by kernel_rfl))
  f246 := Tryz.func108.trans (congrArg some (by kernel_rfl))
  f247 := Tryz.func102.trans (congrArg some (by kernel_rfl))
  f279 := Tryz.func121.trans (congrArg some (by kernel_rfl))
  f280 := Tryz.func122.trans (congrArg some (by kernel_rfl))
  f281 := Tryz.func123.trans (congrArg some (by kernel_rfl))
  f282 := Tryz.func124.trans (congrArg some (by kernel_rfl))
  f283 := Tryz.func129.trans (congrArg some (by kernel_rfl))
  f284 := Tryz.func130.trans (congrArg some (by kernel_rfl))
  f285 := Tryz.func131.trans (congrArg some (by kernel_rfl))
  f286 := Tryz.func132.trans (congrArg some (by kernel_rfl))
  f287 := Tryz.func120.trans (congrArg some (by kernel_rfl))
  f316 := Tryz.func138.trans (congrArg some (by kernel_rfl))
  f317 := Tryz.func143.trans (congrArg some (by kernel_rfl))
  f318 := Tryz.func145.trans (congrArg some (by kernel_rfl))
  f319 := Tryz.func146.trans (congrArg some (by kernel_rfl))
  f320 := Tryz.func147.trans (congrArg some (by kernel_rfl))
  f321 := Tryz.func136.trans (congrArg some (by kernel_rfl))
  f322 := Tryz.func137.trans (congrArg some (by kernel_rfl))
  f337 := Tryz.func149.trans (congrArg some (by kernel_rfl))
  f338 := Tryz.func150.trans (congrArg some (by kernel_rfl))
  t0 := Tryz.underlying0
  a0 := Tryz.isAgg0
  z0 := Tryz.sizeOf0
  v0 := Tryz.zeroValue0
  t2 := Tryz.underlying2
  a2 := Tryz.isAgg2
  z2 := Tryz.sizeOf2
  v2 := Tryz.zeroValue2
  t3 := Tryz.underlying3
  a3 := Tryz.isAgg3
  z3 := Tryz.sizeOf3
  v3 := Tryz.zeroValue3
  t4 := Tryz.underlying4
  a4 := Tryz.isAgg4
  z4 := Tryz.sizeOf4
  v4 := Tryz.zeroValue4
  t5 := Tryz.underlying5
  a5 := Tryz.isAgg5
  z5 := Tryz.sizeOf5
  v5 := Tryz.zeroValue5
  t9 := Tryz.underlying9
  a9 := Tryz.isAgg9
  z9 := Tryz.sizeOf9
  v9 := Tryz.zeroValue9
  t20 := Tryz.underlying20
  a20 := Tryz.isAgg20
  z20 := Tryz.sizeOf20
  v20 := Tryz.zeroValue20
  t21 := Tryz.underlying21
  a21 := Tryz.isAgg21
  z21 := Tryz.sizeOf21
  v21 := Tryz.zeroValue21
  t37 := Tryz.underlying22
  a37 := Tryz.isAgg22
  z37 := Tryz.sizeOf22
  v37 := Tryz.zeroValue22
  t46 := Tryz.underlying121
  a46 := Tryz.isAgg121
  z46 := Tryz.sizeOf121
  v46 := Tryz.zeroValue121
  t51 := Tryz.underlying133
  a51 := Tryz.isAgg133
  z51 := Tryz.sizeOf133
  v51 := Tryz.zeroValue133
  t53 := Tryz.underlying96
  a53 := Tryz.isAgg96
  z53 := Tryz.sizeOf96
  v53 := Tryz.zeroValue96
  t75 := Tryz.underlying103
  a75 := Tryz.isAgg103
  z75 := Tryz.sizeOf103
  v75 := Tryz.zeroValue103
  t85 := Tryz.underlying104
  a85 := Tryz.isAgg104
  z85 := Tryz.sizeOf104
  v85 := Tryz.zeroValue104
  t127 := Tryz.underlying129
  a127 := Tryz.isAgg129
  z127 := Tryz.sizeOf129
  v127 := Tryz.zeroValue129
  t143 := Tryz.underlying174
  a143 := Tryz.isAgg174
  z143 := Tryz.sizeOf174
  v143 := Tryz.zeroValue174
  t145 := Tryz.underlying176
  a145 := Tryz.isAgg176
  z145 := Tryz.sizeOf176
  v145 := Tryz.zeroValue176
  t167 := Tryz.underlying142
  a167 := Tryz.isAgg142
  z167 := Tryz.sizeOf142
  v167 := Tryz.zeroValue142
  t168 := Tryz.underlying145
  a168 := Tryz.isAgg145
  z168 := Tryz.sizeOf145
  v168 := Tryz.zeroValue145
  t171 := Tryz.underlying150
  a171 := Tryz.isAgg150
  z171 := Tryz.sizeOf150
  v171 := Tryz.zeroValue150
  t173 := Tryz.underlying153
  a173 := Tryz.isAgg153
  z173 := Tryz.sizeOf153
  v173 := Tryz.zeroValue153
  t175 := Tryz.underlying143
  a175 := Tryz.isAgg143
  z175 := Tryz.sizeOf143
  v175 := Tryz.zeroValue143
  t210 := Tryz.underlying162
  a210 := Tryz.isAgg162
  z210 := Tryz.sizeOf162
  v210 := Tryz.zeroValue162
  t212 := Tryz.underlying166
  a212 := Tryz.isAgg166
  z212 := Tryz.sizeOf166
  v212 := Tryz.zeroValue166
  t213 := Tryz.underlying167
  a213 := Tryz.isAgg167
  z213 := Tryz.sizeOf167
  t232 := Tryz.underlying178
  a232 := Tryz.isAgg178
  z232 := Tryz.sizeOf178
  v232 := Tryz.zeroValue178
  t233 := Tryz.underlying179
  a233 := Tryz.isAgg179
  z233 := Tryz.sizeOf179
  v233 := Tryz.zeroValue179
  g15 := by kernel_rfl
  g16 := by kernel_rfl
  g17 := by kernel_rfl
  g18 := by kernel_rfl
  g19 := by kernel_rfl
  t80 := Tryz.underlying115
  a80 := Tryz.isAgg115
  z80 := Tryz.sizeOf115
  v80 := Tryz.zeroValue115
  i0 := by kernel_rfl
  i2 := by kernel_rfl
  i3 := by kernel_rfl
  i4 := by kernel_rfl
  i5 := by kernel_rfl
  i9 := by kernel_rfl
  i20 := by kernel_rfl
  i21 := by kernel_rfl
  i37 := by kernel_rfl
  i46 := by kernel_rfl
  i51 := by kernel_rfl
  i53 := by kernel_rfl
  i75 := by kernel_rfl
  i80 := by kernel_rfl
  i85 := by kernel_rfl
  i127 := by kernel_rfl
  i143 := by kernel_rfl
  i145 := by kernel_rfl
  i167 := by kernel_rfl
  i168 := by kernel_rfl
  i171 := by kernel_rfl
  i173 := by kernel_rfl
  i175 := by kernel_rfl
  i210 := by kernel_rfl
  i212 := by kernel_rfl
  i232 := by kernel_rfl
  i233 := by kernel_rfl
  m15 := by kernel_rfl
  m16 := by kernel_rfl
  m17 := by kernel_rfl
  m18 := by kernel_rfl
  m19 := by kernel_rfl
  c0 := by kernel_rfl
  c2 := by kernel_rfl
  c3 := by kernel_rfl
  c4 := by kernel_rfl
  c5 := by kernel_rfl
  c9 := by kernel_rfl
  c20 := by kernel_rfl
  c21 := by kernel_rfl
  c37 := by kernel_rfl
  c46 := by kernel_rfl
  c51 := by kernel_rfl
  c53 := by kernel_rfl
  c75 := by kernel_rfl
  c80 := by kernel_rfl
  c85 := by kernel_rfl
  c127 := by kernel_rfl
  c143 := by kernel_rfl
  c145 := by kernel_rfl
  c167 := by kernel_rfl
  c168 := by kernel_rfl
  c171 := by kernel_rfl
  c173 := by kernel_rfl
  c175 := by kernel_rfl
  c210 := by kernel_rfl
  c212 := by kernel_rfl
  c213 := by kernel_rfl
  c232 := by kernel_rfl
  c233 := by kernel_rfl }
end Go.Proofs
namespace Go.Proofs.YtaajkmjilcamgaaGreatDoor
open Go.RowKit
/-- What the texts' functions ask of the world: a table, a limit, an error. -/
structure TxtW (w : World) : Prop where
  tab : TabW w
  maxl : ∃ m, w.cell? ⟨0, 0, none⟩ = some (.int .i64 m)
  syn : ∃ te pe, w.cell? ⟨1, 0, none⟩ = some (.iface te pe)
theorem TxtW.below {w w' : World} (h : TxtW w) (b : Below w.heap.size w w') : TxtW w' := by
  obtain ⟨h1, ⟨m, h2⟩, te, pe, h3⟩ := h
  exact ⟨h1.below b, ⟨m, (b.cell (p := ⟨_, 0, none⟩) (World.block_lt_of_cell? _ _ h2)).trans h2⟩, te, pe, (b.cell (p := ⟨_, 0, none⟩) (World.block_lt_of_cell? _ _ h3)).trans h3⟩
def numB (s : ByteArray) : Option Int := numOf s.data.toList
theorem noSign_trim (l : List UInt8) : Lib.trimPrefix l [45] = noSign l := by
  unfold Lib.trimPrefix Lib.hasPrefix noSign
  cases l with
  | nil => rfl
  | cons b t =>
    by_cases h : b = 45
    · subst h; simp
    · rw [if_neg (by simpa using fun e => h e.symm), if_neg (by simpa using h)]
theorem noSign_len (l : List UInt8) : l.length ≤ (noSign l).length + 1 := by
  unfold noSign
  split
  · rw [List.length_tail]; omega
  · omega
theorem bytesW_below (w : World) (e : TypeId) (t : ByteArray) : Below w.heap.size w (Lib.bytesWorld w e t) := Lib.bytesWorld_below w e t
set_option maxRecDepth 100000 in
set_option maxHeartbeats 4000000 in
theorem readDec_any (s : ByteArray) (w : World) (hs : s.size ≤ 1000000000) (ht : TxtW w) :
    Calls Tryz.prog 40 #[.string s] w fun e w' => e = .returned (.tuple #[.int .i64 ((numB s).getD 0), .bool (numB s).isSome]) ∧ Below w.heap.size w w' := by
  have hlen : s.size = s.data.toList.length := Lib.size_eq s
  have hns := noSign_len s.data.toList
  have hT : Hid (Calls Tryz.prog 73 #[.string s, .string ⟨#[45]⟩] w fun e w' => e = .returned (.string ⟨(noSign s.data.toList).toArray⟩) ∧ w' = w) := by
    have h := Go.Proofs.Any.strings_TrimPrefix { YtaajkmjilcamgaaGreatDoor.trimPLay with } s ⟨#[45]⟩ w
    rw [show ((⟨#[45]⟩ : ByteArray).data.toList) = [45] from rfl, noSign_trim] at h
    exact h
  have hz : (⟨(noSign s.data.toList).toArray⟩ : ByteArray).size = (noSign s.data.toList).length := by simp [ByteArray.size]
  by_cases h19 : s.size ≤ 19
  case neg =>
    have hn : numB s = none := numOf_long (by omega)
    have hD : decide ((19 : Int) < (s.size : Int)) = true := decide_eq_true (by omega)
    rw [hn]
    clear hlen hns hT hz hn
    go_enter Tryz.func40, Tryz.ntmps40
    go_wp2_with fail
    go_ret2
    exact ⟨rfl, Below.refl _ _⟩
  have hD : decide ((19 : Int) < (s.size : Int)) = false := decide_eq_false (by omega)
  by_cases h18 : (noSign s.data.toList).length ≤ 18
  case neg =>
    have hn : numB s = none := numOf_long (by omega)
    rw [hn]
    clear hlen hns hn
    generalize (⟨(noSign s.data.toList).toArray⟩ : ByteArray) = q at *
    have hD2 : decide ((18 : Int) < (q.size : Int)) = true := decide_eq_true (by omega)
    clear hz h18
    go_enter Tryz.func40, Tryz.ntmps40
    go_wp2_with (go_at_call 73; refine (hT.out).mono ?_; rintro e w' ⟨rfl, rfl⟩)
    go_ret2
    exact ⟨rfl, Below.refl _ _⟩
  have hR := parse_range h18
  have HN := hide fun (v : Int) (hp : Lib.parseIntB 64 s.data.toList = .ok v) => (⟨fun (e : Lib.itoa v = s.data.toList) => (by
    have e2 := noSign_itoa v
    rw [e] at e2
    rw [show numB s = numOf s.data.toList from rfl, ← e]
    exact numOf_itoa (decDigits_big (by rw [← e2]; exact h18)) : numB s = some v), fun (e : Lib.itoa v ≠ s.data.toList) => (by
    cases hn : numB s with
    | none => rfl
    | some n =>
      exfalso
      have h1 := parse_of hn
      rw [h1] at hp
      cases hp
      exact e (numOf_some hn).1 : numB s = none)⟩ : _ ∧ _)
  have HSY := hide fun (hp : ∀ v, Lib.parseIntB 64 s.data.toList ≠ .ok v) => (by
    cases hn : numB s with
    | none => rfl
    | some n => exact absurd (parse_of hn) (hp n) : numB s = none)
  obtain ⟨te, pe, hsy⟩ := ht.syn
  have HTB := hide ht.tab
  generalize hq : (⟨(noSign s.data.toList).toArray⟩ : ByteArray) = q at *
  have hD2 : decide ((18 : Int) < (q.size : Int)) = false := decide_eq_false (by omega)
  clear hz h18 hns hq
  rcases hp : Lib.parseIntB 64 s.data.toList with v | _ | _
  rotate_left 2
  · exact absurd hp hR
  rotate_left 1
  · rw [HSY.out (fun v e => by rw [hp] at e; cases e)]
    have HP := hide (show Calls Tryz.prog 74 #[.string s, .int .i64 10, .int .i64 64] w fun e w' => ∃ N, e = .returned (.tuple #[.int .i64 0, .iface 145 (.pointer (some ⟨N, 0, none⟩))]) ∧ Below w.heap.size w w' from
      (Go.Proofs.Any.strconv_ParseInt_10_at64_syntax { YtaajkmjilcamgaaGreatDoor.parseLay with } s (by omega) hp _ w hsy (.inr ⟨te, pe, rfl⟩)).mono fun e w' ⟨N, he, _, _, b⟩ => ⟨N, he, b⟩)
    clear HN HSY hp hR hsy hlen
    go_enter Tryz.func40, Tryz.ntmps40
    go_wp2_with (first | (go_at_call 73; refine (hT.out).mono ?_; rintro e w' ⟨rfl, rfl⟩) | (go_at_call 74; (with_reducible refine (HP.out).mono ?_); rintro e w1 ⟨N1, rfl, b1⟩))
    go_ret2
    exact ⟨rfl, b1⟩
  · have hb := Lib.parseIntB_bounds hp
    have HP := hide (show Calls Tryz.prog 74 #[.string s, .int .i64 10, .int .i64 64] w fun e w' => e = .returned (.tuple #[.int .i64 v, .nilIface]) ∧ Below w.heap.size w w' from
      (Go.Proofs.Any.strconv_ParseInt_10_at64_ok { YtaajkmjilcamgaaGreatDoor.parseLay with } s (by omega) v hp w).mono fun e w' ⟨he, hw⟩ => ⟨he, by
        rcases hw with rfl | ⟨t, rfl⟩
        · exact Below.refl _ _
        · exact bytesW_below _ _ _⟩)
    have HN2 := hide (HN.out v hp)
    have HD := hide fun W (hW : Below w.heap.size w W) => decimal_any v W (by have := hb.1; simp at this; omega) (by have := hb.2; simp at this; omega) (HTB.out.below hW)
    clear HN HSY hp hR hsy hb
    by_cases he : decB v = s
    · have hi : Lib.itoa v = s.data.toList := by rw [← he]; rfl
      rw [HN2.out.1 hi]
      have hB : ((decB v).toList == s.toList) = true := by simp [he]
      have HE := hide he
      clear he hi HN2 hlen
      generalize decB v = dv at *
      go_enter Tryz.func40, Tryz.ntmps40
      go_wp2_with (first | (go_at_call 73; refine (hT.out).mono ?_; rintro e w' ⟨rfl, rfl⟩) | (go_at_call 74; (with_reducible refine (HP.out).mono ?_); rintro e w1 ⟨rfl, b1⟩) | (go_at_call 44; (with_reducible refine (HD.out _ b1).mono ?_); rintro e w2 ⟨rfl, b2⟩))
      go_ret2
      exact ⟨rfl, b1.trans (b2.mono b1.size)⟩
    · have hi : Lib.itoa v ≠ s.data.toList := fun e => he (by unfold decB; rw [e])
      rw [HN2.out.2 hi]
      have hB : ((decB v).toList == s.toList) = false := by
        rw [beq_eq_false_iff_ne, Lib.toList_data, Lib.toList_data]
        exact hi
      have HE := hide he
      clear he hi HN2 hlen
      generalize decB v = dv at *
      go_enter Tryz.func40, Tryz.ntmps40
      go_wp2_with (first | (go_at_call 73; refine (hT.out).mono ?_; rintro e w' ⟨rfl, rfl⟩) | (go_at_call 74; (with_reducible refine (HP.out).mono ?_); rintro e w1 ⟨rfl, b1⟩) | (go_at_call 44; (with_reducible refine (HD.out _ b1).mono ?_); rintro e w2 ⟨rfl, b2⟩))
      go_ret2
      exact ⟨rfl, b1.trans (b2.mono b1.size)⟩
end Go.Proofs.YtaajkmjilcamgaaGreatDoor
namespace Go.Proofs.YtaajkmjilcamgaaGreatDoor
open Go.RowKit

end Go.Proofs.YtaajkmjilcamgaaGreatDoor
namespace Go.Proofs.YtaajkmjilcamgaaGreatDoor
open Go.RowKit

structure TN where
  way : List Int
  p : Int
  q : Int
def TN.Fits (x : TN) : Prop := (∀ z ∈ x.way, -9223372036854775808 ≤ z ∧ z ≤ 9223372036854775807) ∧ (-9223372036854775808 ≤ x.p ∧ x.p ≤ 9223372036854775807) ∧ (-9223372036854775808 ≤ x.q ∧ x.q ≤ 9223372036854775807)
/-- The cells of an element: its slice's value, and m numbers. -/
def Nc (m : Nat) (x : Value × TN) : List Value := x.1 :: [Value.int .i64 x.2.p, .int .i64 x.2.q].take m
theorem Nc_len {m : Nat} (hm : m ≤ 2) (x : Value × TN) : (Nc m x).length = m + 1 := by simp [Nc]; omega
def WayAt (w : World) (B : Nat) (p : Value × TN) : Prop := ∃ A c, p.1 = .slice A p.2.way.length c ∧ RdI w B A p.2.way
def RN (m : Nat) (w : World) (B : Nat) (A : Option Addr) (x : List TN) : Prop := ∃ ps : List (Value × TN), ps.map (·.2) = x ∧ Rd w B A (ps.flatMap (Nc m)) ∧ ∀ p ∈ ps, WayAt w B p
section
variable {m : Nat} {w w' : World} {B B' : Nat} {A : Option Addr} {x : List TN}
theorem RN.nil (m : Nat) (w : World) (B : Nat) (A : Option Addr) : RN m w B A [] := ⟨[], rfl, Rd.nil _ _ _, fun p hp => by cases hp⟩
theorem RN.below (h : RN m w B A x) (k : Below B w w') : RN m w' B A x := by
  obtain ⟨ps, h1, h2, h3⟩ := h
  refine ⟨ps, h1, h2.below k, fun p hp => ?_⟩
  obtain ⟨A', c, e, r⟩ := h3 p hp
  exact ⟨A', c, e, r.below k⟩
theorem RN.more (h : RN m w B A x) (k : B ≤ B') : RN m w B' A x := by
  obtain ⟨ps, h1, h2, h3⟩ := h
  refine ⟨ps, h1, h2.more k, fun p hp => ?_⟩
  obtain ⟨A', c, e, r⟩ := h3 p hp
  exact ⟨A', c, e, r.more k⟩
theorem RN.at_ (hm : m ≤ 2) (h : RN m w B A x) {k : Nat} (hk : k < x.length) : ∃ b o e Aw cw, A = some ⟨b, o, none⟩ ∧ b < B ∧ x[k]? = some e ∧ RdI w B Aw e.way ∧ w.cell? ⟨b, o + k * (m + 1), none⟩ = some (.slice Aw e.way.length cw) ∧
    (1 ≤ m → w.cell? ⟨b, o + k * (m + 1) + 1, none⟩ = some (.int .i64 e.p)) ∧ (2 ≤ m → w.cell? ⟨b, o + k * (m + 1) + 2, none⟩ = some (.int .i64 e.q)) := by
  obtain ⟨ps, h1, h2, h3⟩ := h
  have hl : ps.length = x.length := by rw [← h1]; simp
  obtain ⟨b, o, p, hA, hb, hp, hc⟩ := Rd.elem (Nc m) (m + 1) (Nc_len hm) h2 (by omega) (k := k) (by omega)
  obtain ⟨Aw, cw, he, hr⟩ := h3 p (List.mem_of_getElem? hp)
  refine ⟨b, o, p.2, Aw, cw, hA, hb, by rw [← h1, List.getElem?_map, hp]; rfl, hr, ?_, fun h => ?_, fun h => ?_⟩
  · have := hc 0 (by omega); rw [Nat.add_zero] at this; rw [this, ← he]; rfl
  · have := hc 1 (by omega)
    rw [this]
    match m, h, hm with
    | 1, _, _ => rfl
    | 2, _, _ => rfl
  · have := hc 2 (by omega)
    rw [this]
    obtain rfl : m = 2 := by omega
    rfl
end
def SmallN (x : List TN) : Prop := x.length + (x.map fun e => e.way.length).sum ≤ 1048576
theorem sum_get {x : List TN} : ∀ {k : Nat} {e : TN}, x[k]? = some e → e.way.length ≤ (x.map fun e => e.way.length).sum := by
  induction x with
  | nil => intro k e h; simp at h
  | cons a x ih =>
    intro k e h
    rw [List.map_cons, List.sum_cons]
    cases k with
    | zero => simp at h; subst h; omega
    | succ k => have := ih (k := k) (by simpa using h); omega
theorem SmallN.way {x : List TN} (h : SmallN x) {k : Nat} {e : TN} (he : x[k]? = some e) : e.way.length ≤ 1048576 := by
  have := sum_get he; unfold SmallN at h; omega
theorem Only.wider {lo hi lo' hi' : Nat} {w w' : World} (h : Only lo hi w w') (h1 : lo' ≤ lo) (h2 : hi ≤ hi') : Only lo' hi' w w' :=
  ⟨h.1, h.2.1, h.2.2.1, h.2.2.2.1, fun k hk ho => h.2.2.2.2 k hk (by omega)⟩
theorem OwnV.tight {e : TypeId} {s : Nat} {w : World} {lo hi g : Nat} {v : Value} {n : Nat} {xs : List Value} (h : OwnV e s w lo hi v n xs) (hg : v.ownBlock = some g) : OwnV e s w g (g + 1) v n xs := by
  refine ⟨h.1, h.2.1, ?_⟩
  rcases h.2.2 with h0 | ⟨ho, hlt⟩
  · exact .inl h0
  · refine .inr ⟨⟨ho.1, ?_⟩, fun g' hg' => by rw [hg] at hg'; cases hg'; omega⟩
    rcases ho.2 with h0 | ⟨g', cap, cur, rfl, hb, hgg, rest⟩
    · exact .inl h0
    · simp [Value.ownBlock] at hg
      subst hg
      exact .inr ⟨g', cap, cur, rfl, Nat.le_refl _, hgg, rest⟩
/-- The elements' lists are rows of the call's own, one behind the other, none in the block. -/
def FamO (w : World) (blk : Option Nat) : Nat → Nat → List (Value × TN) → Prop
  | _, _, [] => True
  | lo, hi, p :: ps => ∃ a b, lo ≤ a ∧ a ≤ b ∧ b ≤ hi ∧ (∀ g, blk = some g → b ≤ g ∨ g < a) ∧ O_Int64S w a b p.1 p.2.way ∧ FamO w blk b hi ps
theorem FamO.kept {w w' : World} {blk : Option Nat} {lo' hi' hi : Nat} (k : Only lo' hi' w w') : ∀ {ps : List (Value × TN)} {lo : Nat}, FamO w blk lo hi ps → (hi ≤ lo' ∨ hi' ≤ lo) → FamO w' blk lo hi ps := by
  intro ps
  induction ps with
  | nil => intro lo _ _; trivial
  | cons p ps ih =>
    intro lo h hd
    obtain ⟨a, b, h1, h2, h3, h4, h5, h6⟩ := h
    exact ⟨a, b, h1, h2, h3, h4, h5.kept k (by omega), ih h6 (by omega)⟩
theorem FamO.keptB {w w' : World} {g hi : Nat} (k : Only g (g + 1) w w') : ∀ {ps : List (Value × TN)} {lo : Nat}, FamO w (some g) lo hi ps → FamO w' (some g) lo hi ps := by
  intro ps
  induction ps with
  | nil => intro lo _; trivial
  | cons p ps ih =>
    intro lo h
    obtain ⟨a, b, h1, h2, h3, h4, h5, h6⟩ := h
    exact ⟨a, b, h1, h2, h3, h4, h5.kept k (by have := h4 g rfl; omega), ih h6⟩
theorem FamO.below {w w' : World} {blk : Option Nat} {B hi : Nat} (k : Below B w w') (hB : hi ≤ B) : ∀ {ps : List (Value × TN)} {lo : Nat}, FamO w blk lo hi ps → FamO w' blk lo hi ps := by
  intro ps
  induction ps with
  | nil => intro lo _; trivial
  | cons p ps ih =>
    intro lo h
    obtain ⟨a, b, h1, h2, h3, h4, h5, h6⟩ := h
    exact ⟨a, b, h1, h2, h3, h4, h5.below k (by omega), ih h6⟩
theorem FamO.widen {w : World} {blk : Option Nat} {hi hi' : Nat} (k2 : hi ≤ hi') : ∀ {ps : List (Value × TN)} {lo lo' : Nat}, FamO w blk lo hi ps → lo' ≤ lo → FamO w blk lo' hi' ps := by
  intro ps
  induction ps with
  | nil => intro lo lo' _ _; trivial
  | cons p ps ih =>
    intro lo lo' h k1
    obtain ⟨a, b, h1, h2, h3, h4, h5, h6⟩ := h
    exact ⟨a, b, by omega, h2, by omega, h4, h5, ih h6 (Nat.le_refl _)⟩
theorem FamO.blk {w : World} {blk blk' : Option Nat} {hi : Nat} : ∀ {ps : List (Value × TN)} {lo : Nat}, FamO w blk lo hi ps → (∀ g, blk' = some g → hi ≤ g ∨ g < lo) → FamO w blk' lo hi ps := by
  intro ps
  induction ps with
  | nil => intro lo _ _; trivial
  | cons p ps ih =>
    intro lo h k
    obtain ⟨a, b, h1, h2, h3, h4, h5, h6⟩ := h
    exact ⟨a, b, h1, h2, h3, fun g hg => by have := k g hg; omega, h5, ih h6 fun g hg => by have := k g hg; omega⟩
theorem FamO.snoc {w : World} {blk : Option Nat} {mid a b hi : Nat} {p : Value × TN} (h1 : mid ≤ a) (h2 : a ≤ b) (h3 : b ≤ hi) (h4 : ∀ g, blk = some g → b ≤ g ∨ g < a) (h5 : O_Int64S w a b p.1 p.2.way) : ∀ {ps : List (Value × TN)} {lo : Nat}, lo ≤ mid → FamO w blk lo mid ps → FamO w blk lo hi (ps ++ [p]) := by
  intro ps
  induction ps with
  | nil => intro lo hl _; exact ⟨a, b, by omega, h2, h3, h4, h5, trivial⟩
  | cons p' ps ih =>
    intro lo hl h
    obtain ⟨a', b', k1, k2, k3, k4, k5, k6⟩ := h
    exact ⟨a', b', k1, k2, by omega, k4, k5, ih k3 k6⟩
theorem FamO.way {w : World} {blk : Option Nat} {hi : Nat} : ∀ {ps : List (Value × TN)} {lo : Nat}, FamO w blk lo hi ps → ∀ p ∈ ps, WayAt w w.heap.size p := by
  intro ps
  induction ps with
  | nil => intro lo _ p hp; cases hp
  | cons p ps ih =>
    intro lo h
    obtain ⟨a, b, h1, h2, h3, h4, h5, h6⟩ := h
    intro p' hp
    rcases List.mem_cons.1 hp with rfl | hp
    · exact h5.r
    · exact ih h6 p' hp
theorem FamO.at_ {w : World} {blk : Option Nat} {hi : Nat} : ∀ {ps : List (Value × TN)} {lo k : Nat} {p : Value × TN}, FamO w blk lo hi ps → ps[k]? = some p → ∃ a b, lo ≤ a ∧ a ≤ b ∧ b ≤ hi ∧ (∀ g, blk = some g → b ≤ g ∨ g < a) ∧ O_Int64S w a b p.1 p.2.way := by
  intro ps
  induction ps with
  | nil => intro lo k p _ h; simp at h
  | cons p' ps ih =>
    intro lo k p h hp
    obtain ⟨a, b, h1, h2, h3, h4, h5, h6⟩ := h
    cases k with
    | zero => simp at hp; subst hp; exact ⟨a, b, h1, h2, h3, h4, h5⟩
    | succ k =>
      obtain ⟨a', b', k1, k2, k3, k4, k5⟩ := ih h6 (k := k) (p := p) (by simpa using hp)
      exact ⟨a', b', by omega, k2, k3, k4, k5⟩
/-- A list of elements, all of it the call's own. -/
def ON (T : TypeId) (m : Nat) (w : World) (lo hi : Nat) (v : Value) (x : List TN) : Prop :=
  ∃ ps : List (Value × TN), ps.map (·.2) = x ∧ OwnV T (m + 1) w lo hi v x.length (ps.flatMap (Nc m)) ∧ FamO w v.ownBlock lo hi ps ∧ SmallN x
section
variable {T : TypeId} {m : Nat} {w w' : World} {lo hi lo' hi' B : Nat} {v : Value} {x : List TN}
theorem ON.small (h : ON T m w lo hi v x) : SmallN x := by obtain ⟨_, _, _, _, h⟩ := h; exact h
theorem ON.kept (h : ON T m w lo hi v x) (k : Only lo' hi' w w') (hd : hi ≤ lo' ∨ hi' ≤ lo) : ON T m w' lo hi v x := by
  obtain ⟨ps, h1, h2, h3, h4⟩ := h
  exact ⟨ps, h1, h2.kept k hd, h3.kept k hd, h4⟩
theorem ON.below (h : ON T m w lo hi v x) (k : Below B w w') (hd : hi ≤ B) : ON T m w' lo hi v x := by
  obtain ⟨ps, h1, h2, h3, h4⟩ := h
  exact ⟨ps, h1, h2.below k hd, h3.below k hd, h4⟩
theorem ON.widen (h : ON T m w lo hi v x) (h1 : lo' ≤ lo) (h2 : hi ≤ hi') : ON T m w lo' hi' v x := by
  obtain ⟨ps, k1, k2, k3, k4⟩ := h
  exact ⟨ps, k1, k2.widen h1 h2, k3.widen h2 h1, k4⟩
theorem ON.nil (T : TypeId) (m : Nat) (w : World) (lo hi : Nat) (A : Option Addr) (c : Nat) : ON T m w lo hi (.slice A 0 c) [] := ⟨[], rfl, OwnV.nil _ _ _ _ _ _ _, trivial, by unfold SmallN; simp⟩
theorem ON.r (h : ON T m w lo hi v x) : ∃ A c, v = .slice A x.length c ∧ RN m w w.heap.size A x := by
  obtain ⟨ps, h1, h2, h3, _⟩ := h
  obtain ⟨A, c, rfl, r⟩ := h2.rd
  exact ⟨A, c, rfl, ps, h1, r, h3.way⟩
end
/-- What the marks make of the elements, and how many marks there are. -/
def mkN (m : Nat) : List TN → Int → List TN
  | [], _ => []
  | e :: es, k => ⟨mark_Int64S e.way k, if 1 ≤ m then k + e.way.length else e.p, if 2 ≤ m then k + e.way.length + 1 else e.q⟩ :: mkN m es (k + e.way.length + m)
def cntN (m : Nat) : List TN → Int
  | [] => 0
  | e :: es => e.way.length + m + cntN m es
theorem mkN_len (m : Nat) : ∀ (x : List TN) (k : Int), (mkN m x k).length = x.length := by
  intro x
  induction x with
  | nil => intro k; rfl
  | cons e es ih => intro k; rw [mkN, List.length_cons, List.length_cons, ih]
theorem mkN_sum (m : Nat) : ∀ (x : List TN) (k : Int), ((mkN m x k).map fun e => e.way.length) = x.map fun e => e.way.length := by
  intro x
  induction x with
  | nil => intro k; rfl
  | cons e es ih => intro k; rw [mkN, List.map_cons, List.map_cons, ih]; simp [mark_Int64S, marks_len]
theorem mkN_small {m : Nat} {x : List TN} {k : Int} (h : SmallN x) : SmallN (mkN m x k) := by unfold SmallN at *; rw [mkN_len, mkN_sum]; exact h
theorem mkN_append (m : Nat) : ∀ (x y : List TN) (k : Int), mkN m (x ++ y) k = mkN m x k ++ mkN m y (k + cntN m x) := by
  intro x
  induction x with
  | nil => intro y k; simp [mkN, cntN]
  | cons e es ih => intro y k; rw [List.cons_append, mkN, mkN, cntN, ih, List.cons_append]; congr 3; omega
theorem cntN_append (m : Nat) : ∀ (x y : List TN), cntN m (x ++ y) = cntN m x + cntN m y := by
  intro x
  induction x with
  | nil => intro y; simp [cntN]
  | cons e es ih => intro y; rw [List.cons_append, cntN, cntN, ih]; omega
theorem cntN_bd (m : Nat) (hm : m ≤ 2) : ∀ (x : List TN), 0 ≤ cntN m x ∧ cntN m x ≤ (x.map fun e => e.way.length).sum + 2 * (x.length : Int) := by
  intro x
  induction x with
  | nil => simp [cntN]
  | cons e es ih => rw [cntN, List.map_cons, List.sum_cons, List.length_cons]; omega
theorem mkN_get (m : Nat) : ∀ {x : List TN} {j : Nat} {e : TN} (k : Int), x[j]? = some e → (mkN m x k)[j]? = some ⟨mark_Int64S e.way (k + cntN m (x.take j)), if 1 ≤ m then k + cntN m (x.take j) + e.way.length else e.p, if 2 ≤ m then k + cntN m (x.take j) + e.way.length + 1 else e.q⟩ := by
  intro x
  induction x with
  | nil => intro j e k h; simp at h
  | cons a x ih =>
    intro j e k h
    cases j with
    | zero => simp at h; subst h; simp [mkN, cntN]
    | succ j =>
      rw [mkN, List.getElem?_cons_succ, ih _ (by simpa using h), List.take_succ_cons, cntN]
      rw [show k + a.way.length + m + cntN m (x.take j) = k + (a.way.length + m + cntN m (x.take j)) by omega]
theorem cntN_take {m : Nat} {x : List TN} {j : Nat} {e : TN} (h : x[j]? = some e) : cntN m (x.take (j + 1)) = cntN m (x.take j) + (e.way.length + m) := by
  obtain ⟨hl, he⟩ := List.getElem?_eq_some_iff.1 h
  rw [List.take_succ_eq_append_getElem hl, he, cntN_append, cntN, cntN]; omega
end Go.Proofs.YtaajkmjilcamgaaGreatDoor
