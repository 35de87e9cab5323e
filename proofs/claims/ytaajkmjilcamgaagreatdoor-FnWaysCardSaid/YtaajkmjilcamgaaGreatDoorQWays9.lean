/-
  The kit's contracts of strings' Cut, Split, SplitN, TrimPrefix, TrimSuffix, Join and of strconv.ParseInt, laid (plain text as the kit's own lay-plain writes it; numbers by names).
  Numbers read from texts: the program's, by the kit's contracts of strings.TrimPrefix and strconv.ParseInt.
  Words of letters. Plain lemmas.
  Distances of two words, and words, in both packages.
  Lists of texts; addresses are valid, in both packages.
  Addresses are valid, in both packages.
  Distances of two words; the least distance of words, in both packages.
  The program's least distance; LeastDistance and CorrectsAll in both packages.
  LeastDistance and CorrectsAll in both packages.
-/
import Derived.Shelf.Strings.Cut
import Derived.Shelf.Strings.Split
import Derived.Shelf.Strings.Prefix
import Derived.Shelf.Strings.OnBuilder
import Derived.Shelf.Strconv.ParseIntPublic10
import Derived.Shelf.Vars
import Derived.Shelf.LaysM
import Derived.Shelf.LaysC
import Derived.Ground.Names2Prog
import Derived.Test.YtaajkmjilcamgaaGreatDoorProg
import Derived.Test.YtaajkmjilcamgaaGreatDoorQWays8
import Derived.Test.YtaajkmjilcamgaaGreatDoorQWays1
import Derived.Test.YtaajkmjilcamgaaGreatDoorQWays0
import Derived.Test.YtaajkmjilcamgaaGreatDoorQWays3
import Derived.BigQuiet
import Derived.Deep.DeepCutAuto
import Derived.Test.YtaajkmjilcamgaaGreatDoorQWays5
import Derived.StillTailTactics
namespace Go.Proofs
open Go.Shelf
def YtaajkmjilcamgaaGreatDoor.cutLay_ren : Go.Shelf.Ren := ⟨fun | 145 => 42 | 220 => 76 | 219 => 105 | 217 => 125 | 225 => 126 | 224 => 127 | 267 => 128 | 266 => 141 | 314 => 142 | n => n, fun | 9 => 9 | 4 => 4 | 59 => 70 | 3 => 3 | 5 => 5 | 46 => 121 | 146 => 134 | 51 => 133 | n => n, fun | 1 => 0 | n => n⟩
theorem YtaajkmjilcamgaaGreatDoor.cutLay : Go.Proofs.LaysM.n145 Tryz.prog YtaajkmjilcamgaaGreatDoor.cutLay_ren := {
  mixed := by kernel_rfl
  f145 := Tryz.func42.trans (congrArg some (by kernel_rfl))
  f217 := Tryz.func125.trans (congrArg some (by kernel_rfl))
  f219 := Tryz.func105.trans (congrArg some (by kernel_rfl))
  f220 := Tryz.func76.trans (congrArg some (by kernel_rfl))
  f224 := Tryz.func127.trans (congrArg some (by kernel_rfl))
  f225 := Tryz.func126.trans (congrArg some (by kernel_rfl))
  f266 := Tryz.func141.trans (congrArg some (by kernel_rfl))
  f267 := Tryz.func128.trans (congrArg some (by kernel_rfl))
  f314 := Tryz.func142.trans (congrArg some (by kernel_rfl))
  t3 := Tryz.underlying3
  a3 := Tryz.isAgg3
  z3 := Tryz.sizeOf3
  v3 := Tryz.zeroValue3
  t4 := Tryz.underlying4
  a4 := Tryz.isAgg4
  z4 := Tryz.sizeOf4
  v4 := Tryz.zeroValue4
  t5 := Tryz.underlying5
  a5 := Tryz.isAgg5
  z5 := Tryz.sizeOf5
  v5 := Tryz.zeroValue5
  t9 := Tryz.underlying9
  a9 := Tryz.isAgg9
  z9 := Tryz.sizeOf9
  v9 := Tryz.zeroValue9
  t46 := Tryz.underlying121
  a46 := Tryz.isAgg121
  z46 := Tryz.sizeOf121
  v46 := Tryz.zeroValue121
  t51 := Tryz.underlying133
  a51 := Tryz.isAgg133
  z51 := Tryz.sizeOf133
  v51 := Tryz.zeroValue133
  t59 := Tryz.underlying70
  a59 := Tryz.isAgg70
  z59 := Tryz.sizeOf70
  v59 := Tryz.zeroValue70
  t146 := Tryz.underlying134
  a146 := Tryz.isAgg134
  z146 := Tryz.sizeOf134
  v146 := Tryz.zeroValue134
  g1 := by kernel_rfl
  i3 := by kernel_rfl
  i4 := by kernel_rfl
  i5 := by kernel_rfl
  i9 := by kernel_rfl
  i46 := by kernel_rfl
  i51 := by kernel_rfl
  i59 := by kernel_rfl
  i146 := by kernel_rfl
  m1 := by kernel_rfl
  s1_3 := fun w h => Go.Proofs.cell_of_shapedOpen_int (zero := #[.int .i64 0]) (t := 3) h (of_decide_eq_true (by kernel_rfl)) (by kernel_rfl) rfl (by kernel_rfl) (by kernel_rfl) Tryz.underlying3 }
def YtaajkmjilcamgaaGreatDoor.splitLay_ren : Go.Shelf.Ren := ⟨fun | 146 => 60 | 221 => 72 | 268 => 98 | 138 => 99 | 143 => 100 | 195 => 116 | 197 => 117 | 218 => 118 | 219 => 105 | 260 => 135 | 217 => 125 | 225 => 126 | 224 => 127 | 267 => 128 | 266 => 141 | 314 => 142 | n => n, fun | 9 => 9 | 31 => 65 | 3 => 3 | 4 => 4 | 0 => 0 | 105 => 139 | 21 => 21 | 5 => 5 | 46 => 121 | 119 => 170 | 139 => 173 | 138 => 172 | 146 => 134 | 51 => 133 | n => n, fun | 1 => 0 | 3 => 4 | 4 => 5 | n => n⟩
theorem YtaajkmjilcamgaaGreatDoor.splitLay : Go.Proofs.LaysM.n146 Tryz.prog YtaajkmjilcamgaaGreatDoor.splitLay_ren := {
  mixed := by kernel_rfl
  f138 := Tryz.func99.trans (congrArg some (by kernel_rfl))
  f143 := Tryz.func100.trans (congrArg some (by kernel_rfl))
  f146 := Tryz.func60.trans (congrArg some (by kernel_rfl))
  f195 := Tryz.func116.trans (congrArg some (by kernel_rfl))
  f197 := Tryz.func117.trans (congrArg some (by kernel_rfl))
  f217 := Tryz.func125.trans (congrArg some (by kernel_rfl))
  f218 := Tryz.func118.trans (congrArg some (by kernel_rfl))
  f219 := Tryz.func105.trans (congrArg some (by kernel_rfl))
  f221 := Tryz.func72.trans (congrArg some (by kernel_rfl))
  f224 := Tryz.func127.trans (congrArg some (by kernel_rfl))
  f225 := Tryz.func126.trans (congrArg some (by kernel_rfl))
  f260 := Tryz.func135.trans (congrArg some (by kernel_rfl))
  f266 := Tryz.func141.trans (congrArg some (by kernel_rfl))
  f267 := Tryz.func128.trans (congrArg some (by kernel_rfl))
  f268 := Tryz.func98.trans (congrArg some (by kernel_rfl))
  f314 := Tryz.func142.trans (congrArg some (by kernel_rfl))
  t0 := Tryz.underlying0
  a0 := Tryz.isAgg0
  z0 := Tryz.sizeOf0
  v0 := Tryz.zeroValue0
  t3 := Tryz.underlying3
  a3 := Tryz.isAgg3
  z3 := Tryz.sizeOf3
  v3 := Tryz.zeroValue3
  t4 := Tryz.underlying4
  a4 := Tryz.isAgg4
  z4 := Tryz.sizeOf4
  v4 := Tryz.zeroValue4
  t5 := Tryz.underlying5
  a5 := Tryz.isAgg5
  z5 := Tryz.sizeOf5
  v5 := Tryz.zeroValue5
  t9 := Tryz.underlying9
  a9 := Tryz.isAgg9
  z9 := Tryz.sizeOf9
  v9 := Tryz.zeroValue9
  t21 := Tryz.underlying21
  a21 := Tryz.isAgg21
  z21 := Tryz.sizeOf21
  v21 := Tryz.zeroValue21
  t31 := Tryz.underlying65
  a31 := Tryz.isAgg65
  z31 := Tryz.sizeOf65
  v31 := Tryz.zeroValue65
  t46 := Tryz.underlying121
  a46 := Tryz.isAgg121
  z46 := Tryz.sizeOf121
  v46 := Tryz.zeroValue121
  t51 := Tryz.underlying133
  a51 := Tryz.isAgg133
  z51 := Tryz.sizeOf133
  v51 := Tryz.zeroValue133
  t105 := Tryz.underlying139
  a105 := Tryz.isAgg139
  z105 := Tryz.sizeOf139
  v105 := Tryz.zeroValue139
  t119 := Tryz.underlying170
  a119 := Tryz.isAgg170
  z119 := Tryz.sizeOf170
  t138 := Tryz.underlying172
  a138 := Tryz.isAgg172
  z138 := Tryz.sizeOf172
  v138 := Tryz.zeroValue172
  t139 := Tryz.underlying173
  a139 := Tryz.isAgg173
  z139 := Tryz.sizeOf173
  v139 := Tryz.zeroValue173
  t146 := Tryz.underlying134
  a146 := Tryz.isAgg134
  z146 := Tryz.sizeOf134
  v146 := Tryz.zeroValue134
  g1 := by kernel_rfl
  g3 := by kernel_rfl
  g4 := by kernel_rfl
  i0 := by kernel_rfl
  i3 := by kernel_rfl
  i4 := by kernel_rfl
  i5 := by kernel_rfl
  i9 := by kernel_rfl
  i21 := by kernel_rfl
  i31 := by kernel_rfl
  i46 := by kernel_rfl
  i51 := by kernel_rfl
  i105 := by kernel_rfl
  i138 := by kernel_rfl
  i139 := by kernel_rfl
  i146 := by kernel_rfl
  m1 := by kernel_rfl
  s1_3 := fun w h => Go.Proofs.cell_of_shapedOpen_int (zero := #[.int .i64 0]) (t := 3) h (of_decide_eq_true (by kernel_rfl)) (by kernel_rfl) rfl (by kernel_rfl) (by kernel_rfl) Tryz.underlying3
  m3 := by kernel_rfl
  m4 := by kernel_rfl }
def YtaajkmjilcamgaaGreatDoor.splitNLay_ren : Go.Shelf.Ren := ⟨fun | 147 => 39 | 221 => 72 | 268 => 98 | 138 => 99 | 143 => 100 | 195 => 116 | 197 => 117 | 218 => 118 | 219 => 105 | 260 => 135 | 217 => 125 | 225 => 126 | 224 => 127 | 267 => 128 | 266 => 141 | 314 => 142 | n => n, fun | 9 => 9 | 3 => 3 | 31 => 65 | 4 => 4 | 0 => 0 | 105 => 139 | 21 => 21 | 5 => 5 | 46 => 121 | 119 => 170 | 139 => 173 | 138 => 172 | 146 => 134 | 51 => 133 | n => n, fun | 1 => 0 | 3 => 4 | 4 => 5 | n => n⟩
theorem YtaajkmjilcamgaaGreatDoor.splitNLay : Go.Proofs.LaysM.n147 Tryz.prog YtaajkmjilcamgaaGreatDoor.splitNLay_ren := {
  mixed := by kernel_rfl
  f138 := Tryz.func99.trans (congrArg some (by kernel_rfl))
  f143 := Tryz.func100.trans (congrArg some (by kernel_rfl))
  f147 := Tryz.func39.trans (congrArg some (by kernel_rfl))
  f195 := Tryz.func116.trans (congrArg some (by kernel_rfl))
  f197 := Tryz.func117.trans (congrArg some (by kernel_rfl))
  f217 := Tryz.func125.trans (congrArg some (by kernel_rfl))
  f218 := Tryz.func118.trans (congrArg some (by kernel_rfl))
  f219 := Tryz.func105.trans (congrArg some (by kernel_rfl))
  f221 := Tryz.func72.trans (congrArg some (by kernel_rfl))
  f224 := Tryz.func127.trans (congrArg some (by kernel_rfl))
  f225 := Tryz.func126.trans (congrArg some (by kernel_rfl))
  f260 := Tryz.func135.trans (congrArg some (by kernel_rfl))
  f266 := Tryz.func141.trans (congrArg some (by kernel_rfl))
  f267 := Tryz.func128.trans (congrArg some (by kernel_rfl))
  f268 := Tryz.func98.trans (congrArg some (by kernel_rfl))
  f314 := Tryz.func142.trans (congrArg some (by kernel_rfl))
  t0 := Tryz.underlying0
  a0 := Tryz.isAgg0
  z0 := Tryz.sizeOf0
  v0 := Tryz.zeroValue0
  t3 := Tryz.underlying3
  a3 := Tryz.isAgg3
  z3 := Tryz.sizeOf3
  v3 := Tryz.zeroValue3
  t4 := Tryz.underlying4
  a4 := Tryz.isAgg4
  z4 := Tryz.sizeOf4
  v4 := Tryz.zeroValue4
  t5 := Tryz.underlying5
  a5 := Tryz.isAgg5
  z5 := Tryz.sizeOf5
  v5 := Tryz.zeroValue5
  t9 := Tryz.underlying9
  a9 := Tryz.isAgg9
  z9 := Tryz.sizeOf9
  v9 := Tryz.zeroValue9
  t21 := Tryz.underlying21
  a21 := Tryz.isAgg21
  z21 := Tryz.sizeOf21
  v21 := Tryz.zeroValue21
  t31 := Tryz.underlying65
  a31 := Tryz.isAgg65
  z31 := Tryz.sizeOf65
  v31 := Tryz.zeroValue65
  t46 := Tryz.underlying121
  a46 := Tryz.isAgg121
  z46 := Tryz.sizeOf121
  v46 := Tryz.zeroValue121
  t51 := Tryz.underlying133
  a51 := Tryz.isAgg133
  z51 := Tryz.sizeOf133
  v51 := Tryz.zeroValue133
  t105 := Tryz.underlying139
  a105 := Tryz.isAgg139
  z105 := Tryz.sizeOf139
  v105 := Tryz.zeroValue139
  t119 := Tryz.underlying170
  a119 := Tryz.isAgg170
  z119 := Tryz.sizeOf170
  t138 := Tryz.underlying172
  a138 := Tryz.isAgg172
  z138 := Tryz.sizeOf172
  v138 := Tryz.zeroValue172
  t139 := Tryz.underlying173
  a139 := Tryz.isAgg173
  z139 := Tryz.sizeOf173
  v139 := Tryz.zeroValue173
  t146 := Tryz.underlying134
  a146 := Tryz.isAgg134
  z146 := Tryz.sizeOf134
  v146 := Tryz.zeroValue134
  g1 := by kernel_rfl
  g3 := by kernel_rfl
  g4 := by kernel_rfl
  i0 := by kernel_rfl
  i3 := by kernel_rfl
  i4 := by kernel_rfl
  i5 := by kernel_rfl
  i9 := by kernel_rfl
  i21 := by kernel_rfl
  i31 := by kernel_rfl
  i46 := by kernel_rfl
  i51 := by kernel_rfl
  i105 := by kernel_rfl
  i138 := by kernel_rfl
  i139 := by kernel_rfl
  i146 := by kernel_rfl
  m1 := by kernel_rfl
  s1_3 := fun w h => Go.Proofs.cell_of_shapedOpen_int (zero := #[.int .i64 0]) (t := 3) h (of_decide_eq_true (by kernel_rfl)) (by kernel_rfl) rfl (by kernel_rfl) (by kernel_rfl) Tryz.underlying3
  m3 := by kernel_rfl
  m4 := by kernel_rfl }
def YtaajkmjilcamgaaGreatDoor.trimPLay_ren : Go.Shelf.Ren := ⟨fun | 101 => 73 | 208 => 101 | 206 => 119 | n => n, fun | 9 => 9 | 4 => 4 | 3 => 3 | n => n, fun | n => n⟩
theorem YtaajkmjilcamgaaGreatDoor.trimPLay : Go.Proofs.LaysM.n101 Tryz.prog YtaajkmjilcamgaaGreatDoor.trimPLay_ren := {
  mixed := by kernel_rfl
  f101 := Tryz.func73.trans (congrArg some (by kernel_rfl))
  f206 := Tryz.func119.trans (congrArg some (by kernel_rfl))
  f208 := Tryz.func101.trans (congrArg some (by kernel_rfl))
  t3 := Tryz.underlying3
  a3 := Tryz.isAgg3
  z3 := Tryz.sizeOf3
  v3 := Tryz.zeroValue3
  t4 := Tryz.underlying4
  a4 := Tryz.isAgg4
  z4 := Tryz.sizeOf4
  v4 := Tryz.zeroValue4
  t9 := Tryz.underlying9
  a9 := Tryz.isAgg9
  z9 := Tryz.sizeOf9
  v9 := Tryz.zeroValue9
  i3 := by kernel_rfl
  i4 := by kernel_rfl
  i9 := by kernel_rfl }
def YtaajkmjilcamgaaGreatDoor.trimSLay_ren : Go.Shelf.Ren := ⟨fun | 102 => 41 | 209 => 75 | 207 => 104 | n => n, fun | 9 => 9 | 4 => 4 | 3 => 3 | n => n, fun | n => n⟩
theorem YtaajkmjilcamgaaGreatDoor.trimSLay : Go.Proofs.LaysM.n102 Tryz.prog YtaajkmjilcamgaaGreatDoor.trimSLay_ren := {
  mixed := by kernel_rfl
  f102 := Tryz.func41.trans (congrArg some (by kernel_rfl))
  f207 := Tryz.func104.trans (congrArg some (by kernel_rfl))
  f209 := Tryz.func75.trans (congrArg some (by kernel_rfl))
  t3 := Tryz.underlying3
  a3 := Tryz.isAgg3
  z3 := Tryz.sizeOf3
  v3 := Tryz.zeroValue3
  t4 := Tryz.underlying4
  a4 := Tryz.isAgg4
  z4 := Tryz.sizeOf4
  v4 := Tryz.zeroValue4
  t9 := Tryz.underlying9
  a9 := Tryz.isAgg9
  z9 := Tryz.sizeOf9
  v9 := Tryz.zeroValue9
  i3 := by kernel_rfl
  i4 := by kernel_rfl
  i9 := by kernel_rfl }
def YtaajkmjilcamgaaGreatDoor.joinLay_ren : Go.Shelf.Ren := ⟨fun | 156 => 45 | 165 => 81 | 166 => 82 | 169 => 83 | 240 => 109 | 241 => 110 | 276 => 133 | 277 => 134 | n => n, fun | 31 => 65 | 9 => 9 | 3 => 3 | 4 => 4 | 0 => 0 | 20 => 20 | 72 => 111 | 76 => 113 | 70 => 109 | 37 => 22 | 75 => 103 | 127 => 129 | 164 => 155 | 5 => 5 | 80 => 115 | n => n, fun | n => n⟩
theorem YtaajkmjilcamgaaGreatDoor.joinLay : Go.Proofs.LaysM.n156 Tryz.prog YtaajkmjilcamgaaGreatDoor.joinLay_ren := {
  mixed := by kernel_rfl
  f156 := Tryz.func45.trans (congrArg some (by kernel_rfl))
  f165 := Tryz.func81.trans (congrArg some (by kernel_rfl))
  f166 := Tryz.func82.trans (congrArg some (by kernel_rfl))
  f169 := Tryz.func83.trans (congrArg some (by kernel_rfl))
  f240 := Tryz.func109.trans (congrArg some (by kernel_rfl))
  f241 := Tryz.func110.trans (congrArg some (by kernel_rfl))
  f276 := Tryz.func133.trans (congrArg some (by kernel_rfl))
  f277 := Tryz.func134.trans (congrArg some (by kernel_rfl))
  t0 := Tryz.underlying0
  a0 := Tryz.isAgg0
  z0 := Tryz.sizeOf0
  v0 := Tryz.zeroValue0
  t3 := Tryz.underlying3
  a3 := Tryz.isAgg3
  z3 := Tryz.sizeOf3
  v3 := Tryz.zeroValue3
  t4 := Tryz.underlying4
  a4 := Tryz.isAgg4
  z4 := Tryz.sizeOf4
  v4 := Tryz.zeroValue4
  t9 := Tryz.underlying9
  a9 := Tryz.isAgg9
  z9 := Tryz.sizeOf9
  v9 := Tryz.zeroValue9
  t20 := Tryz.underlying20
  a20 := Tryz.isAgg20
  z20 := Tryz.sizeOf20
  v20 := Tryz.zeroValue20
  t31 := Tryz.underlying65
  a31 := Tryz.isAgg65
  z31 := Tryz.sizeOf65
  v31 := Tryz.zeroValue65
  t37 := Tryz.underlying22
  a37 := Tryz.isAgg22
  z37 := Tryz.sizeOf22
  v37 := Tryz.zeroValue22
  t70 := Tryz.underlying109
  a70 := Tryz.isAgg109
  z70 := Tryz.sizeOf109
  v70 := Tryz.zeroValue109
  t72 := Tryz.underlying111
  a72 := Tryz.isAgg111
  z72 := Tryz.sizeOf111
  v72 := Tryz.zeroValue111
  t75 := Tryz.underlying103
  a75 := Tryz.isAgg103
  z75 := Tryz.sizeOf103
  v75 := Tryz.zeroValue103
  t76 := Tryz.underlying113
  a76 := Tryz.isAgg113
  z76 := Tryz.sizeOf113
  v76 := Tryz.zeroValue113
  t127 := Tryz.underlying129
  a127 := Tryz.isAgg129
  z127 := Tryz.sizeOf129
  v127 := Tryz.zeroValue129
  t164 := Tryz.underlying155
  a164 := Tryz.isAgg155
  z164 := Tryz.sizeOf155
  v164 := Tryz.zeroValue155
  t5 := Tryz.underlying5
  a5 := Tryz.isAgg5
  z5 := Tryz.sizeOf5
  v5 := Tryz.zeroValue5
  t80 := Tryz.underlying115
  a80 := Tryz.isAgg115
  z80 := Tryz.sizeOf115
  v80 := Tryz.zeroValue115
  i0 := by kernel_rfl
  i3 := by kernel_rfl
  i4 := by kernel_rfl
  i5 := by kernel_rfl
  i9 := by kernel_rfl
  i20 := by kernel_rfl
  i31 := by kernel_rfl
  i37 := by kernel_rfl
  i70 := by kernel_rfl
  i72 := by kernel_rfl
  i75 := by kernel_rfl
  i76 := by kernel_rfl
  i80 := by kernel_rfl
  i127 := by kernel_rfl
  i164 := by kernel_rfl }
def YtaajkmjilcamgaaGreatDoor.parseLay_ren : Go.Shelf.Ren := ⟨fun | 174 => 74 | 247 => 102 | 245 => 103 | 287 => 120 | 279 => 121 | 280 => 122 | 281 => 123 | 282 => 124 | 321 => 136 | 322 => 137 | 316 => 138 | 171 => 140 | 205 => 139 | 243 => 148 | 246 => 108 | 283 => 129 | 284 => 130 | 285 => 131 | 286 => 132 | 129 => 144 | 317 => 143 | 318 => 145 | 319 => 146 | 320 => 147 | 337 => 149 | 338 => 150 | n => n, fun | 9 => 9 | 3 => 3 | 2 => 2 | 75 => 103 | 85 => 104 | 4 => 4 | 167 => 142 | 5 => 5 | 53 => 96 | 175 => 143 | 46 => 121 | 168 => 145 | 37 => 22 | 0 => 0 | 210 => 162 | 21 => 21 | 127 => 129 | 145 => 176 | 143 => 174 | 171 => 150 | 173 => 153 | 212 => 166 | 51 => 133 | 20 => 20 | 213 => 167 | 232 => 178 | 233 => 179 | 80 => 115 | n => n, fun | 15 => 1 | 16 => 2 | 17 => 3 | 18 => 6 | 19 => 7 | n => n⟩
theorem YtaajkmjilcamgaaGreatDoor.parseLay : Go.Proofs.LaysC.n174 Tryz.prog YtaajkmjilcamgaaGreatDoor.parseLay_ren := {
  mixed := by kernel_rfl
  f129 := Tryz.func144.trans (congrArg some (by kernel_rfl))
  f171 := Tryz.func140.trans (congrArg some (by kernel_rfl))
  f174 := Tryz.func74.trans (congrArg some (by kernel_rfl))
  f205 := Tryz.func139.trans (congrArg some (by kernel_rfl))
  f243 := Tryz.func148.trans (congrArg some (by kernel_rfl))
  f245 := Tryz.func103.trans (congrArg some (by kernel_rfl))
  f246 := Tryz.func108.trans (congrArg some (by kernel_rfl))
  f247 := Tryz.func102.trans (congrArg some (by kernel_rfl))
  f279 := Tryz.func121.trans (congrArg some (by kernel_rfl))
  f280 := Tryz.func122.trans (congrArg some (by kernel_rfl))
  f281 := Tryz.func123.trans (congrArg some (by kernel_rfl))
  f282 := Tryz.func124.trans (congrArg some (by kernel_rfl))
  f283 := Tryz.func129.trans (congrArg some (by kernel_rfl))
  f284 := Tryz.func130.trans (congrArg some (by kernel_rfl))
  f285 := Tryz.func131.trans (congrArg some (by kernel_rfl))
  f286 := Tryz.func132.trans (congrArg some (by kernel_rfl))
  f287 := Tryz.func120.trans (congrArg some (by kernel_rfl))
  f316 := Tryz.func138.trans (congrArg some (by kernel_rfl))
  f317 := Tryz.func143.trans (congrArg some (by kernel_rfl))
  f318 := Tryz.func145.trans (congrArg some (by kernel_rfl))
  f319 := Tryz.func146.trans (congrArg some (by kernel_rfl))
  f320 := Tryz.func147.trans (congrArg some (by kernel_rfl))
  f321 := Tryz.func136.trans (congrArg some (by kernel_rfl))
  f322 := Tryz.func137.trans (congrArg some (by kernel_rfl))
  f337 := Tryz.func149.trans (congrArg some (by kernel_rfl))
  f338 := Tryz.func150.trans (congrArg some (by kernel_rfl))
  t0 := Tryz.underlying0
  a0 := Tryz.isAgg0
  z0 := Tryz.sizeOf0
  v0 := Tryz.zeroValue0
  t2 := Tryz.underlying2
  a2 := Tryz.isAgg2
  z2 := Tryz.sizeOf2
  v2 := Tryz.zeroValue2
  t3 := Tryz.underlying3
  a3 := Tryz.isAgg3
  z3 := Tryz.sizeOf3
  v3 := Tryz.zeroValue3
  t4 := Tryz.underlying4
  a4 := Tryz.isAgg4
  z4 := Tryz.sizeOf4
  v4 := Tryz.zeroValue4
  t5 := Tryz.underlying5
  a5 := Tryz.isAgg5
  z5 := Tryz.sizeOf5
  v5 := Tryz.zeroValue5
  t9 := Tryz.underlying9
  a9 := Tryz.isAgg9
  z9 := Tryz.sizeOf9
  v9 := Tryz.zeroValue9
  t20 := Tryz.underlying20
  a20 := Tryz.isAgg20
  z20 := Tryz.sizeOf20
  v20 := Tryz.zeroValue20
  t21 := Tryz.underlying21
  a21 := Tryz.isAgg21
  z21 := Tryz.sizeOf21
  v21 := Tryz.zeroValue21
  t37 := Tryz.underlying22
  a37 := Tryz.isAgg22
  z37 := Tryz.sizeOf22
  v37 := Tryz.zeroValue22
  t46 := Tryz.underlying121
  a46 := Tryz.isAgg121
  z46 := Tryz.sizeOf121
  v46 := Tryz.zeroValue121
  t51 := Tryz.underlying133
  a51 := Tryz.isAgg133
  z51 := Tryz.sizeOf133
  v51 := Tryz.zeroValue133
  t53 := Tryz.underlying96
  a53 := Tryz.isAgg96
  z53 := Tryz.sizeOf96
  v53 := Tryz.zeroValue96
  t75 := Tryz.underlying103
  a75 := Tryz.isAgg103
  z75 := Tryz.sizeOf103
  v75 := Tryz.zeroValue103
  t85 := Tryz.underlying104
  a85 := Tryz.isAgg104
  z85 := Tryz.sizeOf104
  v85 := Tryz.zeroValue104
  t127 := Tryz.underlying129
  a127 := Tryz.isAgg129
  z127 := Tryz.sizeOf129
  v127 := Tryz.zeroValue129
  t143 := Tryz.underlying174
  a143 := Tryz.isAgg174
  z143 := Tryz.sizeOf174
  v143 := Tryz.zeroValue174
  t145 := Tryz.underlying176
  a145 := Tryz.isAgg176
  z145 := Tryz.sizeOf176
  v145 := Tryz.zeroValue176
  t167 := Tryz.underlying142
  a167 := Tryz.isAgg142
  z167 := Tryz.sizeOf142
  v167 := Tryz.zeroValue142
  t168 := Tryz.underlying145
  a168 := Tryz.isAgg145
  z168 := Tryz.sizeOf145
  v168 := Tryz.zeroValue145
  t171 := Tryz.underlying150
  a171 := Tryz.isAgg150
  z171 := Tryz.sizeOf150
  v171 := Tryz.zeroValue150
  t173 := Tryz.underlying153
  a173 := Tryz.isAgg153
  z173 := Tryz.sizeOf153
  v173 := Tryz.zeroValue153
  t175 := Tryz.underlying143
  a175 := Tryz.isAgg143
  z175 := Tryz.sizeOf143
  v175 := Tryz.zeroValue143
  t210 := Tryz.underlying162
  a210 := Tryz.isAgg162
  z210 := Tryz.sizeOf162
  v210 := Tryz.zeroValue162
  t212 := Tryz.underlying166
  a212 := Tryz.isAgg166
  z212 := Tryz.sizeOf166
  v212 := Tryz.zeroValue166
  t213 := Tryz.underlying167
  a213 := Tryz.isAgg167
  z213 := Tryz.sizeOf167
  t232 := Tryz.underlying178
  a232 := Tryz.isAgg178
  z232 := Tryz.sizeOf178
  v232 := Tryz.zeroValue178
  t233 := Tryz.underlying179
  a233 := Tryz.isAgg179
  z233 := Tryz.sizeOf179
  v233 := Tryz.zeroValue179
  g15 := by kernel_rfl
  g16 := by kernel_rfl
  g17 := by kernel_rfl
  g18 := by kernel_rfl
  g19 := by kernel_rfl
  t80 := Tryz.underlying115
  a80 := Tryz.isAgg115
  z80 := Tryz.sizeOf115
  v80 := Tryz.zeroValue115
  i0 := by kernel_rfl
  i2 := by kernel_rfl
  i3 := by kernel_rfl
  i4 := by kernel_rfl
  i5 := by kernel_rfl
  i9 := by kernel_rfl
  i20 := by kernel_rfl
  i21 := by kernel_rfl
  i37 := by kernel_rfl
  i46 := by kernel_rfl
  i51 := by kernel_rfl
  i53 := by kernel_rfl
  i75 := by kernel_rfl
  i80 := by kernel_rfl
  i85 := by kernel_rfl
  i127 := by kernel_rfl
  i143 := by kernel_rfl
  i145 := by kernel_rfl
  i167 := by kernel_rfl
  i168 := by kernel_rfl
  i171 := by kernel_rfl
  i173 := by kernel_rfl
  i175 := by kernel_rfl
  i210 := by kernel_rfl
  i212 := by kernel_rfl
  i232 := by kernel_rfl
  i233 := by kernel_rfl
  m15 := by kernel_rfl
  m16 := by kernel_rfl
  m17 := by kernel_rfl
  m18 := by kernel_rfl
  m19 := by kernel_rfl
  c0 := by kernel_rfl
  c2 := by kernel_rfl
  c3 := by kernel_rfl
  c4 := by kernel_rfl
  c5 := by kernel_rfl
  c9 := by kernel_rfl
  c20 := by kernel_rfl
  c21 := by kernel_rfl
  c37 := by kernel_rfl
  c46 := by kernel_rfl
  c51 := by kernel_rfl
  c53 := by kernel_rfl
  c75 := by kernel_rfl
  c80 := by kernel_rfl
  c85 := by kernel_rfl
  c127 := by kernel_rfl
  c143 := by kernel_rfl
  c145 := by kernel_rfl
  c167 := by kernel_rfl
  c168 := by kernel_rfl
  c171 := by kernel_rfl
  c173 := by kernel_rfl
  c175 := by kernel_rfl
  c210 := by kernel_rfl
  c212 := by kernel_rfl
  c213 := by kernel_rfl
  c232 := by kernel_rfl
  c233 := by kernel_rfl }
end Go.Proofs
namespace Go.Proofs.YtaajkmjilcamgaaGreatDoor
open Go.RowKit
/-- What the texts' functions ask of the world: a table, a limit, an error. -/
structure TxtW (w : World) : Prop where
  tab : TabW w
  maxl : ∃ m, w.cell? ⟨0, 0, none⟩ = some (.int .i64 m)
  syn : ∃ te pe, w.cell? ⟨1, 0, none⟩ = some (.iface te pe)
theorem TxtW.below {w w' : World} (h : TxtW w) (b : Below w.heap.size w w') : TxtW w' := by
  obtain ⟨h1, ⟨m, h2⟩, te, pe, h3⟩ := h
  exact ⟨h1.below b, ⟨m, (b.cell (p := ⟨_, 0, none⟩) (World.block_lt_of_cell? _ _ h2)).trans h2⟩, te, pe, (b.cell (p := ⟨_, 0, none⟩) (World.block_lt_of_cell? _ _ h3)).trans h3⟩
def numB (s : ByteArray) : Option Int := numOf s.data.toList
theorem noSign_trim (l : List UInt8) : Lib.trimPrefix l [45] = noSign l := by
  unfold Lib.trimPrefix Lib.hasPrefix noSign
  cases l with
  | nil => rfl
  | cons b t =>
    by_cases h : b = 45
    · subst h; simp
    · rw [if_neg (by simpa using fun e => h e.symm), if_neg (by simpa using h)]
theorem noSign_len (l : List UInt8) : l.length ≤ (noSign l).length + 1 := by
  unfold noSign
  split
  · rw [List.length_tail]; omega
  · omega
theorem bytesW_below (w : World) (e : TypeId) (t : ByteArray) : Below w.heap.size w (Lib.bytesWorld w e t) := Lib.bytesWorld_below w e t
set_option maxRecDepth 100000 in
set_option maxHeartbeats 4000000 in
theorem readDec_any (s : ByteArray) (w : World) (hs : s.size ≤ 1000000000) (ht : TxtW w) :
    Calls Tryz.prog 40 #[.string s] w fun e w' => e = .returned (.tuple #[.int .i64 ((numB s).getD 0), .bool (numB s).isSome]) ∧ Below w.heap.size w w' := by
  have hlen : s.size = s.data.toList.length := Lib.size_eq s
  have hns := noSign_len s.data.toList
  have hT : Hid (Calls Tryz.prog 73 #[.string s, .string ⟨#[45]⟩] w fun e w' => e = .returned (.string ⟨(noSign s.data.toList).toArray⟩) ∧ w' = w) := by
    have h := Go.Proofs.Any.strings_TrimPrefix { YtaajkmjilcamgaaGreatDoor.trimPLay with } s ⟨#[45]⟩ w
    rw [show ((⟨#[45]⟩ : ByteArray).data.toList) = [45] from rfl, noSign_trim] at h
    exact h
  have hz : (⟨(noSign s.data.toList).toArray⟩ : ByteArray).size = (noSign s.data.toList).length := by simp [ByteArray.size]
  by_cases h19 : s.size ≤ 19
  case neg =>
    have hn : numB s = none := numOf_long (by omega)
    have hD : decide ((19 : Int) < (s.size : Int)) = true := decide_eq_true (by omega)
    rw [hn]
    clear hlen hns hT hz hn
    go_enter Tryz.func40, Tryz.ntmps40
    go_wp2_with fail
    go_ret2
    exact ⟨rfl, Below.refl _ _⟩
  have hD : decide ((19 : Int) < (s.size : Int)) = false := decide_eq_false (by omega)
  by_cases h18 : (noSign s.data.toList).length ≤ 18
  case neg =>
    have hn : numB s = none := numOf_long (by omega)
    rw [hn]
    clear hlen hns hn
    generalize (⟨(noSign s.data.toList).toArray⟩ : ByteArray) = q at *
    have hD2 : decide ((18 : Int) < (q.size : Int)) = true := decide_eq_true (by omega)
    clear hz h18
    go_enter Tryz.func40, Tryz.ntmps40
    go_wp2_with (go_at_call 73; refine (hT.out).mono ?_; rintro e w' ⟨rfl, rfl⟩)
    go_ret2
    exact ⟨rfl, Below.refl _ _⟩
  have hR := parse_range h18
  have HN := hide fun (v : Int) (hp : Lib.parseIntB 64 s.data.toList = .ok v) => (⟨fun (e : Lib.itoa v = s.data.toList) => (by
    have e2 := noSign_itoa v
    rw [e] at e2
    rw [show numB s = numOf s.data.toList from rfl, ← e]
    exact numOf_itoa (decDigits_big (by rw [← e2]; exact h18)) : numB s = some v), fun (e : Lib.itoa v ≠ s.data.toList) => (by
    cases hn : numB s with
    | none => rfl
    | some n =>
      exfalso
      have h1 := parse_of hn
      rw [h1] at hp
      cases hp
      exact e (numOf_some hn).1 : numB s = none)⟩ : _ ∧ _)
  have HSY := hide fun (hp : ∀ v, Lib.parseIntB 64 s.data.toList ≠ .ok v) => (by
    cases hn : numB s with
    | none => rfl
    | some n => exact absurd (parse_of hn) (hp n) : numB s = none)
  obtain ⟨te, pe, hsy⟩ := ht.syn
  have HTB := hide ht.tab
  generalize hq : (⟨(noSign s.data.toList).toArray⟩ : ByteArray) = q at *
  have hD2 : decide ((18 : Int) < (q.size : Int)) = false := decide_eq_false (by omega)
  clear hz h18 hns hq
  rcases hp : Lib.parseIntB 64 s.data.toList with v | _ | _
  rotate_left 2
  · exact absurd hp hR
  rotate_left 1
  · rw [HSY.out (fun v e => by rw [hp] at e; cases e)]
    have HP := hide (show Calls Tryz.prog 74 #[.string s, .int .i64 10, .int .i64 64] w fun e w' => ∃ N, e = .returned (.tuple #[.int .i64 0, .iface 145 (.pointer (some ⟨N, 0, none⟩))]) ∧ Below w.heap.size w w' from
      (Go.Proofs.Any.strconv_ParseInt_10_at64_syntax { YtaajkmjilcamgaaGreatDoor.parseLay with } s (by omega) hp _ w hsy (.inr ⟨te, pe, rfl⟩)).mono fun e w' ⟨N, he, _, _, b⟩ => ⟨N, he, b⟩)
    clear HN HSY hp hR hsy hlen
    go_enter Tryz.func40, Tryz.ntmps40
    go_wp2_with (first | (go_at_call 73; refine (hT.out).mono ?_; rintro e w' ⟨rfl, rfl⟩) | (go_at_call 74; (with_reducible refine (HP.out).mono ?_); rintro e w1 ⟨N1, rfl, b1⟩))
    go_ret2
    exact ⟨rfl, b1⟩
  · have hb := Lib.parseIntB_bounds hp
    have HP := hide (show Calls Tryz.prog 74 #[.string s, .int .i64 10, .int .i64 64] w fun e w' => e = .returned (.tuple #[.int .i64 v, .nilIface]) ∧ Below w.heap.size w w' from
      (Go.Proofs.Any.strconv_ParseInt_10_at64_ok { YtaajkmjilcamgaaGreatDoor.parseLay with } s (by omega) v hp w).mono fun e w' ⟨he, hw⟩ => ⟨he, by
        rcases hw with rfl | ⟨t, rfl⟩
        · exact Below.refl _ _
        · exact bytesW_below _ _ _⟩)
    have HN2 := hide (HN.out v hp)
    have HD := hide fun W (hW : Below w.heap.size w W) => decimal_any v W (by have := hb.1; simp at this; omega) (by have := hb.2; simp at this; omega) (HTB.out.below hW)
    clear HN HSY hp hR hsy hb
    by_cases he : decB v = s
    · have hi : Lib.itoa v = s.data.toList := by rw [← he]; rfl
      rw [HN2.out.1 hi]
      have hB : ((decB v).toList == s.toList) = true := by simp [he]
      have HE := hide he
      clear he hi HN2 hlen
      generalize decB v = dv at *
      go_enter Tryz.func40, Tryz.ntmps40
      go_wp2_with (first | (go_at_call 73; refine (hT.out).mono ?_; rintro e w' ⟨rfl, rfl⟩) | (go_at_call 74; (with_reducible refine (HP.out).mono ?_); rintro e w1 ⟨rfl, b1⟩) | (go_at_call 44; (with_reducible refine (HD.out _ b1).mono ?_); rintro e w2 ⟨rfl, b2⟩))
      go_ret2
      exact ⟨rfl, b1.trans (b2.mono b1.size)⟩
    · have hi : Lib.itoa v ≠ s.data.toList := fun e => he (by unfold decB; rw [e])
      rw [HN2.out.2 hi]
      have hB : ((decB v).toList == s.toList) = false := by
        rw [beq_eq_false_iff_ne, Lib.toList_data, Lib.toList_data]
        exact hi
      have HE := hide he
      clear he hi HN2 hlen
      generalize decB v = dv at *
      go_enter Tryz.func40, Tryz.ntmps40
      go_wp2_with (first | (go_at_call 73; refine (hT.out).mono ?_; rintro e w' ⟨rfl, rfl⟩) | (go_at_call 74; (with_reducible refine (HP.out).mono ?_); rintro e w1 ⟨rfl, b1⟩) | (go_at_call 44; (with_reducible refine (HD.out _ b1).mono ?_); rintro e w2 ⟨rfl, b2⟩))
      go_ret2
      exact ⟨rfl, b1.trans (b2.mono b1.size)⟩
end Go.Proofs.YtaajkmjilcamgaaGreatDoor
namespace Go.Proofs.YtaajkmjilcamgaaGreatDoor
open Go.RowKit
/-- A letter of a text, as a number. -/
def chr (s : ByteArray) (i : Nat) : Int := ((s.get! i).toNat : Int)
theorem chr_bd (s : ByteArray) (i : Nat) : 0 ≤ chr s i ∧ chr s i ≤ 255 := by
  unfold chr
  have := (s.get! i).toNat_lt
  omega
/-- In how many of the places i, i + 1 .. (m of them) two texts differ. -/
def farN (a b : ByteArray) : Nat → Nat → Int
  | _, 0 => 0
  | i, m + 1 => (if chr a i = chr b i then 0 else 1) + farN a b (i + 1) m
def farB (a b : ByteArray) : Int := farN a b 0 a.size
theorem farN_bd (a b : ByteArray) : ∀ m i, 0 ≤ farN a b i m ∧ farN a b i m ≤ m := by
  intro m
  induction m with
  | zero => intro i; exact ⟨Int.le_refl _, Int.le_refl _⟩
  | succ m ih =>
    intro i
    have := ih (i + 1)
    rw [farN]
    split <;> omega
theorem farN_sym (a b : ByteArray) : ∀ m i, farN a b i m = farN b a i m := by
  intro m
  induction m with
  | zero => intro i; rfl
  | succ m ih =>
    intro i
    rw [farN, farN, ih (i + 1)]
    by_cases h : chr a i = chr b i
    · rw [if_pos h, if_pos h.symm]
    · rw [if_neg h, if_neg (fun e => h e.symm)]
theorem farB_sym {a b : ByteArray} (h : a.size = b.size) : farB a b = farB b a := by
  unfold farB
  rw [farN_sym, h]
theorem farB_bd (a b : ByteArray) : 0 ≤ farB a b ∧ farB a b ≤ a.size := farN_bd a b a.size 0
/-- All letters from i on (m of them) are signs. -/
def letN (n : Int) (s : ByteArray) : Nat → Nat → Bool
  | _, 0 => true
  | i, m + 1 => decide (97 ≤ chr s i ∧ chr s i ≤ 97 + n - 1) && letN n s (i + 1) m
def wordB (n : Int) (s : ByteArray) : Bool := letN n s 0 s.size && decide (1 ≤ s.size ∧ s.size ≤ 8)
theorem letN_false {n : Int} {s : ByteArray} {i m : Nat} (h : ¬ (97 ≤ chr s i ∧ chr s i ≤ 97 + n - 1)) : letN n s i (m + 1) = false := by rw [letN, decide_eq_false h]; rfl
theorem letN_true {n : Int} {s : ByteArray} {i m : Nat} (h : 97 ≤ chr s i ∧ chr s i ≤ 97 + n - 1) : letN n s i (m + 1) = letN n s (i + 1) m := by rw [letN, decide_eq_true h]; rfl
theorem wordB_bad {n : Int} {s : ByteArray} (h : letN n s 0 s.size = false) : wordB n s = false := by unfold wordB; rw [h]; rfl
theorem wordB_good {n : Int} {s : ByteArray} (h : letN n s 0 s.size = true) : wordB n s = decide (1 ≤ s.size ∧ s.size ≤ 8) := by unfold wordB; rw [h]; rfl
end Go.Proofs.YtaajkmjilcamgaaGreatDoor
namespace Go.Proofs.YtaajkmjilcamgaaGreatDoor
open Go.RowKit
theorem chr_of {s : ByteArray} {i : Nat} (h : i < s.size) : (((s[i]'h).toNat : Nat) : Int) = chr s i := by
  unfold chr
  congr 2
  cases s with
  | mk d =>
    show d[i] = d[i]!
    exact (getElem!_pos d i h).symm
theorem qdn {P : Program} {f : FuncId} {args : Array Value} {w : World} {n : Nat} {v : Value}
    (h : Calls P f args (w.drewN n) fun e w' => e = .returned v ∧ ∃ m, w' = (w.drewN n).drewN m) : Calls P f args (w.drewN n) fun e w'' => e = .returned v ∧ ∃ m, w'' = w.drewN m :=
  h.mono fun _ _ ⟨he, m, hm⟩ => ⟨he, n + m, by rw [hm, World.drewN_drewN]⟩
end Go.Proofs.YtaajkmjilcamgaaGreatDoor
namespace Go.Proofs.YtaajkmjilcamgaaGreatDoor
open Go.RowKit
def RdS (w : World) (B : Nat) (A : Option Addr) (xs : List ByteArray) : Prop := Rd w B A (xs.map Value.string)
theorem RdS.below {w w' : World} {B : Nat} {A : Option Addr} {xs : List ByteArray} (h : RdS w B A xs) (k : Below B w w') : RdS w' B A xs := Rd.below h k
theorem RdS.more {w : World} {B B' : Nat} {A : Option Addr} {xs : List ByteArray} (h : RdS w B A xs) (k : B ≤ B') : RdS w B' A xs := Rd.more h k
theorem RdS.at_ {w : World} {B : Nat} {A : Option Addr} {xs : List ByteArray} (h : RdS w B A xs) {j : Nat} (hj : j < xs.length) : ∃ b o s, A = some ⟨b, o, none⟩ ∧ b < B ∧ xs[j]? = some s ∧ w.cell? ⟨b, o + j, none⟩ = some (.string s) := by
  obtain ⟨b, o, u, hA, hb, hu, hc⟩ := Rd.at_ h (j := j) (by rw [List.length_map]; exact hj)
  rw [List.getElem?_map] at hu
  cases hx : xs[j]? with
  | none => rw [hx] at hu; cases hu
  | some s => rw [hx] at hu; cases hu; exact ⟨b, o, s, hA, hb, rfl, hc⟩
theorem RdS.take {w : World} {B b o : Nat} {xs : List ByteArray} (h : RdS w B (some ⟨b, o, none⟩) xs) (k : Nat) : RdS w B (some ⟨b, o, none⟩) (xs.take k) := fun hn => by
  have hn2 : xs.map Value.string ≠ [] := by
    intro e
    apply hn
    rw [List.map_take, e, List.take_nil]
  obtain ⟨b', o', hA, hb, hc⟩ := h hn2
  refine ⟨b', o', hA, hb, fun j u hu => hc j u ?_⟩
  rw [List.map_take, List.getElem?_take] at hu
  split at hu
  · exact hu
  · cases hu
theorem txt_eq (a b : ByteArray) : (a.toList == b.toList) = decide (a = b) := by
  rw [ByteArray.toList_eq, ByteArray.toList_eq]
  by_cases h : a = b
  · subst h; simp
  · rw [decide_eq_false h, beq_eq_false_iff_ne]
    intro e
    exact h (ByteArray.ext (Array.toList_inj.mp e))
def hasS (xs : List ByteArray) (v : ByteArray) : Bool := xs.any fun z => decide (z = v)
def txt (ws : List ByteArray) (i : Nat) : ByteArray := (ws[i]?).getD ByteArray.empty
theorem txt_get {ws : List ByteArray} {i : Nat} {s : ByteArray} (h : ws[i]? = some s) : txt ws i = s := by unfold txt; rw [h]; rfl
/-- The word with number i is an address beside those before it. -/
def okA (n : Int) (ws : List ByteArray) (i : Nat) : Bool := wordB n (txt ws i) && (decide ((txt ws i).size = (txt ws 0).size) && !hasS (ws.take i) (txt ws i))
def okN (n : Int) (ws : List ByteArray) : Nat → Nat → Bool
  | _, 0 => true
  | i, m + 1 => okA n ws i && okN n ws (i + 1) m
def addrs (n : Int) (ws : List ByteArray) : Bool := decide (2 ≤ n ∧ n ≤ 4) && (decide (ws.length ≤ 40) && okN n ws 0 ws.length)
theorem addrs_signs {n : Int} {ws : List ByteArray} (h : ¬ (2 ≤ n ∧ n ≤ 4)) : addrs n ws = false := by unfold addrs; rw [decide_eq_false h]; rfl
theorem addrs_long {n : Int} {ws : List ByteArray} (h : ¬ ws.length ≤ 40) : addrs n ws = false := by unfold addrs; rw [decide_eq_false h]; simp
theorem addrs_eq {n : Int} {ws : List ByteArray} (h : 2 ≤ n ∧ n ≤ 4) (k : ws.length ≤ 40) : addrs n ws = okN n ws 0 ws.length := by unfold addrs; rw [decide_eq_true h, decide_eq_true k]; rfl
end Go.Proofs.YtaajkmjilcamgaaGreatDoor
namespace Go.Proofs.YtaajkmjilcamgaaGreatDoor
open Go.RowKit
theorem hasS_succ {ws : List ByteArray} {k : Nat} {y x : ByteArray} (h : ws[k]? = some y) : hasS (ws.take (k + 1)) x = (hasS (ws.take k) x || decide (y = x)) := by
  unfold hasS
  rw [List.take_add_one, h, List.any_append]
  simp
theorem hasS_zero {ws : List ByteArray} {x : ByteArray} : hasS (ws.take 0) x = false := by simp [hasS]
theorem okN_step {n : Int} {ws : List ByteArray} {i m : Nat} : okN n ws i (m + 1) = (okA n ws i && okN n ws (i + 1) m) := rfl
theorem hasS_mono {ws : List ByteArray} {k j : Nat} {x : ByteArray} (h : k ≤ j) (e : hasS (ws.take k) x = true) : hasS (ws.take j) x = true := by
  unfold hasS at *
  rw [List.any_eq_true] at *
  obtain ⟨z, hz, hp⟩ := e
  exact ⟨z, (List.take_subset_take_left ws h) hz, hp⟩
end Go.Proofs.YtaajkmjilcamgaaGreatDoor
namespace Go.Proofs.YtaajkmjilcamgaaGreatDoor
open Go.RowKit
def distR (a b : ByteArray) : Int × Int := if wordB 4 a = false ∨ wordB 4 b = false then (0, 1) else if a.size = b.size then (farB a b, 0) else (0, 8)
/-- The distance without a place (all places count for -1). -/
def farW (r : Int) (a b : ByteArray) : Int := farB a b - (if 0 ≤ r ∧ chr a r.toNat ≠ chr b r.toNat then 1 else 0)
theorem farW_all (a b : ByteArray) : farW (-1) a b = farB a b := by unfold farW; rw [if_neg (fun e => absurd e.1 (by decide))]; omega
def lpI (f : ByteArray → ByteArray → Int) (x : ByteArray) : List ByteArray → Int → Int
  | [], m => m
  | y :: ys, m => lpI f x ys (if m < 0 ∨ f x y < m then f x y else m)
def lpO (f : ByteArray → ByteArray → Int) (ws : List ByteArray) : Nat → Nat → Int → Int
  | _, 0, m => m
  | i, c + 1, m => lpO f ws (i + 1) c (lpI f (txt ws i) (ws.take i) m)
def leastA (f : ByteArray → ByteArray → Int) (ws : List ByteArray) : Int := lpO f ws 0 ws.length (-1)
theorem lpI_drop {f : ByteArray → ByteArray → Int} {x : ByteArray} {ys : List ByteArray} {q : Nat} {y : ByteArray} {m : Int} (h : ys[q]? = some y) : lpI f x (ys.drop q) m = lpI f x (ys.drop (q + 1)) (if m < 0 ∨ f x y < m then f x y else m) := by rw [drop_cons h, lpI]
theorem lpI_end {f : ByteArray → ByteArray → Int} {x : ByteArray} {ys : List ByteArray} {q : Nat} {m : Int} (h : ys.length ≤ q) : lpI f x (ys.drop q) m = m := by rw [List.drop_eq_nil_of_le h, lpI]
theorem leastA_all (ws : List ByteArray) : leastA (farW (-1)) ws = leastA farB ws := by rw [show farW (-1) = farB from funext fun a => funext fun b => farW_all a b]
end Go.Proofs.YtaajkmjilcamgaaGreatDoor
namespace Go.Proofs.YtaajkmjilcamgaaGreatDoor
open Go.RowKit
end Go.Proofs.YtaajkmjilcamgaaGreatDoor
namespace Go.Proofs.YtaajkmjilcamgaaGreatDoor
open Go.RowKit
theorem okN_all {n : Int} {ws : List ByteArray} : ∀ {m i : Nat}, okN n ws i m = true → ∀ k, i ≤ k → k < i + m → okA n ws k = true := by
  intro m
  induction m with
  | zero => intro i _ k h1 h2; omega
  | succ m ih =>
    intro i h k h1 h2
    rw [okN_step, Bool.and_eq_true] at h
    by_cases hk : k = i
    · rw [hk]; exact h.1
    · exact ih h.2 k (by omega) (by omega)
theorem addrs_len {n : Int} {ws : List ByteArray} (h : addrs n ws = true) : (2 ≤ n ∧ n ≤ 4) ∧ ws.length ≤ 40 := by
  unfold addrs at h
  rw [Bool.and_eq_true, Bool.and_eq_true, decide_eq_true_eq, decide_eq_true_eq] at h
  exact ⟨h.1, h.2.1⟩
theorem addrs_at {n : Int} {ws : List ByteArray} (h : addrs n ws = true) {k : Nat} {s : ByteArray} (hs : ws[k]? = some s) : wordB n s = true ∧ s.size = (txt ws 0).size ∧ hasS (ws.take k) s = false := by
  have h0 := addrs_len h
  have hk := lt_of_get hs
  rw [addrs_eq h0.1 h0.2] at h
  have := okN_all h k (by omega) (by omega)
  unfold okA at this
  rw [txt_get hs, Bool.and_eq_true, Bool.and_eq_true, decide_eq_true_eq] at this
  exact ⟨this.1, this.2.1, by simpa using this.2.2⟩
theorem wordB_size {n : Int} {s : ByteArray} (h : wordB n s = true) : 1 ≤ s.size ∧ s.size ≤ 8 := by
  unfold wordB at h
  rw [Bool.and_eq_true, decide_eq_true_eq] at h
  exact h.2
theorem addrs_size {n : Int} {ws : List ByteArray} (h : addrs n ws = true) : ∀ s ∈ ws, s.size = (txt ws 0).size ∧ s.size ≤ 8 := fun s hs => by
  obtain ⟨k, hk, rfl⟩ := List.mem_iff_getElem.1 hs
  have := addrs_at h (List.getElem?_eq_getElem hk)
  exact ⟨this.2.1, (wordB_size this.1).2⟩
theorem txt0_size {n : Int} {ws : List ByteArray} (h : addrs n ws = true) : (txt ws 0).size ≤ 8 := by
  cases ws with
  | nil => decide
  | cons s ws => exact (addrs_size h s (List.mem_cons_self ..)).2
def pcode (n : Int) (ws : List ByteArray) : Int := if addrs n ws = false then 1 else if ws.length < 2 then 3 else 0
def leastR (n : Int) (ws : List ByteArray) : Int × Int := if pcode n ws = 0 then (leastA farB ws, 0) else (0, pcode n ws)
def correctsR (n : Int) (ws : List ByteArray) : Int × Int := if pcode n ws = 0 then ((leastA farB ws - 1).tdiv 2, 0) else (0, pcode n ws)
theorem pcode_ok {n : Int} {ws : List ByteArray} (h : pcode n ws = 0) : addrs n ws = true ∧ 2 ≤ ws.length := by
  unfold pcode at h
  split at h
  · omega
  · rename_i h1
    split at h
    · omega
    · exact ⟨by simpa using h1, by omega⟩
theorem lpI_bd {f : ByteArray → ByteArray → Int} {x : ByteArray} (h : ∀ y, -1 ≤ f x y ∧ f x y ≤ 1048576) : ∀ (ys : List ByteArray) (m : Int), -1 ≤ m ∧ m ≤ 1048576 → -1 ≤ lpI f x ys m ∧ lpI f x ys m ≤ 1048576 := by
  intro ys
  induction ys with
  | nil => intro m hm; exact hm
  | cons y ys ih => intro m hm; rw [lpI]; apply ih; split; exact h y; exact hm
theorem lpO_bd {f : ByteArray → ByteArray → Int} {ws : List ByteArray} (h : ∀ i y, -1 ≤ f (txt ws i) y ∧ f (txt ws i) y ≤ 1048576) : ∀ (c i : Nat) (m : Int), -1 ≤ m ∧ m ≤ 1048576 → -1 ≤ lpO f ws i c m ∧ lpO f ws i c m ≤ 1048576 := by
  intro c
  induction c with
  | zero => intro i m hm; exact hm
  | succ c ih => intro i m hm; rw [lpO]; exact ih _ _ (lpI_bd (h i) _ _ hm)
theorem leastA_bd {n : Int} {ws : List ByteArray} (h : addrs n ws = true) : -1 ≤ leastA farB ws ∧ leastA farB ws ≤ 1048576 := by
  unfold leastA
  refine lpO_bd (fun i y => ?_) _ _ _ ⟨by decide, by decide⟩
  have h1 := farB_bd (txt ws i) y
  have h2 : (txt ws i).size ≤ 8 := by
    unfold txt
    cases hx : ws[i]? with
    | none => decide
    | some s => exact (addrs_size h s (List.mem_of_getElem? hx)).2
  omega
end Go.Proofs.YtaajkmjilcamgaaGreatDoor
