/-
  DERIVED: THE SHELF's CONTRACTS AT THIS DUMP, IN PLAIN WORDS (tools/lay-plain.mjs out of 'TryzShelf.lean', which tools/lay-shelf.mjs wrote): THE SAME DECLARATIONS UNDER THE SAME NAMES: 'import', 'namespace', 'open', 'def', 'theorem' AND NOTHING ELSE: no command of the shelf's: FOR A HAND-IN. Each laying: the table of numbers ('.._ren') and one theorem, a field a fact of the dump's own or the kernel's comparison; each contract: ONE APPLICATION.
-/
import Derived.Ground.NamesProg
import Derived.Ground.Names2Prog
import Derived.Shelf.LaysM
import Derived.Shelf.Strconv.Itoa3
import Derived.Shelf.Strconv.ErrVarAll
import Derived.Shelf.Strings.Cut
import Derived.Shelf.Strings.Split
import Derived.Shelf.Strings.OnBuilder
import Derived.Test.YtbjafckcpkhoaaaGreatDoorProg
import Derived.Test.YtbjafckcpkhoaaaGreatDoorX1
import Derived.Test.YtbjafckcpkhoaaaGreatDoorChecked
namespace Go.Proofs
open Go.Shelf
def Tryz.laysItoa_ren : Go.Shelf.Ren := ⟨fun | 171 => 16 | 243 => 37 | 246 => 58 | 283 => 73 | 284 => 74 | 285 => 75 | 286 => 76 | 129 => 90 | 317 => 89 | 318 => 91 | 319 => 92 | 320 => 93 | 337 => 98 | 338 => 99 | n => n, fun | 3 => 3 | 9 => 9 | 2 => 2 | 4 => 4 | 171 => 105 | 0 => 0 | 53 => 106 | 37 => 75 | 5 => 5 | 173 => 109 | 212 => 123 | 51 => 124 | 20 => 20 | 213 => 125 | 46 => 104 | 232 => 138 | 233 => 139 | n => n, fun | 17 => 3 | 18 => 6 | 19 => 7 | n => n⟩
theorem Tryz.laysItoa : Go.Proofs.LaysM.n171 Tryz.prog Tryz.laysItoa_ren := {
  mixed := by kernel_rfl
  f129 := Tryz.func90.trans (congrArg some (by kernel_rfl))
  f171 := Tryz.func16.trans (congrArg some (by kernel_rfl))
  f243 := Tryz.func37.trans (congrArg some (by kernel_rfl))
  f246 := Tryz.func58.trans (congrArg some (by kernel_rfl))
  f283 := Tryz.func73.trans (congrArg some (by kernel_rfl))
  f284 := Tryz.func74.trans (congrArg some (by kernel_rfl))
  f285 := Tryz.func75.trans (congrArg some (by kernel_rfl))
  f286 := Tryz.func76.trans (congrArg some (by kernel_rfl))
  f317 := Tryz.func89.trans (congrArg some (by kernel_rfl))
  f318 := Tryz.func91.trans (congrArg some (by kernel_rfl))
  f319 := Tryz.func92.trans (congrArg some (by kernel_rfl))
  f320 := Tryz.func93.trans (congrArg some (by kernel_rfl))
  f337 := Tryz.func98.trans (congrArg some (by kernel_rfl))
  f338 := Tryz.func99.trans (congrArg some (by kernel_rfl))
  t0 := Tryz.underlying0
  a0 := Tryz.isAgg0
  z0 := Tryz.sizeOf0
  v0 := Tryz.zeroValue0
  t2 := Tryz.underlying2
  a2 := Tryz.isAgg2
  z2 := Tryz.sizeOf2
  v2 := Tryz.zeroValue2
  t3 := Tryz.underlying3
  a3 := Tryz.isAgg3
  z3 := Tryz.sizeOf3
  v3 := Tryz.zeroValue3
  t4 := Tryz.underlying4
  a4 := Tryz.isAgg4
  z4 := Tryz.sizeOf4
  v4 := Tryz.zeroValue4
  t5 := Tryz.underlying5
  a5 := Tryz.isAgg5
  z5 := Tryz.sizeOf5
  v5 := Tryz.zeroValue5
  t9 := Tryz.underlying9
  a9 := Tryz.isAgg9
  z9 := Tryz.sizeOf9
  v9 := Tryz.zeroValue9
  t20 := Tryz.underlying20
  a20 := Tryz.isAgg20
  z20 := Tryz.sizeOf20
  v20 := Tryz.zeroValue20
  t37 := Tryz.underlying75
  a37 := Tryz.isAgg75
  z37 := Tryz.sizeOf75
  v37 := Tryz.zeroValue75
  t46 := Tryz.underlying104
  a46 := Tryz.isAgg104
  z46 := Tryz.sizeOf104
  v46 := Tryz.zeroValue104
  t51 := Tryz.underlying124
  a51 := Tryz.isAgg124
  z51 := Tryz.sizeOf124
  v51 := Tryz.zeroValue124
  t53 := Tryz.underlying106
  a53 := Tryz.isAgg106
  z53 := Tryz.sizeOf106
  v53 := Tryz.zeroValue106
  t171 := Tryz.underlying105
  a171 := Tryz.isAgg105
  z171 := Tryz.sizeOf105
  v171 := Tryz.zeroValue105
  t173 := Tryz.underlying109
  a173 := Tryz.isAgg109
  z173 := Tryz.sizeOf109
  v173 := Tryz.zeroValue109
  t212 := Tryz.underlying123
  a212 := Tryz.isAgg123
  z212 := Tryz.sizeOf123
  v212 := Tryz.zeroValue123
  t213 := Tryz.underlying125
  a213 := Tryz.isAgg125
  z213 := Tryz.sizeOf125
  t232 := Tryz.underlying138
  a232 := Tryz.isAgg138
  z232 := Tryz.sizeOf138
  v232 := Tryz.zeroValue138
  t233 := Tryz.underlying139
  a233 := Tryz.isAgg139
  z233 := Tryz.sizeOf139
  v233 := Tryz.zeroValue139
  g17 := by kernel_rfl
  g18 := by kernel_rfl
  g19 := by kernel_rfl
  i0 := by kernel_rfl
  i2 := by kernel_rfl
  i3 := by kernel_rfl
  i4 := by kernel_rfl
  i5 := by kernel_rfl
  i9 := by kernel_rfl
  i20 := by kernel_rfl
  i37 := by kernel_rfl
  i46 := by kernel_rfl
  i51 := by kernel_rfl
  i53 := by kernel_rfl
  i171 := by kernel_rfl
  i173 := by kernel_rfl
  i212 := by kernel_rfl
  i232 := by kernel_rfl
  i233 := by kernel_rfl
  m17 := by kernel_rfl
  m18 := by kernel_rfl
  m19 := by kernel_rfl }
def Tryz.laysAtoi_ren : Go.Shelf.Ren := ⟨fun | 172 => 23 | 244 => 43 | 245 => 44 | 247 => 65 | 279 => 66 | 280 => 67 | 281 => 68 | 282 => 69 | 287 => 84 | 316 => 85 | 171 => 16 | 205 => 86 | 321 => 96 | 322 => 97 | 243 => 37 | 246 => 58 | 283 => 73 | 284 => 74 | 285 => 75 | 286 => 76 | 129 => 90 | 317 => 89 | 318 => 91 | 319 => 92 | 320 => 93 | 337 => 98 | 338 => 99 | n => n, fun | 9 => 9 | 3 => 3 | 75 => 58 | 76 => 59 | 4 => 4 | 5 => 5 | 167 => 97 | 37 => 75 | 0 => 0 | 85 => 98 | 2 => 2 | 168 => 100 | 53 => 106 | 175 => 115 | 46 => 104 | 210 => 119 | 127 => 92 | 145 => 136 | 143 => 134 | 21 => 21 | 171 => 105 | 173 => 109 | 212 => 123 | 51 => 124 | 20 => 20 | 213 => 125 | 232 => 138 | 233 => 139 | 80 => 79 | n => n, fun | 15 => 1 | 16 => 2 | 17 => 3 | 18 => 6 | 19 => 7 | n => n⟩
theorem Tryz.laysAtoi : Go.Proofs.LaysC.n172 Tryz.prog Tryz.laysAtoi_ren := {
  mixed := by kernel_rfl
  f129 := Tryz.func90.trans (congrArg some (by kernel_rfl))
  f171 := Tryz.func16.trans (congrArg some (by kernel_rfl))
  f172 := Tryz.func23.trans (congrArg some (by kernel_rfl))
  f205 := Tryz.func86.trans (congrArg some (by kernel_rfl))
  f243 := Tryz.func37.trans (congrArg some (by kernel_rfl))
  f244 := Tryz.func43.trans (congrArg some (by kernel_rfl))
  f245 := Tryz.func44.trans (congrArg some (by kernel_rfl))
  f246 := Tryz.func58.trans (congrArg some (by kernel_rfl))
  f247 := Tryz.func65.trans (congrArg some (by kernel_rfl))
  f279 := Tryz.func66.trans (congrArg some (by kernel_rfl))
  f280 := Tryz.func67.trans (congrArg some (by kernel_rfl))
  f281 := Tryz.func68.trans (congrArg some (by kernel_rfl))
  f282 := Tryz.func69.trans (congrArg some (by kernel_rfl))
  f283 := Tryz.func73.trans (congrArg some (by kernel_rfl))
  f284 := Tryz.func74.trans (congrArg some (by kernel_rfl))
  f285 := Tryz.func75.trans (congrArg some (by kernel_rfl))
  f286 := Tryz.func76.trans (congrArg some (by kernel_rfl))
  f287 := Tryz.func84.trans (congrArg some (by kernel_rfl))
  f316 := Tryz.func85.trans (congrArg some (by kernel_rfl))
  f317 := Tryz.func89.trans (congrArg some (by kernel_rfl))
  f318 := Tryz.func91.trans (congrArg some (by kernel_rfl))
  f319 := Tryz.func92.trans (congrArg some (by kernel_rfl))
  f320 := Tryz.func93.trans (congrArg some (by kernel_rfl))
  f321 := Tryz.func96.trans (congrArg some (by kernel_rfl))
  f322 := Tryz.func97.trans (congrArg some (by kernel_rfl))
  f337 := Tryz.func98.trans (congrArg some (by kernel_rfl))
  f338 := Tryz.func99.trans (congrArg some (by kernel_rfl))
  t0 := Tryz.underlying0
  a0 := Tryz.isAgg0
  z0 := Tryz.sizeOf0
  v0 := Tryz.zeroValue0
  t2 := Tryz.underlying2
  a2 := Tryz.isAgg2
  z2 := Tryz.sizeOf2
  v2 := Tryz.zeroValue2
  t3 := Tryz.underlying3
  a3 := Tryz.isAgg3
  z3 := Tryz.sizeOf3
  v3 := Tryz.zeroValue3
  t4 := Tryz.underlying4
  a4 := Tryz.isAgg4
  z4 := Tryz.sizeOf4
  v4 := Tryz.zeroValue4
  t5 := Tryz.underlying5
  a5 := Tryz.isAgg5
  z5 := Tryz.sizeOf5
  v5 := Tryz.zeroValue5
  t9 := Tryz.underlying9
  a9 := Tryz.isAgg9
  z9 := Tryz.sizeOf9
  v9 := Tryz.zeroValue9
  t20 := Tryz.underlying20
  a20 := Tryz.isAgg20
  z20 := Tryz.sizeOf20
  v20 := Tryz.zeroValue20
  t21 := Tryz.underlying21
  a21 := Tryz.isAgg21
  z21 := Tryz.sizeOf21
  v21 := Tryz.zeroValue21
  t37 := Tryz.underlying75
  a37 := Tryz.isAgg75
  z37 := Tryz.sizeOf75
  v37 := Tryz.zeroValue75
  t46 := Tryz.underlying104
  a46 := Tryz.isAgg104
  z46 := Tryz.sizeOf104
  v46 := Tryz.zeroValue104
  t51 := Tryz.underlying124
  a51 := Tryz.isAgg124
  z51 := Tryz.sizeOf124
  v51 := Tryz.zeroValue124
  t53 := Tryz.underlying106
  a53 := Tryz.isAgg106
  z53 := Tryz.sizeOf106
  v53 := Tryz.zeroValue106
  t75 := Tryz.underlying58
  a75 := Tryz.isAgg58
  z75 := Tryz.sizeOf58
  v75 := Tryz.zeroValue58
  t76 := Tryz.underlying59
  a76 := Tryz.isAgg59
  z76 := Tryz.sizeOf59
  v76 := Tryz.zeroValue59
  t85 := Tryz.underlying98
  a85 := Tryz.isAgg98
  z85 := Tryz.sizeOf98
  v85 := Tryz.zeroValue98
  t127 := Tryz.underlying92
  a127 := Tryz.isAgg92
  z127 := Tryz.sizeOf92
  v127 := Tryz.zeroValue92
  t143 := Tryz.underlying134
  a143 := Tryz.isAgg134
  z143 := Tryz.sizeOf134
  v143 := Tryz.zeroValue134
  t145 := Tryz.underlying136
  a145 := Tryz.isAgg136
  z145 := Tryz.sizeOf136
  v145 := Tryz.zeroValue136
  t167 := Tryz.underlying97
  a167 := Tryz.isAgg97
  z167 := Tryz.sizeOf97
  v167 := Tryz.zeroValue97
  t168 := Tryz.underlying100
  a168 := Tryz.isAgg100
  z168 := Tryz.sizeOf100
  v168 := Tryz.zeroValue100
  t171 := Tryz.underlying105
  a171 := Tryz.isAgg105
  z171 := Tryz.sizeOf105
  v171 := Tryz.zeroValue105
  t173 := Tryz.underlying109
  a173 := Tryz.isAgg109
  z173 := Tryz.sizeOf109
  v173 := Tryz.zeroValue109
  t175 := Tryz.underlying115
  a175 := Tryz.isAgg115
  z175 := Tryz.sizeOf115
  v175 := Tryz.zeroValue115
  t210 := Tryz.underlying119
  a210 := Tryz.isAgg119
  z210 := Tryz.sizeOf119
  v210 := Tryz.zeroValue119
  t212 := Tryz.underlying123
  a212 := Tryz.isAgg123
  z212 := Tryz.sizeOf123
  v212 := Tryz.zeroValue123
  t213 := Tryz.underlying125
  a213 := Tryz.isAgg125
  z213 := Tryz.sizeOf125
  t232 := Tryz.underlying138
  a232 := Tryz.isAgg138
  z232 := Tryz.sizeOf138
  v232 := Tryz.zeroValue138
  t233 := Tryz.underlying139
  a233 := Tryz.isAgg139
  z233 := Tryz.sizeOf139
  v233 := Tryz.zeroValue139
  g15 := by kernel_rfl
  g16 := by kernel_rfl
  g17 := by kernel_rfl
  g18 := by kernel_rfl
  g19 := by kernel_rfl
  t80 := Tryz.underlying79
  a80 := Tryz.isAgg79
  z80 := Tryz.sizeOf79
  v80 := Tryz.zeroValue79
  i0 := by kernel_rfl
  i2 := by kernel_rfl
  i3 := by kernel_rfl
  i4 := by kernel_rfl
  i5 := by kernel_rfl
  i9 := by kernel_rfl
  i20 := by kernel_rfl
  i21 := by kernel_rfl
  i37 := by kernel_rfl
  i46 := by kernel_rfl
  i51 := by kernel_rfl
  i53 := by kernel_rfl
  i75 := by kernel_rfl
  i76 := by kernel_rfl
  i80 := by kernel_rfl
  i85 := by kernel_rfl
  i127 := by kernel_rfl
  i143 := by kernel_rfl
  i145 := by kernel_rfl
  i167 := by kernel_rfl
  i168 := by kernel_rfl
  i171 := by kernel_rfl
  i173 := by kernel_rfl
  i175 := by kernel_rfl
  i210 := by kernel_rfl
  i212 := by kernel_rfl
  i232 := by kernel_rfl
  i233 := by kernel_rfl
  m15 := by kernel_rfl
  m16 := by kernel_rfl
  m17 := by kernel_rfl
  m18 := by kernel_rfl
  m19 := by kernel_rfl
  c0 := by kernel_rfl
  c2 := by kernel_rfl
  c3 := by kernel_rfl
  c4 := by kernel_rfl
  c5 := by kernel_rfl
  c9 := by kernel_rfl
  c20 := by kernel_rfl
  c21 := by kernel_rfl
  c37 := by kernel_rfl
  c46 := by kernel_rfl
  c51 := by kernel_rfl
  c53 := by kernel_rfl
  c75 := by kernel_rfl
  c76 := by kernel_rfl
  c80 := by kernel_rfl
  c85 := by kernel_rfl
  c127 := by kernel_rfl
  c143 := by kernel_rfl
  c145 := by kernel_rfl
  c167 := by kernel_rfl
  c168 := by kernel_rfl
  c171 := by kernel_rfl
  c173 := by kernel_rfl
  c175 := by kernel_rfl
  c210 := by kernel_rfl
  c212 := by kernel_rfl
  c213 := by kernel_rfl
  c232 := by kernel_rfl
  c233 := by kernel_rfl }
def Tryz.laysCut_ren : Go.Shelf.Ren := ⟨fun | 145 => 19 | 220 => 42 | 219 => 64 | 217 => 80 | 225 => 81 | 224 => 82 | 267 => 83 | 266 => 94 | 314 => 95 | n => n, fun | 9 => 9 | 4 => 4 | 59 => 51 | 3 => 3 | 5 => 5 | 46 => 104 | 146 => 131 | 51 => 124 | n => n, fun | 1 => 0 | n => n⟩
theorem Tryz.laysCut : Go.Proofs.Lays.n145 Tryz.prog Tryz.laysCut_ren := {
  mixed := by kernel_rfl
  f145 := Tryz.func19.trans (congrArg some (by kernel_rfl))
  f217 := Tryz.func80.trans (congrArg some (by kernel_rfl))
  f219 := Tryz.func64.trans (congrArg some (by kernel_rfl))
  f220 := Tryz.func42.trans (congrArg some (by kernel_rfl))
  f224 := Tryz.func82.trans (congrArg some (by kernel_rfl))
  f225 := Tryz.func81.trans (congrArg some (by kernel_rfl))
  f266 := Tryz.func94.trans (congrArg some (by kernel_rfl))
  f267 := Tryz.func83.trans (congrArg some (by kernel_rfl))
  f314 := Tryz.func95.trans (congrArg some (by kernel_rfl))
  t3 := Tryz.underlying3
  a3 := Tryz.isAgg3
  z3 := Tryz.sizeOf3
  v3 := Tryz.zeroValue3
  t4 := Tryz.underlying4
  a4 := Tryz.isAgg4
  z4 := Tryz.sizeOf4
  v4 := Tryz.zeroValue4
  t5 := Tryz.underlying5
  a5 := Tryz.isAgg5
  z5 := Tryz.sizeOf5
  v5 := Tryz.zeroValue5
  t9 := Tryz.underlying9
  a9 := Tryz.isAgg9
  z9 := Tryz.sizeOf9
  v9 := Tryz.zeroValue9
  t46 := Tryz.underlying104
  a46 := Tryz.isAgg104
  z46 := Tryz.sizeOf104
  v46 := Tryz.zeroValue104
  t51 := Tryz.underlying124
  a51 := Tryz.isAgg124
  z51 := Tryz.sizeOf124
  v51 := Tryz.zeroValue124
  t59 := Tryz.underlying51
  a59 := Tryz.isAgg51
  z59 := Tryz.sizeOf51
  v59 := Tryz.zeroValue51
  t146 := Tryz.underlying131
  a146 := Tryz.isAgg131
  z146 := Tryz.sizeOf131
  v146 := Tryz.zeroValue131
  g1 := by kernel_rfl }
def Tryz.laysSplit_ren : Go.Shelf.Ren := ⟨fun | 146 => 24 | 221 => 45 | 268 => 70 | 138 => 71 | 143 => 63 | 195 => 87 | 197 => 62 | 218 => 88 | 219 => 64 | 260 => 79 | 217 => 80 | 225 => 81 | 224 => 82 | 267 => 83 | 266 => 94 | 314 => 95 | n => n, fun | 9 => 9 | 31 => 41 | 3 => 3 | 4 => 4 | 0 => 0 | 105 => 94 | 21 => 21 | 5 => 5 | 46 => 104 | 119 => 127 | 139 => 130 | 138 => 129 | 146 => 131 | 51 => 124 | n => n, fun | 1 => 0 | 3 => 4 | 4 => 5 | n => n⟩
theorem Tryz.laysSplit : Go.Proofs.Lays.n146 Tryz.prog Tryz.laysSplit_ren := {
  mixed := by kernel_rfl
  f138 := Tryz.func71.trans (congrArg some (by kernel_rfl))
  f143 := Tryz.func63.trans (congrArg some (by kernel_rfl))
  f146 := Tryz.func24.trans (congrArg some (by kernel_rfl))
  f195 := Tryz.func87.trans (congrArg some (by kernel_rfl))
  f197 := Tryz.func62.trans (congrArg some (by kernel_rfl))
  f217 := Tryz.func80.trans (congrArg some (by kernel_rfl))
  f218 := Tryz.func88.trans (congrArg some (by kernel_rfl))
  f219 := Tryz.func64.trans (congrArg some (by kernel_rfl))
  f221 := Tryz.func45.trans (congrArg some (by kernel_rfl))
  f224 := Tryz.func82.trans (congrArg some (by kernel_rfl))
  f225 := Tryz.func81.trans (congrArg some (by kernel_rfl))
  f260 := Tryz.func79.trans (congrArg some (by kernel_rfl))
  f266 := Tryz.func94.trans (congrArg some (by kernel_rfl))
  f267 := Tryz.func83.trans (congrArg some (by kernel_rfl))
  f268 := Tryz.func70.trans (congrArg some (by kernel_rfl))
  f314 := Tryz.func95.trans (congrArg some (by kernel_rfl))
  t0 := Tryz.underlying0
  a0 := Tryz.isAgg0
  z0 := Tryz.sizeOf0
  v0 := Tryz.zeroValue0
  t3 := Tryz.underlying3
  a3 := Tryz.isAgg3
  z3 := Tryz.sizeOf3
  v3 := Tryz.zeroValue3
  t4 := Tryz.underlying4
  a4 := Tryz.isAgg4
  z4 := Tryz.sizeOf4
  v4 := Tryz.zeroValue4
  t5 := Tryz.underlying5
  a5 := Tryz.isAgg5
  z5 := Tryz.sizeOf5
  v5 := Tryz.zeroValue5
  t9 := Tryz.underlying9
  a9 := Tryz.isAgg9
  z9 := Tryz.sizeOf9
  v9 := Tryz.zeroValue9
  t21 := Tryz.underlying21
  a21 := Tryz.isAgg21
  z21 := Tryz.sizeOf21
  v21 := Tryz.zeroValue21
  t31 := Tryz.underlying41
  a31 := Tryz.isAgg41
  z31 := Tryz.sizeOf41
  v31 := Tryz.zeroValue41
  t46 := Tryz.underlying104
  a46 := Tryz.isAgg104
  z46 := Tryz.sizeOf104
  v46 := Tryz.zeroValue104
  t51 := Tryz.underlying124
  a51 := Tryz.isAgg124
  z51 := Tryz.sizeOf124
  v51 := Tryz.zeroValue124
  t105 := Tryz.underlying94
  a105 := Tryz.isAgg94
  z105 := Tryz.sizeOf94
  v105 := Tryz.zeroValue94
  t119 := Tryz.underlying127
  a119 := Tryz.isAgg127
  z119 := Tryz.sizeOf127
  t138 := Tryz.underlying129
  a138 := Tryz.isAgg129
  z138 := Tryz.sizeOf129
  v138 := Tryz.zeroValue129
  t139 := Tryz.underlying130
  a139 := Tryz.isAgg130
  z139 := Tryz.sizeOf130
  v139 := Tryz.zeroValue130
  t146 := Tryz.underlying131
  a146 := Tryz.isAgg131
  z146 := Tryz.sizeOf131
  v146 := Tryz.zeroValue131
  g1 := by kernel_rfl
  g3 := by kernel_rfl
  g4 := by kernel_rfl }
def Tryz.laysIndex_ren : Go.Shelf.Ren := ⟨fun | 143 => 63 | 219 => 64 | 217 => 80 | 225 => 81 | 224 => 82 | 267 => 83 | 266 => 94 | 314 => 95 | n => n, fun | 9 => 9 | 3 => 3 | 4 => 4 | 5 => 5 | 46 => 104 | 146 => 131 | 51 => 124 | n => n, fun | 1 => 0 | n => n⟩
theorem Tryz.laysIndex : Go.Proofs.Lays.n143 Tryz.prog Tryz.laysIndex_ren := {
  mixed := by kernel_rfl
  f143 := Tryz.func63.trans (congrArg some (by kernel_rfl))
  f217 := Tryz.func80.trans (congrArg some (by kernel_rfl))
  f219 := Tryz.func64.trans (congrArg some (by kernel_rfl))
  f224 := Tryz.func82.trans (congrArg some (by kernel_rfl))
  f225 := Tryz.func81.trans (congrArg some (by kernel_rfl))
  f266 := Tryz.func94.trans (congrArg some (by kernel_rfl))
  f267 := Tryz.func83.trans (congrArg some (by kernel_rfl))
  f314 := Tryz.func95.trans (congrArg some (by kernel_rfl))
  t3 := Tryz.underlying3
  a3 := Tryz.isAgg3
  z3 := Tryz.sizeOf3
  v3 := Tryz.zeroValue3
  t4 := Tryz.underlying4
  a4 := Tryz.isAgg4
  z4 := Tryz.sizeOf4
  v4 := Tryz.zeroValue4
  t5 := Tryz.underlying5
  a5 := Tryz.isAgg5
  z5 := Tryz.sizeOf5
  v5 := Tryz.zeroValue5
  t9 := Tryz.underlying9
  a9 := Tryz.isAgg9
  z9 := Tryz.sizeOf9
  v9 := Tryz.zeroValue9
  t46 := Tryz.underlying104
  a46 := Tryz.isAgg104
  z46 := Tryz.sizeOf104
  v46 := Tryz.zeroValue104
  t51 := Tryz.underlying124
  a51 := Tryz.isAgg124
  z51 := Tryz.sizeOf124
  v51 := Tryz.zeroValue124
  t146 := Tryz.underlying131
  a146 := Tryz.isAgg131
  z146 := Tryz.sizeOf131
  v146 := Tryz.zeroValue131
  g1 := by kernel_rfl }
def Tryz.laysJoin_ren : Go.Shelf.Ren := ⟨fun | 156 => 17 | 165 => 38 | 166 => 39 | 169 => 40 | 240 => 59 | 241 => 60 | 276 => 77 | 277 => 78 | n => n, fun | 31 => 41 | 9 => 9 | 3 => 3 | 4 => 4 | 0 => 0 | 20 => 20 | 72 => 77 | 76 => 59 | 70 => 74 | 37 => 75 | 75 => 58 | 127 => 92 | 164 => 111 | 5 => 5 | 80 => 79 | n => n, fun | n => n⟩
theorem Tryz.laysJoin : Go.Proofs.Lays.n156 Tryz.prog Tryz.laysJoin_ren := {
  mixed := by kernel_rfl
  f156 := Tryz.func17.trans (congrArg some (by kernel_rfl))
  f165 := Tryz.func38.trans (congrArg some (by kernel_rfl))
  f166 := Tryz.func39.trans (congrArg some (by kernel_rfl))
  f169 := Tryz.func40.trans (congrArg some (by kernel_rfl))
  f240 := Tryz.func59.trans (congrArg some (by kernel_rfl))
  f241 := Tryz.func60.trans (congrArg some (by kernel_rfl))
  f276 := Tryz.func77.trans (congrArg some (by kernel_rfl))
  f277 := Tryz.func78.trans (congrArg some (by kernel_rfl))
  t0 := Tryz.underlying0
  a0 := Tryz.isAgg0
  z0 := Tryz.sizeOf0
  v0 := Tryz.zeroValue0
  t3 := Tryz.underlying3
  a3 := Tryz.isAgg3
  z3 := Tryz.sizeOf3
  v3 := Tryz.zeroValue3
  t4 := Tryz.underlying4
  a4 := Tryz.isAgg4
  z4 := Tryz.sizeOf4
  v4 := Tryz.zeroValue4
  t9 := Tryz.underlying9
  a9 := Tryz.isAgg9
  z9 := Tryz.sizeOf9
  v9 := Tryz.zeroValue9
  t20 := Tryz.underlying20
  a20 := Tryz.isAgg20
  z20 := Tryz.sizeOf20
  v20 := Tryz.zeroValue20
  t31 := Tryz.underlying41
  a31 := Tryz.isAgg41
  z31 := Tryz.sizeOf41
  v31 := Tryz.zeroValue41
  t37 := Tryz.underlying75
  a37 := Tryz.isAgg75
  z37 := Tryz.sizeOf75
  v37 := Tryz.zeroValue75
  t70 := Tryz.underlying74
  a70 := Tryz.isAgg74
  z70 := Tryz.sizeOf74
  v70 := Tryz.zeroValue74
  t72 := Tryz.underlying77
  a72 := Tryz.isAgg77
  z72 := Tryz.sizeOf77
  v72 := Tryz.zeroValue77
  t75 := Tryz.underlying58
  a75 := Tryz.isAgg58
  z75 := Tryz.sizeOf58
  v75 := Tryz.zeroValue58
  t76 := Tryz.underlying59
  a76 := Tryz.isAgg59
  z76 := Tryz.sizeOf59
  v76 := Tryz.zeroValue59
  t127 := Tryz.underlying92
  a127 := Tryz.isAgg92
  z127 := Tryz.sizeOf92
  v127 := Tryz.zeroValue92
  t164 := Tryz.underlying111
  a164 := Tryz.isAgg111
  z164 := Tryz.sizeOf111
  v164 := Tryz.zeroValue111 }
theorem Tryz.Builder_Extra_156 : Builder.Extra Tryz.prog Tryz.laysJoin_ren where
  sizeBuilder := by kernel_rfl
  liesBuilder := by kernel_rfl
  t5 := Tryz.underlying5
  a5 := Tryz.isAgg5
  z5 := Tryz.sizeOf5
  v5 := Tryz.zeroValue5
  infoByte := by kernel_rfl
  cellsByte := by kernel_rfl
  sizeByte := by kernel_rfl
  neB5 := by decide
end Go.Proofs


namespace Go.Eng
structure Pol where
  kind : Int
  val : Int
instance : DecidableEq Pol := fun a b => decidable_of_iff (a.kind = b.kind ∧ a.val = b.val) (by cases a; cases b; simp)
instance : Inhabited Pol := ⟨⟨0, 0⟩⟩
abbrev encP (p : Pol) : List Value := [.int .i64 p.kind, .int .i64 p.val]
abbrev RdP (w : World) (A : Option Addr) (n : Nat) (xs : List Pol) : Prop := Rd (Flat encP) 2 w A n xs
namespace Pol
def isB (k : Int) : Bool := decide (1 ≤ k) && decide (k ≤ 13)
def leastI (k : Int) : Int := if k = 10 then 0 else if k = 12 then 0 else 1
def mostI (k : Int) : Int := if k = 6 then 3 else if k = 8 then 3 else if k = 9 then 4 else if k = 10 then 1000000 else if k = 11 then 3 else if k = 12 then 100 else if k = 13 then 4 else 2
def validB (p : Pol) : Bool := (isB p.kind && decide (leastI p.kind ≤ p.val)) && decide (p.val ≤ mostI p.kind)
end Pol
end Go.Eng


set_option linter.unusedVariables false
set_option maxRecDepth 100000
namespace Go.Eng
open Go.RowKit Go.Shelf Go.Proofs Pol

theorem zero80 : Zero Tryz.prog 44 (.agg #[.string ByteArray.empty, .slice none 0 0, .int .i64 0, .string ByteArray.empty, .slice none 0 0, .int .i64 0, .string ByteArray.empty, .slice none 0 0, .int .i64 0, .string ByteArray.empty, .slice none 0 0, .int .i64 0, .string ByteArray.empty, .slice none 0 0, .int .i64 0, .string ByteArray.empty, .slice none 0 0, .int .i64 0, .string ByteArray.empty, .slice none 0 0, .int .i64 0, .string ByteArray.empty, .slice none 0 0, .int .i64 0, .string ByteArray.empty, .slice none 0 0, .int .i64 0, .string ByteArray.empty, .slice none 0 0, .int .i64 0, .string ByteArray.empty, .slice none 0 0, .int .i64 0, .string ByteArray.empty, .slice none 0 0, .int .i64 0, .string ByteArray.empty, .slice none 0 0, .int .i64 0]) := fun w => by kernel_rfl
theorem sz80 : Sz Tryz.prog 44 39 := fun w => by kernel_rfl
theorem agg80 : AggT Tryz.prog 44 true := fun w => by kernel_rfl
theorem ent65 : Enters Tryz.prog 15 := enters_of Tryz.func15 (by kernel_rfl) rfl
theorem und77 : Und Tryz.prog 41 (.slice 9) := by unfold Und; kernel_rfl
theorem fa46_0 : FieldAt Tryz.prog 37 0 0 := fun b o w => by kernel_rfl
theorem agg3 : AggT Tryz.prog 3 false := fun w => by kernel_rfl
theorem ent52 : Enters Tryz.prog 57 := enters_of Tryz.func57 (by kernel_rfl) rfl
theorem fa46_1 : FieldAt Tryz.prog 37 1 1 := fun b o w => by kernel_rfl
theorem mixed : Tryz.prog.follows .mixedOrders = true := by kernel_rfl
theorem ent59 : Enters Tryz.prog 52 := enters_of Tryz.func52 (by kernel_rfl) rfl
theorem und22 : Und Tryz.prog 22 (.slice 37) := by unfold Und; kernel_rfl
theorem sz46 : Sz Tryz.prog 37 2 := fun w => by kernel_rfl
theorem agg46 : AggT Tryz.prog 37 true := fun w => by kernel_rfl
theorem zero46 : Zero Tryz.prog 37 (.agg #[.int .i64 0, .int .i64 0]) := fun w => by kernel_rfl
theorem ent25 : Enters Tryz.prog 36 := enters_of Tryz.func36 (by kernel_rfl) rfl

theorem is_spec {w : World} {k : Int} : Ret Tryz.prog 57 #[.int .i64 k] w (fun v w' => v = .bool (isB k) ∧ Below w.heap.size w w') := by
  refine ret_of (args := [.int .i64 k]) Tryz.func57 rfl Tryz.ntmps57 rfl (rs := [.tmp 2]) rfl ?_
  refine wc_seq ?_
  refine wc_region ?_
  refine wl_op rfl (op_assign rfl rfl ?_)
  refine (wl_done (then_norm ?_))
  refine wc_seq ?_
  refine wc_text [(0, .int .i64 k)] ⟨rfl, trivial⟩ [fun v _ => v = .int .i64 k, fun v _ => v = .bool (decide (1 ≤ k)), fun v _ => v = .bool (decide (1 ≤ k)), fun v _ => v = (bif (decide (1 ≤ k)) then (.int .i64 k) else undef), fun v _ => v = (bif (decide (1 ≤ k)) then (.bool (decide (k ≤ 13))) else undef), fun v _ => v = .bool ((decide (1 ≤ k)) && (decide (k ≤ 13))), fun v _ => v = .bool ((decide (1 ≤ k)) && (decide (k ≤ 13)))] [[], [0], [1], [2], [2, 3], [2, 4], [5]] [6] rfl rfl rfl ⟨fun _ _ _ _ h => h, fun _ _ _ _ h => h, fun _ _ _ _ h => h, fun _ _ _ _ h => h, fun _ _ _ _ h => h, fun _ _ _ _ h => h, fun _ _ _ _ h => h, trivial⟩ ⟨?_, ?_, ?_, ?_, ?_, ?_, ?_, trivial⟩ ?_
  · intro W1 hW2
    refine gather_nil ?_
    refine opg_none rfl ?_
    exact op_move rfl rfl ⟨told rfl rfl rfl, (Below.refl _ _)⟩
  · intro W1 hW2
    rintro _ rfl
    refine gather_nil ?_
    refine opg_none rfl ?_
    exact op_geq rfl rfl rfl ⟨told rfl rfl rfl, (Below.refl _ _)⟩
  · intro W1 hW2
    rintro _ rfl
    refine gather_nil ?_
    refine opg_none rfl ?_
    exact op_move rfl rfl ⟨told rfl rfl rfl, (Below.refl _ _)⟩
  · intro W1 hW2
    rintro _ rfl
    refine gather_nil ?_
    refine opg_t1 rfl rfl (fun hg3 => ?_) (fun h => by rw [h, cond_false])
    exact op_move rfl rfl ⟨told rfl rfl (by rw [hg3, cond_true]), (Below.refl _ _)⟩
  · intro W1 hW2
    rintro _ rfl
    intro v4 (hv5 : v4 = bif (decide (1 ≤ k)) then (.int .i64 k) else undef)
    refine gather_nil ?_
    refine opg_t1 rfl rfl (fun hg6 => ?_) (fun h => by rw [h, cond_false])
    have hd7 := of_decide_eq_true hg6
    obtain rfl : v4 = .int .i64 k := by rw [hv5, hg6, cond_true]
    exact op_leq rfl rfl rfl ⟨told rfl rfl (by rw [hg6, cond_true]), (Below.refl _ _)⟩
  · intro W1 hW2
    rintro _ rfl
    intro v8 (hv9 : v8 = bif (decide (1 ≤ k)) then (.bool (decide (k ≤ 13))) else undef)
    refine gather_nil ?_
    refine opg_none rfl ?_
    exact op_and rfl rfl rfl (fun h => by rw [hv9, h, cond_true]) rfl ⟨told rfl rfl rfl, (Below.refl _ _)⟩
  · intro W1 hW2
    rintro _ rfl
    refine gather_nil ?_
    refine opg_none rfl ?_
    exact op_assign rfl rfl ⟨told rfl rfl rfl, (Below.refl _ _)⟩
  intro W10 hW11
  rintro _ rfl
  refine gather_nil ?_
  refine (then_norm ?_)
  refine wc_ret ?_
  have hB12 : Below w.heap.size w W10 := (below_step (Below.refl _ _) hW11)
  refine ⟨[_], ⟨rfl, trivial⟩, ⟨?_, hB12⟩⟩
  exact rfl

/-- what kinds() gives -/
def IsKinds (v : Value) : Prop := ∃ b1 b2 b3 b4 b5 b6 b7 b8 b9 b11 b13 : Nat, v = .agg #[.string (ByteArray.mk #[116, 104, 114, 101, 97, 100]), .slice (some ⟨b1, 0, none⟩) 2 2, .int .i64 2, .string (ByteArray.mk #[108, 105, 102, 101, 115, 112, 97, 110]), .slice (some ⟨b2, 0, none⟩) 2 2, .int .i64 2, .string (ByteArray.mk #[117, 110, 105, 113, 117, 101]), .slice (some ⟨b3, 0, none⟩) 2 2, .int .i64 2, .string (ByteArray.mk #[97, 115, 115, 105, 103, 110]), .slice (some ⟨b4, 0, none⟩) 2 2, .int .i64 2, .string (ByteArray.mk #[114, 101, 116, 97, 105, 110]), .slice (some ⟨b5, 0, none⟩) 2 2, .int .i64 2, .string (ByteArray.mk #[112, 114, 111, 99, 101, 115, 115]), .slice (some ⟨b6, 0, none⟩) 3 3, .int .i64 3, .string (ByteArray.mk #[97, 99, 116, 105, 118, 97, 116, 101]), .slice (some ⟨b7, 0, none⟩) 2 2, .int .i64 2, .string (ByteArray.mk #[114, 101, 98, 105, 110, 100]), .slice (some ⟨b8, 0, none⟩) 3 3, .int .i64 3, .string (ByteArray.mk #[99, 101, 114, 116, 97, 105, 110, 116, 121]), .slice (some ⟨b9, 0, none⟩) 4 4, .int .i64 4, .string (ByteArray.mk #[108, 105, 109, 105, 116]), .slice none 0 0, .int .i64 1000000, .string (ByteArray.mk #[114, 111, 117, 116, 101]), .slice (some ⟨b11, 0, none⟩) 3 3, .int .i64 3, .string (ByteArray.mk #[112, 114, 105, 111, 114, 105, 116, 121]), .slice none 0 0, .int .i64 100, .string (ByteArray.mk #[111, 114, 100, 101, 114]), .slice (some ⟨b13, 0, none⟩) 4 4, .int .i64 4]
def wordsN (k : Int) : Nat := if k = 6 then 3 else if k = 8 then 3 else if k = 9 then 4 else if k = 10 then 0 else if k = 11 then 3 else if k = 12 then 0 else if k = 13 then 4 else 2
/-- one of the kinds -/
def IsKind (k : Int) (v : Value) : Prop := ∃ (s : ByteArray) (A : Option Addr), v = .agg #[.string s, .slice A (wordsN k) (wordsN k), .int .i64 (mostI k)]

theorem kinds_spec {w : World} : Ret Tryz.prog 15 #[] w (fun v w' => IsKinds v ∧ Below w.heap.size w w') := by
  refine ret_of (args := []) Tryz.func15 rfl Tryz.ntmps15 rfl (rs := [.cell 0 44]) rfl ?_
  refine wc_seq ?_
  refine wc_region ?_
  refine wl_op rfl (op_alloc zero80 rfl ?_)
  intro W1 b2 hN3
  have hb4 : W1.heap[b2]? = some (.cells #[.string ByteArray.empty, .slice none 0 0, .int .i64 0, .string ByteArray.empty, .slice none 0 0, .int .i64 0, .string ByteArray.empty, .slice none 0 0, .int .i64 0, .string ByteArray.empty, .slice none 0 0, .int .i64 0, .string ByteArray.empty, .slice none 0 0, .int .i64 0, .string ByteArray.empty, .slice none 0 0, .int .i64 0, .string ByteArray.empty, .slice none 0 0, .int .i64 0, .string ByteArray.empty, .slice none 0 0, .int .i64 0, .string ByteArray.empty, .slice none 0 0, .int .i64 0, .string ByteArray.empty, .slice none 0 0, .int .i64 0, .string ByteArray.empty, .slice none 0 0, .int .i64 0, .string ByteArray.empty, .slice none 0 0, .int .i64 0, .string ByteArray.empty, .slice none 0 0, .int .i64 0] 44 (0, 0)) := hN3.blk
  refine (wl_done (then_norm ?_))
  refine wc_seq ?_
  refine wc_region ?_
  refine wl_op rfl (op_buildSlice (cs := #[.string (ByteArray.mk #[102, 114, 101, 101]), .string (ByteArray.mk #[115, 105, 110, 103, 108, 101])]) (e := 9) rfl (fun w => by kernel_rfl) rfl ?_)
  intro W5 b6 hN7
  have hb8 : W5.heap[b6]? = some (.cells #[.string (ByteArray.mk #[102, 114, 101, 101]), .string (ByteArray.mk #[115, 105, 110, 103, 108, 101])] 9 (0, 0)) := hN7.blk
  refine wl_op rfl (op_build (v := .agg #[.string (ByteArray.mk #[116, 104, 114, 101, 97, 100]), .slice (some ⟨b6, 0, none⟩) 2 2, .int .i64 2]) rfl (fun w => by kernel_rfl) rfl ?_)
  refine wl_op rfl (op_buildSlice (cs := #[.string (ByteArray.mk #[116, 114, 97, 110, 115, 105, 101, 110, 116]), .string (ByteArray.mk #[112, 101, 114, 115, 105, 115, 116, 101, 110, 116])]) (e := 9) rfl (fun w => by kernel_rfl) rfl ?_)
  intro W9 b10 hN11
  have hb12 : W9.heap[b10]? = some (.cells #[.string (ByteArray.mk #[116, 114, 97, 110, 115, 105, 101, 110, 116]), .string (ByteArray.mk #[112, 101, 114, 115, 105, 115, 116, 101, 110, 116])] 9 (0, 0)) := hN11.blk
  refine wl_op rfl (op_build (v := .agg #[.string (ByteArray.mk #[108, 105, 102, 101, 115, 112, 97, 110]), .slice (some ⟨b10, 0, none⟩) 2 2, .int .i64 2]) rfl (fun w => by kernel_rfl) rfl ?_)
  refine wl_op rfl (op_buildSlice (cs := #[.string (ByteArray.mk #[117, 110, 105, 113, 117, 101]), .string (ByteArray.mk #[109, 117, 108, 116, 105, 112, 108, 101])]) (e := 9) rfl (fun w => by kernel_rfl) rfl ?_)
  intro W13 b14 hN15
  have hb16 : W13.heap[b14]? = some (.cells #[.string (ByteArray.mk #[117, 110, 105, 113, 117, 101]), .string (ByteArray.mk #[109, 117, 108, 116, 105, 112, 108, 101])] 9 (0, 0)) := hN15.blk
  refine wl_op rfl (op_build (v := .agg #[.string (ByteArray.mk #[117, 110, 105, 113, 117, 101]), .slice (some ⟨b14, 0, none⟩) 2 2, .int .i64 2]) rfl (fun w => by kernel_rfl) rfl ?_)
  refine wl_op rfl (op_buildSlice (cs := #[.string (ByteArray.mk #[115, 121, 115, 116, 101, 109]), .string (ByteArray.mk #[117, 115, 101, 114])]) (e := 9) rfl (fun w => by kernel_rfl) rfl ?_)
  intro W17 b18 hN19
  have hb20 : W17.heap[b18]? = some (.cells #[.string (ByteArray.mk #[115, 121, 115, 116, 101, 109]), .string (ByteArray.mk #[117, 115, 101, 114])] 9 (0, 0)) := hN19.blk
  refine wl_op rfl (op_build (v := .agg #[.string (ByteArray.mk #[97, 115, 115, 105, 103, 110]), .slice (some ⟨b18, 0, none⟩) 2 2, .int .i64 2]) rfl (fun w => by kernel_rfl) rfl ?_)
  refine wl_op rfl (op_buildSlice (cs := #[.string (ByteArray.mk #[114, 101, 116, 97, 105, 110]), .string (ByteArray.mk #[102, 111, 114, 103, 101, 116])]) (e := 9) rfl (fun w => by kernel_rfl) rfl ?_)
  intro W21 b22 hN23
  have hb24 : W21.heap[b22]? = some (.cells #[.string (ByteArray.mk #[114, 101, 116, 97, 105, 110]), .string (ByteArray.mk #[102, 111, 114, 103, 101, 116])] 9 (0, 0)) := hN23.blk
  refine wl_op rfl (op_build (v := .agg #[.string (ByteArray.mk #[114, 101, 116, 97, 105, 110]), .slice (some ⟨b22, 0, none⟩) 2 2, .int .i64 2]) rfl (fun w => by kernel_rfl) rfl ?_)
  refine wl_op rfl (op_buildSlice (cs := #[.string (ByteArray.mk #[109, 97, 112]), .string (ByteArray.mk #[100, 101, 102, 97, 117, 108, 116]), .string (ByteArray.mk #[109, 97, 110, 97, 103, 101, 114])]) (e := 9) rfl (fun w => by kernel_rfl) rfl ?_)
  intro W25 b26 hN27
  have hb28 : W25.heap[b26]? = some (.cells #[.string (ByteArray.mk #[109, 97, 112]), .string (ByteArray.mk #[100, 101, 102, 97, 117, 108, 116]), .string (ByteArray.mk #[109, 97, 110, 97, 103, 101, 114])] 9 (0, 0)) := hN27.blk
  refine wl_op rfl (op_build (v := .agg #[.string (ByteArray.mk #[112, 114, 111, 99, 101, 115, 115]), .slice (some ⟨b26, 0, none⟩) 3 3, .int .i64 3]) rfl (fun w => by kernel_rfl) rfl ?_)
  refine wl_op rfl (op_buildSlice (cs := #[.string (ByteArray.mk #[101, 120, 112, 108, 105, 99, 105, 116]), .string (ByteArray.mk #[105, 109, 112, 108, 105, 99, 105, 116])]) (e := 9) rfl (fun w => by kernel_rfl) rfl ?_)
  intro W29 b30 hN31
  have hb32 : W29.heap[b30]? = some (.cells #[.string (ByteArray.mk #[101, 120, 112, 108, 105, 99, 105, 116]), .string (ByteArray.mk #[105, 109, 112, 108, 105, 99, 105, 116])] 9 (0, 0)) := hN31.blk
  refine wl_op rfl (op_build (v := .agg #[.string (ByteArray.mk #[97, 99, 116, 105, 118, 97, 116, 101]), .slice (some ⟨b30, 0, none⟩) 2 2, .int .i64 2]) rfl (fun w => by kernel_rfl) rfl ?_)
  refine wl_op rfl (op_buildSlice (cs := #[.string (ByteArray.mk #[116, 114, 97, 110, 115, 112, 97, 114, 101, 110, 116]), .string (ByteArray.mk #[107, 101, 101, 112]), .string (ByteArray.mk #[110, 101, 118, 101, 114])]) (e := 9) rfl (fun w => by kernel_rfl) rfl ?_)
  intro W33 b34 hN35
  have hb36 : W33.heap[b34]? = some (.cells #[.string (ByteArray.mk #[116, 114, 97, 110, 115, 112, 97, 114, 101, 110, 116]), .string (ByteArray.mk #[107, 101, 101, 112]), .string (ByteArray.mk #[110, 101, 118, 101, 114])] 9 (0, 0)) := hN35.blk
  refine wl_op rfl (op_build (v := .agg #[.string (ByteArray.mk #[114, 101, 98, 105, 110, 100]), .slice (some ⟨b34, 0, none⟩) 3 3, .int .i64 3]) rfl (fun w => by kernel_rfl) rfl ?_)
  refine wl_op rfl (op_buildSlice (cs := #[.string (ByteArray.mk #[115, 101, 110, 116]), .string (ByteArray.mk #[110, 111, 110, 101]), .string (ByteArray.mk #[115, 101, 114, 118, 101, 114]), .string (ByteArray.mk #[100, 111, 110, 101])]) (e := 9) rfl (fun w => by kernel_rfl) rfl ?_)
  intro W37 b38 hN39
  have hb40 : W37.heap[b38]? = some (.cells #[.string (ByteArray.mk #[115, 101, 110, 116]), .string (ByteArray.mk #[110, 111, 110, 101]), .string (ByteArray.mk #[115, 101, 114, 118, 101, 114]), .string (ByteArray.mk #[100, 111, 110, 101])] 9 (0, 0)) := hN39.blk
  refine wl_op rfl (op_build (v := .agg #[.string (ByteArray.mk #[99, 101, 114, 116, 97, 105, 110, 116, 121]), .slice (some ⟨b38, 0, none⟩) 4 4, .int .i64 4]) rfl (fun w => by kernel_rfl) rfl ?_)
  refine wl_op rfl (op_build (v := .agg #[.string (ByteArray.mk #[108, 105, 109, 105, 116]), .slice none 0 0, .int .i64 1000000]) rfl (fun w => by kernel_rfl) rfl ?_)
  refine wl_op rfl (op_buildSlice (cs := #[.string (ByteArray.mk #[100, 105, 114, 101, 99, 116]), .string (ByteArray.mk #[102, 111, 114, 119, 97, 114, 100]), .string (ByteArray.mk #[115, 116, 111, 114, 101])]) (e := 9) rfl (fun w => by kernel_rfl) rfl ?_)
  intro W41 b42 hN43
  have hb44 : W41.heap[b42]? = some (.cells #[.string (ByteArray.mk #[100, 105, 114, 101, 99, 116]), .string (ByteArray.mk #[102, 111, 114, 119, 97, 114, 100]), .string (ByteArray.mk #[115, 116, 111, 114, 101])] 9 (0, 0)) := hN43.blk
  refine wl_op rfl (op_build (v := .agg #[.string (ByteArray.mk #[114, 111, 117, 116, 101]), .slice (some ⟨b42, 0, none⟩) 3 3, .int .i64 3]) rfl (fun w => by kernel_rfl) rfl ?_)
  refine wl_op rfl (op_build (v := .agg #[.string (ByteArray.mk #[112, 114, 105, 111, 114, 105, 116, 121]), .slice none 0 0, .int .i64 100]) rfl (fun w => by kernel_rfl) rfl ?_)
  refine wl_op rfl (op_buildSlice (cs := #[.string (ByteArray.mk #[97, 110, 121]), .string (ByteArray.mk #[116, 105, 109, 101]), .string (ByteArray.mk #[112, 114, 105, 111, 114, 105, 116, 121]), .string (ByteArray.mk #[100, 101, 97, 100, 108, 105, 110, 101])]) (e := 9) rfl (fun w => by kernel_rfl) rfl ?_)
  intro W45 b46 hN47
  have hb48 : W45.heap[b46]? = some (.cells #[.string (ByteArray.mk #[97, 110, 121]), .string (ByteArray.mk #[116, 105, 109, 101]), .string (ByteArray.mk #[112, 114, 105, 111, 114, 105, 116, 121]), .string (ByteArray.mk #[100, 101, 97, 100, 108, 105, 110, 101])] 9 (0, 0)) := hN47.blk
  refine wl_op rfl (op_build (v := .agg #[.string (ByteArray.mk #[111, 114, 100, 101, 114]), .slice (some ⟨b46, 0, none⟩) 4 4, .int .i64 4]) rfl (fun w => by kernel_rfl) rfl ?_)
  refine wl_op rfl (op_build (v := .agg #[.string (ByteArray.mk #[116, 104, 114, 101, 97, 100]), .slice (some ⟨b6, 0, none⟩) 2 2, .int .i64 2, .string (ByteArray.mk #[108, 105, 102, 101, 115, 112, 97, 110]), .slice (some ⟨b10, 0, none⟩) 2 2, .int .i64 2, .string (ByteArray.mk #[117, 110, 105, 113, 117, 101]), .slice (some ⟨b14, 0, none⟩) 2 2, .int .i64 2, .string (ByteArray.mk #[97, 115, 115, 105, 103, 110]), .slice (some ⟨b18, 0, none⟩) 2 2, .int .i64 2, .string (ByteArray.mk #[114, 101, 116, 97, 105, 110]), .slice (some ⟨b22, 0, none⟩) 2 2, .int .i64 2, .string (ByteArray.mk #[112, 114, 111, 99, 101, 115, 115]), .slice (some ⟨b26, 0, none⟩) 3 3, .int .i64 3, .string (ByteArray.mk #[97, 99, 116, 105, 118, 97, 116, 101]), .slice (some ⟨b30, 0, none⟩) 2 2, .int .i64 2, .string (ByteArray.mk #[114, 101, 98, 105, 110, 100]), .slice (some ⟨b34, 0, none⟩) 3 3, .int .i64 3, .string (ByteArray.mk #[99, 101, 114, 116, 97, 105, 110, 116, 121]), .slice (some ⟨b38, 0, none⟩) 4 4, .int .i64 4, .string (ByteArray.mk #[108, 105, 109, 105, 116]), .slice none 0 0, .int .i64 1000000, .string (ByteArray.mk #[114, 111, 117, 116, 101]), .slice (some ⟨b42, 0, none⟩) 3 3, .int .i64 3, .string (ByteArray.mk #[112, 114, 105, 111, 114, 105, 116, 121]), .slice none 0 0, .int .i64 100, .string (ByteArray.mk #[111, 114, 100, 101, 114]), .slice (some ⟨b46, 0, none⟩) 4 4, .int .i64 4]) rfl (fun w => by kernel_rfl) rfl ?_)
  have hb49 : W45.heap[b2]? = some (.cells #[.string ByteArray.empty, .slice none 0 0, .int .i64 0, .string ByteArray.empty, .slice none 0 0, .int .i64 0, .string ByteArray.empty, .slice none 0 0, .int .i64 0, .string ByteArray.empty, .slice none 0 0, .int .i64 0, .string ByteArray.empty, .slice none 0 0, .int .i64 0, .string ByteArray.empty, .slice none 0 0, .int .i64 0, .string ByteArray.empty, .slice none 0 0, .int .i64 0, .string ByteArray.empty, .slice none 0 0, .int .i64 0, .string ByteArray.empty, .slice none 0 0, .int .i64 0, .string ByteArray.empty, .slice none 0 0, .int .i64 0, .string ByteArray.empty, .slice none 0 0, .int .i64 0, .string ByteArray.empty, .slice none 0 0, .int .i64 0, .string ByteArray.empty, .slice none 0 0, .int .i64 0] 44 (0, 0)) := (blk_ext (blk_ext (blk_ext (blk_ext (blk_ext (blk_ext (blk_ext (blk_ext (blk_ext (blk_ext (blk_ext hb4 hN7.ext) hN11.ext) hN15.ext) hN19.ext) hN23.ext) hN27.ext) hN31.ext) hN35.ext) hN39.ext) hN43.ext) hN47.ext)
  refine wl_op rfl (op_storeW rfl rfl sz80 hb49 rfl rfl ?_)
  intro W50 hP51 hb52
  have hb52 : W50.heap[b2]? = some (.cells #[.string (ByteArray.mk #[116, 104, 114, 101, 97, 100]), .slice (some ⟨b6, 0, none⟩) 2 2, .int .i64 2, .string (ByteArray.mk #[108, 105, 102, 101, 115, 112, 97, 110]), .slice (some ⟨b10, 0, none⟩) 2 2, .int .i64 2, .string (ByteArray.mk #[117, 110, 105, 113, 117, 101]), .slice (some ⟨b14, 0, none⟩) 2 2, .int .i64 2, .string (ByteArray.mk #[97, 115, 115, 105, 103, 110]), .slice (some ⟨b18, 0, none⟩) 2 2, .int .i64 2, .string (ByteArray.mk #[114, 101, 116, 97, 105, 110]), .slice (some ⟨b22, 0, none⟩) 2 2, .int .i64 2, .string (ByteArray.mk #[112, 114, 111, 99, 101, 115, 115]), .slice (some ⟨b26, 0, none⟩) 3 3, .int .i64 3, .string (ByteArray.mk #[97, 99, 116, 105, 118, 97, 116, 101]), .slice (some ⟨b30, 0, none⟩) 2 2, .int .i64 2, .string (ByteArray.mk #[114, 101, 98, 105, 110, 100]), .slice (some ⟨b34, 0, none⟩) 3 3, .int .i64 3, .string (ByteArray.mk #[99, 101, 114, 116, 97, 105, 110, 116, 121]), .slice (some ⟨b38, 0, none⟩) 4 4, .int .i64 4, .string (ByteArray.mk #[108, 105, 109, 105, 116]), .slice none 0 0, .int .i64 1000000, .string (ByteArray.mk #[114, 111, 117, 116, 101]), .slice (some ⟨b42, 0, none⟩) 3 3, .int .i64 3, .string (ByteArray.mk #[112, 114, 105, 111, 114, 105, 116, 121]), .slice none 0 0, .int .i64 100, .string (ByteArray.mk #[111, 114, 100, 101, 114]), .slice (some ⟨b46, 0, none⟩) 4 4, .int .i64 4] 44 (0, 0)) := hb52
  refine (wl_done (then_norm ?_))
  refine WC.sub [(0, .pointer (some ⟨b2, 0, none⟩))] ⟨rfl, trivial⟩ ?_
  refine wc_ret ?_
  have hB53 : Below w.heap.size w W50 := (hP51.below (below_new (below_new (below_new (below_new (below_new (below_new (below_new (below_new (below_new (below_new (below_new (below_new (Below.refl _ _) hN3) hN7) hN11) hN15) hN19) hN23) hN27) hN31) hN35) hN39) hN43) hN47) (le_new (Below.refl _ _) hN3))
  refine ⟨[_], ⟨⟨_, rfl, run_loadVar_agg (vs := [.string (ByteArray.mk #[116, 104, 114, 101, 97, 100]), .slice (some ⟨b6, 0, none⟩) 2 2, .int .i64 2, .string (ByteArray.mk #[108, 105, 102, 101, 115, 112, 97, 110]), .slice (some ⟨b10, 0, none⟩) 2 2, .int .i64 2, .string (ByteArray.mk #[117, 110, 105, 113, 117, 101]), .slice (some ⟨b14, 0, none⟩) 2 2, .int .i64 2, .string (ByteArray.mk #[97, 115, 115, 105, 103, 110]), .slice (some ⟨b18, 0, none⟩) 2 2, .int .i64 2, .string (ByteArray.mk #[114, 101, 116, 97, 105, 110]), .slice (some ⟨b22, 0, none⟩) 2 2, .int .i64 2, .string (ByteArray.mk #[112, 114, 111, 99, 101, 115, 115]), .slice (some ⟨b26, 0, none⟩) 3 3, .int .i64 3, .string (ByteArray.mk #[97, 99, 116, 105, 118, 97, 116, 101]), .slice (some ⟨b30, 0, none⟩) 2 2, .int .i64 2, .string (ByteArray.mk #[114, 101, 98, 105, 110, 100]), .slice (some ⟨b34, 0, none⟩) 3 3, .int .i64 3, .string (ByteArray.mk #[99, 101, 114, 116, 97, 105, 110, 116, 121]), .slice (some ⟨b38, 0, none⟩) 4 4, .int .i64 4, .string (ByteArray.mk #[108, 105, 109, 105, 116]), .slice none 0 0, .int .i64 1000000, .string (ByteArray.mk #[114, 111, 117, 116, 101]), .slice (some ⟨b42, 0, none⟩) 3 3, .int .i64 3, .string (ByteArray.mk #[112, 114, 105, 111, 114, 105, 116, 121]), .slice none 0 0, .int .i64 100, .string (ByteArray.mk #[111, 114, 100, 101, 114]), .slice (some ⟨b46, 0, none⟩) 4 4, .int .i64 4]) agg80 sz80 rfl (cells_blk hb52)⟩, trivial⟩, ⟨⟨_, _, _, _, _, _, _, _, _, _, _, rfl⟩, hB53⟩⟩
  skip

theorem kinds_index {v : Value} (h : IsKinds v) {k : Int} (h1 : 1 ≤ k) (h2 : k ≤ 13) : ∃ u, (∀ w, (Instr.index 44 v (.int .i64 (k - 1))).run Tryz.prog w = .ok u w) ∧ IsKind k u := by
  obtain ⟨b1, b2, b3, b4, b5, b6, b7, b8, b9, b11, b13, rfl⟩ := h
  have hk : k = 1 ∨ k = 2 ∨ k = 3 ∨ k = 4 ∨ k = 5 ∨ k = 6 ∨ k = 7 ∨ k = 8 ∨ k = 9 ∨ k = 10 ∨ k = 11 ∨ k = 12 ∨ k = 13 := by omega
  rcases hk with rfl | rfl | rfl | rfl | rfl | rfl | rfl | rfl | rfl | rfl | rfl | rfl | rfl
  · exact ⟨.agg #[.string (ByteArray.mk #[116, 104, 114, 101, 97, 100]), .slice (some ⟨b1, 0, none⟩) 2 2, .int .i64 2], fun w => by kernel_rfl, _, _, rfl⟩
  · exact ⟨.agg #[.string (ByteArray.mk #[108, 105, 102, 101, 115, 112, 97, 110]), .slice (some ⟨b2, 0, none⟩) 2 2, .int .i64 2], fun w => by kernel_rfl, _, _, rfl⟩
  · exact ⟨.agg #[.string (ByteArray.mk #[117, 110, 105, 113, 117, 101]), .slice (some ⟨b3, 0, none⟩) 2 2, .int .i64 2], fun w => by kernel_rfl, _, _, rfl⟩
  · exact ⟨.agg #[.string (ByteArray.mk #[97, 115, 115, 105, 103, 110]), .slice (some ⟨b4, 0, none⟩) 2 2, .int .i64 2], fun w => by kernel_rfl, _, _, rfl⟩
  · exact ⟨.agg #[.string (ByteArray.mk #[114, 101, 116, 97, 105, 110]), .slice (some ⟨b5, 0, none⟩) 2 2, .int .i64 2], fun w => by kernel_rfl, _, _, rfl⟩
  · exact ⟨.agg #[.string (ByteArray.mk #[112, 114, 111, 99, 101, 115, 115]), .slice (some ⟨b6, 0, none⟩) 3 3, .int .i64 3], fun w => by kernel_rfl, _, _, rfl⟩
  · exact ⟨.agg #[.string (ByteArray.mk #[97, 99, 116, 105, 118, 97, 116, 101]), .slice (some ⟨b7, 0, none⟩) 2 2, .int .i64 2], fun w => by kernel_rfl, _, _, rfl⟩
  · exact ⟨.agg #[.string (ByteArray.mk #[114, 101, 98, 105, 110, 100]), .slice (some ⟨b8, 0, none⟩) 3 3, .int .i64 3], fun w => by kernel_rfl, _, _, rfl⟩
  · exact ⟨.agg #[.string (ByteArray.mk #[99, 101, 114, 116, 97, 105, 110, 116, 121]), .slice (some ⟨b9, 0, none⟩) 4 4, .int .i64 4], fun w => by kernel_rfl, _, _, rfl⟩
  · exact ⟨.agg #[.string (ByteArray.mk #[108, 105, 109, 105, 116]), .slice none 0 0, .int .i64 1000000], fun w => by kernel_rfl, _, _, rfl⟩
  · exact ⟨.agg #[.string (ByteArray.mk #[114, 111, 117, 116, 101]), .slice (some ⟨b11, 0, none⟩) 3 3, .int .i64 3], fun w => by kernel_rfl, _, _, rfl⟩
  · exact ⟨.agg #[.string (ByteArray.mk #[112, 114, 105, 111, 114, 105, 116, 121]), .slice none 0 0, .int .i64 100], fun w => by kernel_rfl, _, _, rfl⟩
  · exact ⟨.agg #[.string (ByteArray.mk #[111, 114, 100, 101, 114]), .slice (some ⟨b13, 0, none⟩) 4 4, .int .i64 4], fun w => by kernel_rfl, _, _, rfl⟩

theorem least_eq (k : Int) : (if (1 : Int) < ((wordsN k : Nat) : Int) then (1 : Int) else ((wordsN k : Nat) : Int)) = leastI k := by
  unfold wordsN leastI
  repeat' split
  all_goals omega

theorem least_spec {w : World} {k : Int} (h1 : 1 ≤ k) (h2 : k ≤ 13) : Ret Tryz.prog 52 #[.int .i64 k] w (fun v w' => v = .int .i64 (leastI k) ∧ Below w.heap.size w w') := by
  refine ret_of (args := [.int .i64 k]) Tryz.func52 rfl Tryz.ntmps52 rfl (rs := [.tmp 2]) rfl ?_
  refine wc_seq ?_
  refine wc_region ?_
  refine wl_op rfl (op_assign rfl rfl ?_)
  refine (wl_done (then_norm ?_))
  refine wc_seq ?_
  refine wc_region ?_
  refine wl_op rfl (op_call ent65 rfl (kinds_spec) rfl ?_)
  rintro v4 W2 ⟨hp1, hE3⟩
  refine wl_op rfl (op_move rfl rfl ?_)
  refine wl_op rfl (op_sub (r := k - 1) rfl rfl (by omega) (by omega) rfl ?_)
  obtain ⟨u5, hu6, s7, A8, rfl⟩ := kinds_index hp1 (k := k) (by omega) (by omega)
  refine wl_op rfl (op_index rfl rfl hu6 rfl ?_)
  refine wl_op rfl (op_field (v := .slice A8 (wordsN k) (wordsN k)) rfl (fun w => by kernel_rfl) rfl ?_)
  refine wl_op rfl (op_len_slice rfl rfl und77 rfl rfl ?_)
  refine wl_op rfl (op_min rfl rfl rfl rfl ?_)
  refine wl_op rfl (op_assign rfl rfl ?_)
  refine (wl_done (then_norm ?_))
  refine WC.sub [(2, .int .i64 (if 1 < ((wordsN k : Nat) : Int) then 1 else ((wordsN k : Nat) : Int)))] ⟨rfl, trivial⟩ ?_
  refine wc_ret ?_
  have hB9 : Below w.heap.size w W2 := (below_step (Below.refl _ _) hE3)
  refine ⟨[_], ⟨rfl, trivial⟩, ⟨?_, hB9⟩⟩
  exact congrArg (Value.int .i64) (least_eq k)

theorem isB_iff {k : Int} : isB k = true ↔ 1 ≤ k ∧ k ≤ 13 := by simp [isB]

theorem Valid_spec {w : World} {a : Int} {b : Int} : Ret Tryz.prog 36 #[.agg #[.int .i64 a, .int .i64 b]] w (fun v w' => v = .bool (validB ⟨a, b⟩) ∧ Below w.heap.size w w') := by
  refine ret_of (args := [.agg #[.int .i64 a, .int .i64 b]]) Tryz.func36 rfl Tryz.ntmps36 rfl (rs := [.tmp 2]) rfl ?_
  refine wc_seq ?_
  refine wc_region ?_
  refine wl_op rfl (op_box rfl rfl ?_)
  intro W1 b2 hN3
  have hb4 : W1.heap[b2]? = some (.cells #[.int .i64 a, .int .i64 b] 37 (0, 0)) := hN3.blk
  refine wl_op rfl (op_assign rfl rfl ?_)
  refine (wl_done (then_norm ?_))
  refine wc_seq ?_
  refine wc_draw mixed [(1, .pointer (some ⟨b2, 0, none⟩))] ⟨rfl, trivial⟩ [fun v _ => v = .pointer (some ⟨b2, 0 + 0, none⟩), fun v _ => v = .int .i64 a, fun v _ => v = .bool (isB a), fun v _ => v = .bool (isB a), fun v _ => v = (bif (isB a) then (.pointer (some ⟨b2, 0 + 1, none⟩)) else undef), fun v _ => v = (bif (isB a) then (.int .i64 b) else undef), fun v _ => v = (bif (isB a) then (.pointer (some ⟨b2, 0 + 0, none⟩)) else undef), fun v _ => v = (bif (isB a) then (.int .i64 a) else undef), fun v _ => v = (bif (isB a) then (.int .i64 (leastI a)) else undef), fun v _ => v = (bif (isB a) then (.bool (decide (leastI a ≤ b))) else undef), fun v _ => v = .bool ((isB a) && (decide (leastI a ≤ b))), fun v _ => v = .bool ((isB a) && (decide (leastI a ≤ b))), fun v _ => v = (bif ((isB a) && (decide (leastI a ≤ b))) then (.pointer (some ⟨b2, 0 + 1, none⟩)) else undef), fun v _ => v = (bif ((isB a) && (decide (leastI a ≤ b))) then (.int .i64 b) else undef), fun v W => ((isB a) && (decide (leastI a ≤ b))) = true → IsKinds v, fun v _ => v = (bif ((isB a) && (decide (leastI a ≤ b))) then (.pointer (some ⟨b2, 0 + 0, none⟩)) else undef), fun v _ => v = (bif ((isB a) && (decide (leastI a ≤ b))) then (.int .i64 a) else undef), fun v _ => v = (bif ((isB a) && (decide (leastI a ≤ b))) then (.int .i64 (a - 1)) else undef), fun v W => ((isB a) && (decide (leastI a ≤ b))) = true → IsKind a v, fun v _ => v = (bif ((isB a) && (decide (leastI a ≤ b))) then (.int .i64 (mostI a)) else undef), fun v _ => v = (bif ((isB a) && (decide (leastI a ≤ b))) then (.bool (decide (b ≤ mostI a))) else undef), fun v _ => v = .bool (((isB a) && (decide (leastI a ≤ b))) && (decide (b ≤ mostI a))), fun v _ => v = .bool (((isB a) && (decide (leastI a ≤ b))) && (decide (b ≤ mostI a)))] [[], [0], [1], [2], [3], [3, 4], [3], [3, 6], [3, 7], [3, 5, 8], [3, 9], [10], [11], [11, 12], [11], [11], [11, 15], [11, 16], [11, 14, 17], [11, 18], [11, 13, 19], [11, 20], [21]] [22] rfl rfl rfl ⟨fun _ _ _ _ h => h, fun _ _ _ _ h => h, fun _ _ _ _ h => h, fun _ _ _ _ h => h, fun _ _ _ _ h => h, fun _ _ _ _ h => h, fun _ _ _ _ h => h, fun _ _ _ _ h => h, fun _ _ _ _ h => h, fun _ _ _ _ h => h, fun _ _ _ _ h => h, fun _ _ _ _ h => h, fun _ _ _ _ h => h, fun _ _ _ _ h => h, fun _ _ _ _ h => h, fun _ _ _ _ h => h, fun _ _ _ _ h => h, fun _ _ _ _ h => h, fun _ _ _ _ h => h, fun _ _ _ _ h => h, fun _ _ _ _ h => h, fun _ _ _ _ h => h, fun _ _ _ _ h => h, trivial⟩ ⟨?_, ?_, ?_, ?_, ?_, ?_, ?_, ?_, ?_, ?_, ?_, ?_, ?_, ?_, ?_, ?_, ?_, ?_, ?_, ?_, ?_, ?_, ?_, trivial⟩ ?_
  · intro W5 hW6
    refine gather_nil ?_
    refine opg_none rfl ?_
    exact op_fieldAddr rfl fa46_0 rfl ⟨told rfl rfl rfl, (Below.refl _ _)⟩
  · intro W5 hW6
    rintro _ rfl
    refine gather_nil ?_
    refine opg_none rfl ?_
    have hb12 : W5.heap[b2]? = some (.cells #[.int .i64 a, .int .i64 b] 37 (0, 0)) := (blk_ext hb4 hW6)
    exact op_load1 (v := .int .i64 a) rfl agg3 (cell_blk hb12 rfl) rfl ⟨told rfl rfl rfl, (Below.refl _ _)⟩
  · intro W5 hW6
    rintro _ rfl
    refine gather_nil ?_
    refine opg_none rfl ?_
    refine op_call ent52 rfl (is_spec) rfl ?_
    rintro _ W13 ⟨rfl, hE14⟩
    exact ⟨told rfl rfl rfl, hE14⟩
  · intro W5 hW6
    rintro _ rfl
    refine gather_nil ?_
    refine opg_none rfl ?_
    exact op_move rfl rfl ⟨told rfl rfl rfl, (Below.refl _ _)⟩
  · intro W5 hW6
    rintro _ rfl
    refine gather_nil ?_
    refine opg_t1 rfl rfl (fun hg15 => ?_) (fun h => by rw [h, cond_false])
    exact op_fieldAddr rfl fa46_1 rfl ⟨told rfl rfl (by rw [hg15, cond_true]), (Below.refl _ _)⟩
  · intro W5 hW6
    rintro _ rfl
    intro v16 (hv17 : v16 = bif (isB a) then (.pointer (some ⟨b2, 0 + 1, none⟩)) else undef)
    refine gather_nil ?_
    refine opg_t1 rfl rfl (fun hg18 => ?_) (fun h => by rw [h, cond_false])
    obtain rfl : v16 = .pointer (some ⟨b2, 0 + 1, none⟩) := by rw [hv17, hg18, cond_true]
    have hb19 : W5.heap[b2]? = some (.cells #[.int .i64 a, .int .i64 b] 37 (0, 0)) := (blk_ext hb4 hW6)
    exact op_load1 (v := .int .i64 b) rfl agg3 (cell_blk hb19 rfl) rfl ⟨told rfl rfl (by rw [hg18, cond_true]), (Below.refl _ _)⟩
  · intro W5 hW6
    rintro _ rfl
    refine gather_nil ?_
    refine opg_t1 rfl rfl (fun hg20 => ?_) (fun h => by rw [h, cond_false])
    exact op_fieldAddr rfl fa46_0 rfl ⟨told rfl rfl (by rw [hg20, cond_true]), (Below.refl _ _)⟩
  · intro W5 hW6
    rintro _ rfl
    intro v21 (hv22 : v21 = bif (isB a) then (.pointer (some ⟨b2, 0 + 0, none⟩)) else undef)
    refine gather_nil ?_
    refine opg_t1 rfl rfl (fun hg23 => ?_) (fun h => by rw [h, cond_false])
    obtain rfl : v21 = .pointer (some ⟨b2, 0 + 0, none⟩) := by rw [hv22, hg23, cond_true]
    have hb24 : W5.heap[b2]? = some (.cells #[.int .i64 a, .int .i64 b] 37 (0, 0)) := (blk_ext hb4 hW6)
    exact op_load1 (v := .int .i64 a) rfl agg3 (cell_blk hb24 rfl) rfl ⟨told rfl rfl (by rw [hg23, cond_true]), (Below.refl _ _)⟩
  · intro W5 hW6
    rintro _ rfl
    intro v25 (hv26 : v25 = bif (isB a) then (.int .i64 a) else undef)
    refine gather_nil ?_
    refine opg_t1 rfl rfl (fun hg27 => ?_) (fun h => by rw [h, cond_false])
    obtain rfl : v25 = .int .i64 a := by rw [hv26, hg27, cond_true]
    obtain ⟨hgk1, hgk2⟩ := isB_iff.1 hg27
    refine op_call ent59 rfl (least_spec hgk1 hgk2) rfl ?_
    rintro _ W3 ⟨rfl, hE⟩
    exact ⟨told rfl rfl (by rw [hg27, cond_true]), hE⟩
  · intro W5 hW6
    rintro _ rfl
    intro v28 (hv29 : v28 = bif (isB a) then (.int .i64 b) else undef)
    intro v30 (hv31 : v30 = bif (isB a) then (.int .i64 (leastI a)) else undef)
    refine gather_nil ?_
    refine opg_t1 rfl rfl (fun hg32 => ?_) (fun h => by rw [h, cond_false])
    obtain rfl : v28 = .int .i64 b := by rw [hv29, hg32, cond_true]
    obtain rfl : v30 = .int .i64 (leastI a) := by rw [hv31, hg32, cond_true]
    exact op_geq rfl rfl rfl ⟨told rfl rfl (by rw [hg32, cond_true]), (Below.refl _ _)⟩
  · intro W5 hW6
    rintro _ rfl
    intro v33 (hv34 : v33 = bif (isB a) then (.bool (decide (leastI a ≤ b))) else undef)
    refine gather_nil ?_
    refine opg_none rfl ?_
    exact op_and rfl rfl rfl (fun h => by rw [hv34, h, cond_true]) rfl ⟨told rfl rfl rfl, (Below.refl _ _)⟩
  · intro W5 hW6
    rintro _ rfl
    refine gather_nil ?_
    refine opg_none rfl ?_
    exact op_move rfl rfl ⟨told rfl rfl rfl, (Below.refl _ _)⟩
  · intro W5 hW6
    rintro _ rfl
    refine gather_nil ?_
    refine opg_t1 rfl rfl (fun hg35 => ?_) (fun h => by rw [h, cond_false])
    exact op_fieldAddr rfl fa46_1 rfl ⟨told rfl rfl (by rw [hg35, cond_true]), (Below.refl _ _)⟩
  · intro W5 hW6
    rintro _ rfl
    intro v36 (hv37 : v36 = bif ((isB a) && (decide (leastI a ≤ b))) then (.pointer (some ⟨b2, 0 + 1, none⟩)) else undef)
    refine gather_nil ?_
    refine opg_t1 rfl rfl (fun hg38 => ?_) (fun h => by rw [h, cond_false])
    obtain rfl : v36 = .pointer (some ⟨b2, 0 + 1, none⟩) := by rw [hv37, hg38, cond_true]
    have hb39 : W5.heap[b2]? = some (.cells #[.int .i64 a, .int .i64 b] 37 (0, 0)) := (blk_ext hb4 hW6)
    exact op_load1 (v := .int .i64 b) rfl agg3 (cell_blk hb39 rfl) rfl ⟨told rfl rfl (by rw [hg38, cond_true]), (Below.refl _ _)⟩
  · intro W5 hW6
    rintro _ rfl
    refine gather_nil ?_
    refine opg_t1 rfl rfl (fun hg40 => ?_) (fun h h2 => absurd (h.symm.trans h2) (by decide))
    refine op_call ent65 rfl kinds_spec rfl ?_
    rintro v W3 ⟨hI, hE⟩
    exact ⟨told rfl rfl (fun _ => hI), hE⟩
  · intro W5 hW6
    rintro _ rfl
    refine gather_nil ?_
    refine opg_t1 rfl rfl (fun hg41 => ?_) (fun h => by rw [h, cond_false])
    exact op_fieldAddr rfl fa46_0 rfl ⟨told rfl rfl (by rw [hg41, cond_true]), (Below.refl _ _)⟩
  · intro W5 hW6
    rintro _ rfl
    intro v42 (hv43 : v42 = bif ((isB a) && (decide (leastI a ≤ b))) then (.pointer (some ⟨b2, 0 + 0, none⟩)) else undef)
    refine gather_nil ?_
    refine opg_t1 rfl rfl (fun hg44 => ?_) (fun h => by rw [h, cond_false])
    obtain rfl : v42 = .pointer (some ⟨b2, 0 + 0, none⟩) := by rw [hv43, hg44, cond_true]
    have hb45 : W5.heap[b2]? = some (.cells #[.int .i64 a, .int .i64 b] 37 (0, 0)) := (blk_ext hb4 hW6)
    exact op_load1 (v := .int .i64 a) rfl agg3 (cell_blk hb45 rfl) rfl ⟨told rfl rfl (by rw [hg44, cond_true]), (Below.refl _ _)⟩
  · intro W5 hW6
    rintro _ rfl
    intro v46 (hv47 : v46 = bif ((isB a) && (decide (leastI a ≤ b))) then (.int .i64 a) else undef)
    refine gather_nil ?_
    refine opg_t1 rfl rfl (fun hg48 => ?_) (fun h => by rw [h, cond_false])
    obtain ⟨ga, gb⟩ := isB_iff.1 (and_l hg48)
    obtain rfl : v46 = .int .i64 a := by rw [hv47, hg48, cond_true]
    exact op_sub (r := a - 1) rfl rfl (by omega) (by omega) rfl ⟨told rfl rfl (by rw [hg48, cond_true]), (Below.refl _ _)⟩
  · intro W5 hW6
    rintro _ rfl
    intro v49 hv50
    intro v51 (hv52 : v51 = bif ((isB a) && (decide (leastI a ≤ b))) then (.int .i64 (a - 1)) else undef)
    refine gather_nil ?_
    refine opg_t1 rfl rfl (fun hg53 => ?_) (fun h h2 => absurd (h.symm.trans h2) (by decide))
    obtain rfl : v51 = .int .i64 (a - 1) := by rw [hv52, hg53, cond_true]
    obtain ⟨hgk1, hgk2⟩ := isB_iff.1 (and_l hg53)
    obtain ⟨u, hu, hI⟩ := kinds_index (hv50 hg53) (k := a) hgk1 hgk2
    exact op_index rfl rfl hu rfl ⟨told rfl rfl (fun _ => hI), Below.refl _ _⟩
  · intro W5 hW6
    rintro _ rfl
    intro v54 hv55
    refine gather_nil ?_
    refine opg_t1 rfl rfl (fun hg56 => ?_) (fun h => by rw [h, cond_false])
    obtain ⟨S1, A1, rfl⟩ := hv55 hg56
    exact op_field rfl (fun w => by kernel_rfl) rfl ⟨told rfl rfl (by rw [hg56, cond_true]), Below.refl _ _⟩
  · intro W5 hW6
    rintro _ rfl
    intro v57 (hv58 : v57 = bif ((isB a) && (decide (leastI a ≤ b))) then (.int .i64 b) else undef)
    intro v59 (hv60 : v59 = bif ((isB a) && (decide (leastI a ≤ b))) then (.int .i64 (mostI a)) else undef)
    refine gather_nil ?_
    refine opg_t1 rfl rfl (fun hg61 => ?_) (fun h => by rw [h, cond_false])
    obtain rfl : v57 = .int .i64 b := by rw [hv58, hg61, cond_true]
    obtain rfl : v59 = .int .i64 (mostI a) := by rw [hv60, hg61, cond_true]
    exact op_leq rfl rfl rfl ⟨told rfl rfl (by rw [hg61, cond_true]), (Below.refl _ _)⟩
  · intro W5 hW6
    rintro _ rfl
    intro v62 (hv63 : v62 = bif ((isB a) && (decide (leastI a ≤ b))) then (.bool (decide (b ≤ mostI a))) else undef)
    refine gather_nil ?_
    refine opg_none rfl ?_
    exact op_and rfl rfl rfl (fun h => by rw [hv63, h, cond_true]) rfl ⟨told rfl rfl rfl, (Below.refl _ _)⟩
  · intro W5 hW6
    rintro _ rfl
    refine gather_nil ?_
    refine opg_none rfl ?_
    exact op_assign rfl rfl ⟨told rfl rfl rfl, (Below.refl _ _)⟩
  intro W64 hW65
  rintro _ rfl
  refine gather_nil ?_
  refine (then_norm ?_)
  refine wc_ret ?_
  have hB66 : Below w.heap.size w W64 := (below_step (below_new (Below.refl _ _) hN3) hW65)
  refine ⟨[_], ⟨rfl, trivial⟩, ⟨?_, hB66⟩⟩
  exact rfl

def okAt (s : List Pol) (i : Nat) : Bool := match s[i]? with
  | none => true
  | some p => validB p && (decide (i = 0) || match s[i - 1]? with
    | none => true
    | some q => decide (q.kind < p.kind))
def validSet (s : List Pol) : Bool := (List.range s.length).all (okAt s)
theorem validSet_iff {s : List Pol} : validSet s = true ↔ ∀ i, i < s.length → okAt s i = true := by simp [validSet, List.all_eq_true]
theorem okAt_eq {s : List Pol} {k : Nat} {p q : Pol} (hp : s[k]? = some p) (hq : k - 1 < s.length → s[k - 1]? = some q) :
    okAt s k = !((!(validB ⟨p.kind, p.val⟩)) || ((decide (0 < (k : Int))) && (decide (p.kind ≤ q.kind)))) := by
  have hk := (List.getElem?_eq_some_iff.1 hp).1
  unfold okAt
  rw [hp, hq (by omega)]
  simp only []
  by_cases h0 : k = 0
  · subst h0; simp
  · have : (0 : Int) < (k : Int) := by omega
    by_cases h1 : q.kind < p.kind
    · have h2 : ¬ p.kind ≤ q.kind := by omega
      simp [h0, h1, h2]
    · have h2 : p.kind ≤ q.kind := by omega
      have : 0 < k := by omega
      simp [h0, h1, h2, this]
theorem validSet_false {s : List Pol} {k : Nat} (hk : k < s.length) (h : okAt s k = false) : validSet s = false := by
  rw [Bool.eq_false_iff]; intro hv
  rw [validSet_iff.1 hv k hk] at h; cases h

theorem ValidSet_spec {w : World} {A : Option Addr} {n c : Nat} {s : List Pol} (hs : RdP w A n s) : Ret Tryz.prog 14 #[.slice A n c] w (fun v w' => v = .bool (validSet s) ∧ Below w.heap.size w w') := by
  obtain ⟨bs1, os2, hA3, hc4⟩ := hs.flat
  have hln5 := hs.len
  have hbd6 := hs.bd
  have hlen_s := hs.len
  refine ret_of (args := [.slice A n c]) Tryz.func14 rfl Tryz.ntmps14 rfl (rs := [.tmp 2]) rfl ?_
  refine wc_seq ?_
  refine wc_region ?_
  refine wl_op rfl (op_assign rfl rfl ?_)
  refine (wl_done (then_norm ?_))
  refine wc_seq ?_
  refine wc_seq ?_
  refine wc_region ?_
  refine wl_op rfl (op_move rfl rfl ?_)
  refine wl_op rfl (op_len_slice rfl rfl und22 rfl rfl ?_)
  refine wl_op rfl (op_move rfl rfl ?_)
  refine (wl_done (then_norm ?_))
  refine wc_block ?_
  refine wc_loop (σ := Nat × World) (fun st_ => [(0, .slice A n c), (2, .bool false), (5, .slice A n c), (6, .int .i64 ((n : Nat) : Int)), (7, .int .i64 (st_.1 : Int))]) (fun st_ => st_.2) (fun st_ => (st_.1 ≤ n) ∧ (∀ i, i < st_.1 → okAt s i = true) ∧ (Below w.heap.size w st_.2)) (fun st_ => n - st_.1) (0, w) ⟨(by omega), (fun i hi => absurd hi (by omega)), (Below.refl _ _)⟩ ⟨rfl, rfl, rfl, rfl, rfl, trivial⟩ rfl ?_
  rintro ⟨k, W7⟩ ⟨hk, hall, hE8⟩
  dsimp only at hk hall hE8
  refine wc_at [(0, .slice A n c), (2, .bool false), (5, .slice A n c), (6, .int .i64 ((n : Nat) : Int)), (7, .int .i64 (k : Int))] W7 ⟨rfl, rfl, rfl, rfl, rfl, trivial⟩ rfl ?_
  refine wc_seq ?_
  refine wc_region ?_
  refine wl_op rfl (op_lss rfl rfl rfl ?_)
  refine (wl_done (then_norm ?_))
  refine wc_seq ?_
  refine wc_cond (b := decide ((k : Int) < ((n : Nat) : Int))) rfl (fun hc9 => ?_) (fun hc9 => ?_)
  · have hc9r := hc9
    have hc9 := of_decide_eq_true hc9
    refine wc_skip ?_
    refine (then_norm ?_)
    refine wc_seq ?_
    refine wc_block ?_
    refine wc_seq ?_
    refine wc_region ?_
    refine wl_op rfl (op_move rfl rfl ?_)
    obtain ⟨x_s_k, hx_s_k⟩ : ∃ x, s[k]? = some x := ⟨_, List.getElem?_eq_getElem (by have := hs.len; omega)⟩
    refine wl_op rfl (op_indexAddr (j := k) rfl rfl und22 sz46 (hA3 (by omega)) rfl (by omega) rfl ?_)
    have hB10 : Below w.heap.size w W7 := (below_step (Below.refl _ _) hE8)
    refine wl_op rfl (op_loadN (vs := [.int .i64 x_s_k.kind, .int .i64 x_s_k.val]) rfl agg46 sz46 rfl ((hc4 k x_s_k hx_s_k).ext hB10) rfl ?_)
    refine wl_op rfl (op_alloc zero46 rfl ?_)
    intro W11 b12 hN13
    have hb14 : W11.heap[b12]? = some (.cells #[.int .i64 0, .int .i64 0] 37 (0, 0)) := hN13.blk
    refine wl_op rfl (op_assign rfl rfl ?_)
    refine wl_op rfl (op_storeW rfl rfl sz46 hb14 rfl rfl ?_)
    intro W15 hP16 hb17
    have hb17 : W15.heap[b12]? = some (.cells #[.int .i64 x_s_k.kind, .int .i64 x_s_k.val] 37 (0, 0)) := hb17
    refine (wl_done (then_norm ?_))
    refine wc_seq ?_
    obtain ⟨x_s_k_1, hx_s_k_1⟩ : ∃ x, (k - 1 < s.length → s[k - 1]? = some x) := by
      by_cases h : k - 1 < s.length
      · exact ⟨_, fun _ => List.getElem?_eq_getElem h⟩
      · exact ⟨(⟨0, 0⟩ : Pol), fun h1 => absurd h1 h⟩
    refine wc_draw mixed [(0, .slice A n c), (2, .bool false), (5, .slice A n c), (6, .int .i64 ((n : Nat) : Int)), (7, .int .i64 (k : Int)), (8, .bool (decide ((k : Int) < ((n : Nat) : Int)))), (9, .int .i64 (k : Int)), (10, .pointer (some ⟨bs1, os2 + k * 2, none⟩)), (11, .agg #[.int .i64 x_s_k.kind, .int .i64 x_s_k.val]), (4, .pointer (some ⟨b12, 0, none⟩)), (3, .int .i64 (k : Int))] ⟨rfl, rfl, rfl, rfl, rfl, rfl, rfl, rfl, rfl, rfl, rfl, trivial⟩ [fun v _ => v = .agg #[.int .i64 x_s_k.kind, .int .i64 x_s_k.val], fun v _ => v = .bool (validB ⟨x_s_k.kind, x_s_k.val⟩), fun v _ => v = .bool (!(validB ⟨x_s_k.kind, x_s_k.val⟩)), fun v _ => v = .bool (!(validB ⟨x_s_k.kind, x_s_k.val⟩)), fun v _ => v = (bif (!(!(validB ⟨x_s_k.kind, x_s_k.val⟩))) then (.int .i64 (k : Int)) else undef), fun v _ => v = (bif (!(!(validB ⟨x_s_k.kind, x_s_k.val⟩))) then (.bool (decide (0 < (k : Int)))) else undef), fun v _ => v = (bif (!(!(validB ⟨x_s_k.kind, x_s_k.val⟩))) then (.bool (decide (0 < (k : Int)))) else undef), fun v _ => v = (bif ((!(!(validB ⟨x_s_k.kind, x_s_k.val⟩))) && (decide (0 < (k : Int)))) then (.pointer (some ⟨b12, 0 + 0, none⟩)) else undef), fun v _ => v = (bif ((!(!(validB ⟨x_s_k.kind, x_s_k.val⟩))) && (decide (0 < (k : Int)))) then (.int .i64 x_s_k.kind) else undef), fun v _ => v = (bif ((!(!(validB ⟨x_s_k.kind, x_s_k.val⟩))) && (decide (0 < (k : Int)))) then (.slice A n c) else undef), fun v _ => v = (bif ((!(!(validB ⟨x_s_k.kind, x_s_k.val⟩))) && (decide (0 < (k : Int)))) then (.int .i64 (k : Int)) else undef), fun v _ => v = (bif ((!(!(validB ⟨x_s_k.kind, x_s_k.val⟩))) && (decide (0 < (k : Int)))) then (.int .i64 ((k : Int) - 1)) else undef), fun v _ => v = (bif ((!(!(validB ⟨x_s_k.kind, x_s_k.val⟩))) && (decide (0 < (k : Int)))) then (.pointer (some ⟨bs1, os2 + (k - 1) * 2, none⟩)) else undef), fun v _ => v = (bif ((!(!(validB ⟨x_s_k.kind, x_s_k.val⟩))) && (decide (0 < (k : Int)))) then (.pointer (some ⟨bs1, os2 + (k - 1) * 2 + 0, none⟩)) else undef), fun v _ => v = (bif ((!(!(validB ⟨x_s_k.kind, x_s_k.val⟩))) && (decide (0 < (k : Int)))) then (.int .i64 x_s_k_1.kind) else undef), fun v _ => v = (bif ((!(!(validB ⟨x_s_k.kind, x_s_k.val⟩))) && (decide (0 < (k : Int)))) then (.bool (decide (x_s_k.kind ≤ x_s_k_1.kind))) else undef), fun v _ => v = (bif (!(!(validB ⟨x_s_k.kind, x_s_k.val⟩))) then (.bool ((decide (0 < (k : Int))) && (decide (x_s_k.kind ≤ x_s_k_1.kind)))) else undef), fun v _ => v = .bool ((!(validB ⟨x_s_k.kind, x_s_k.val⟩)) || ((decide (0 < (k : Int))) && (decide (x_s_k.kind ≤ x_s_k_1.kind))))] [[], [0], [1], [2], [3], [3, 4], [3, 5], [6], [6, 7], [6], [6], [6, 10], [6, 9, 11], [6, 12], [6, 13], [6, 8, 14], [3, 6, 15], [3, 16]] [0, 1, 2, 3, 17] rfl rfl rfl ⟨fun _ _ _ _ h => h, fun _ _ _ _ h => h, fun _ _ _ _ h => h, fun _ _ _ _ h => h, fun _ _ _ _ h => h, fun _ _ _ _ h => h, fun _ _ _ _ h => h, fun _ _ _ _ h => h, fun _ _ _ _ h => h, fun _ _ _ _ h => h, fun _ _ _ _ h => h, fun _ _ _ _ h => h, fun _ _ _ _ h => h, fun _ _ _ _ h => h, fun _ _ _ _ h => h, fun _ _ _ _ h => h, fun _ _ _ _ h => h, fun _ _ _ _ h => h, trivial⟩ ⟨?_, ?_, ?_, ?_, ?_, ?_, ?_, ?_, ?_, ?_, ?_, ?_, ?_, ?_, ?_, ?_, ?_, ?_, trivial⟩ ?_
    · intro W18 hW19
      refine gather_nil ?_
      refine opg_none rfl ?_
      have hb23 : W18.heap[b12]? = some (.cells #[.int .i64 x_s_k.kind, .int .i64 x_s_k.val] 37 (0, 0)) := (blk_ext hb17 hW19)
      exact op_loadN (vs := [.int .i64 x_s_k.kind, .int .i64 x_s_k.val]) rfl agg46 sz46 rfl (cells_blk hb23) rfl ⟨told rfl rfl rfl, (Below.refl _ _)⟩
    · intro W18 hW19
      rintro _ rfl
      refine gather_nil ?_
      refine opg_none rfl ?_
      refine op_call ent25 rfl (Valid_spec) rfl ?_
      rintro _ W24 ⟨rfl, hE25⟩
      exact ⟨told rfl rfl rfl, hE25⟩
    · intro W18 hW19
      rintro _ rfl
      refine gather_nil ?_
      refine opg_none rfl ?_
      exact op_not rfl rfl ⟨told rfl rfl rfl, (Below.refl _ _)⟩
    · intro W18 hW19
      rintro _ rfl
      refine gather_nil ?_
      refine opg_none rfl ?_
      exact op_move rfl rfl ⟨told rfl rfl rfl, (Below.refl _ _)⟩
    · intro W18 hW19
      rintro _ rfl
      refine gather_nil ?_
      refine opg_f1 rfl rfl (fun hg26 => ?_) (fun h => by rw [h, cond_false])
      exact op_move rfl rfl ⟨told rfl rfl (by rw [hg26, cond_true]), (Below.refl _ _)⟩
    · intro W18 hW19
      rintro _ rfl
      intro v27 (hv28 : v27 = bif (!(!(validB ⟨x_s_k.kind, x_s_k.val⟩))) then (.int .i64 (k : Int)) else undef)
      refine gather_nil ?_
      refine opg_f1 rfl rfl (fun hg29 => ?_) (fun h => by rw [h, cond_false])
      obtain rfl : v27 = .int .i64 (k : Int) := by rw [hv28, hg29, cond_true]
      exact op_gtr rfl rfl rfl ⟨told rfl rfl (by rw [hg29, cond_true]), (Below.refl _ _)⟩
    · intro W18 hW19
      rintro _ rfl
      intro v30 (hv31 : v30 = bif (!(!(validB ⟨x_s_k.kind, x_s_k.val⟩))) then (.bool (decide (0 < (k : Int)))) else undef)
      refine gather_nil ?_
      refine opg_f1 rfl rfl (fun hg32 => ?_) (fun h => by rw [h, cond_false])
      obtain rfl : v30 = .bool (decide (0 < (k : Int))) := by rw [hv31, hg32, cond_true]
      exact op_move rfl rfl ⟨told rfl rfl (by rw [hg32, cond_true]), (Below.refl _ _)⟩
    · intro W18 hW19
      intro v33 (hv34 : v33 = bif (!(!(validB ⟨x_s_k.kind, x_s_k.val⟩))) then (.bool (decide (0 < (k : Int)))) else undef)
      refine gather_nil ?_
      refine opg_t rfl rfl hv34 (fun hg35 => ?_) (fun h => by rw [h, cond_false])
      obtain rfl : v33 = .bool (decide (0 < (k : Int))) := by rw [hv34, (and_l hg35), cond_true]
      exact op_fieldAddr rfl fa46_0 rfl ⟨told rfl rfl (by rw [hg35, cond_true]), (Below.refl _ _)⟩
    · intro W18 hW19
      intro v36 (hv37 : v36 = bif (!(!(validB ⟨x_s_k.kind, x_s_k.val⟩))) then (.bool (decide (0 < (k : Int)))) else undef)
      intro v38 (hv39 : v38 = bif ((!(!(validB ⟨x_s_k.kind, x_s_k.val⟩))) && (decide (0 < (k : Int)))) then (.pointer (some ⟨b12, 0 + 0, none⟩)) else undef)
      refine gather_nil ?_
      refine opg_t rfl rfl hv37 (fun hg40 => ?_) (fun h => by rw [h, cond_false])
      have hd41 := of_decide_eq_true (and_r hg40)
      obtain rfl : v36 = .bool (decide (0 < (k : Int))) := by rw [hv37, (and_l hg40), cond_true]
      obtain rfl : v38 = .pointer (some ⟨b12, 0 + 0, none⟩) := by rw [hv39, hg40, cond_true]
      have hb42 : W18.heap[b12]? = some (.cells #[.int .i64 x_s_k.kind, .int .i64 x_s_k.val] 37 (0, 0)) := (blk_ext hb17 hW19)
      exact op_load1 (v := .int .i64 x_s_k.kind) rfl agg3 (cell_blk hb42 rfl) rfl ⟨told rfl rfl (by rw [hg40, cond_true]), (Below.refl _ _)⟩
    · intro W18 hW19
      intro v43 (hv44 : v43 = bif (!(!(validB ⟨x_s_k.kind, x_s_k.val⟩))) then (.bool (decide (0 < (k : Int)))) else undef)
      refine gather_nil ?_
      refine opg_t rfl rfl hv44 (fun hg45 => ?_) (fun h => by rw [h, cond_false])
      obtain rfl : v43 = .bool (decide (0 < (k : Int))) := by rw [hv44, (and_l hg45), cond_true]
      exact op_move rfl rfl ⟨told rfl rfl (by rw [hg45, cond_true]), (Below.refl _ _)⟩
    · intro W18 hW19
      intro v46 (hv47 : v46 = bif (!(!(validB ⟨x_s_k.kind, x_s_k.val⟩))) then (.bool (decide (0 < (k : Int)))) else undef)
      refine gather_nil ?_
      refine opg_t rfl rfl hv47 (fun hg48 => ?_) (fun h => by rw [h, cond_false])
      obtain rfl : v46 = .bool (decide (0 < (k : Int))) := by rw [hv47, (and_l hg48), cond_true]
      exact op_move rfl rfl ⟨told rfl rfl (by rw [hg48, cond_true]), (Below.refl _ _)⟩
    · intro W18 hW19
      intro v49 (hv50 : v49 = bif (!(!(validB ⟨x_s_k.kind, x_s_k.val⟩))) then (.bool (decide (0 < (k : Int)))) else undef)
      intro v51 (hv52 : v51 = bif ((!(!(validB ⟨x_s_k.kind, x_s_k.val⟩))) && (decide (0 < (k : Int)))) then (.int .i64 (k : Int)) else undef)
      refine gather_nil ?_
      refine opg_t rfl rfl hv50 (fun hg53 => ?_) (fun h => by rw [h, cond_false])
      have hd54 := of_decide_eq_true (and_r hg53)
      obtain rfl : v49 = .bool (decide (0 < (k : Int))) := by rw [hv50, (and_l hg53), cond_true]
      obtain rfl : v51 = .int .i64 (k : Int) := by rw [hv52, hg53, cond_true]
      exact op_sub (r := (k : Int) - 1) rfl rfl (by omega) (by omega) rfl ⟨told rfl rfl (by rw [hg53, cond_true]), (Below.refl _ _)⟩
    · intro W18 hW19
      intro v55 (hv56 : v55 = bif (!(!(validB ⟨x_s_k.kind, x_s_k.val⟩))) then (.bool (decide (0 < (k : Int)))) else undef)
      intro v57 (hv58 : v57 = bif ((!(!(validB ⟨x_s_k.kind, x_s_k.val⟩))) && (decide (0 < (k : Int)))) then (.slice A n c) else undef)
      intro v59 (hv60 : v59 = bif ((!(!(validB ⟨x_s_k.kind, x_s_k.val⟩))) && (decide (0 < (k : Int)))) then (.int .i64 ((k : Int) - 1)) else undef)
      refine gather_nil ?_
      refine opg_t rfl rfl hv56 (fun hg61 => ?_) (fun h => by rw [h, cond_false])
      have hd62 := of_decide_eq_true (and_r hg61)
      obtain rfl : v55 = .bool (decide (0 < (k : Int))) := by rw [hv56, (and_l hg61), cond_true]
      obtain rfl : v57 = .slice A n c := by rw [hv58, hg61, cond_true]
      obtain rfl : v59 = .int .i64 ((k : Int) - 1) := by rw [hv60, hg61, cond_true]
      exact op_indexAddr (j := k - 1) rfl rfl und22 sz46 (hA3 (by omega)) (by omega) (by omega) rfl ⟨told rfl rfl (by rw [hg61, cond_true]), (Below.refl _ _)⟩
    · intro W18 hW19
      intro v63 (hv64 : v63 = bif (!(!(validB ⟨x_s_k.kind, x_s_k.val⟩))) then (.bool (decide (0 < (k : Int)))) else undef)
      intro v65 (hv66 : v65 = bif ((!(!(validB ⟨x_s_k.kind, x_s_k.val⟩))) && (decide (0 < (k : Int)))) then (.pointer (some ⟨bs1, os2 + (k - 1) * 2, none⟩)) else undef)
      refine gather_nil ?_
      refine opg_t rfl rfl hv64 (fun hg67 => ?_) (fun h => by rw [h, cond_false])
      obtain rfl : v63 = .bool (decide (0 < (k : Int))) := by rw [hv64, (and_l hg67), cond_true]
      obtain rfl : v65 = .pointer (some ⟨bs1, os2 + (k - 1) * 2, none⟩) := by rw [hv66, hg67, cond_true]
      exact op_fieldAddr rfl fa46_0 rfl ⟨told rfl rfl (by rw [hg67, cond_true]), (Below.refl _ _)⟩
    · intro W18 hW19
      intro v68 (hv69 : v68 = bif (!(!(validB ⟨x_s_k.kind, x_s_k.val⟩))) then (.bool (decide (0 < (k : Int)))) else undef)
      intro v70 (hv71 : v70 = bif ((!(!(validB ⟨x_s_k.kind, x_s_k.val⟩))) && (decide (0 < (k : Int)))) then (.pointer (some ⟨bs1, os2 + (k - 1) * 2 + 0, none⟩)) else undef)
      refine gather_nil ?_
      refine opg_t rfl rfl hv69 (fun hg72 => ?_) (fun h => by rw [h, cond_false])
      have hd73 := of_decide_eq_true (and_r hg72)
      obtain rfl : v68 = .bool (decide (0 < (k : Int))) := by rw [hv69, (and_l hg72), cond_true]
      obtain rfl : v70 = .pointer (some ⟨bs1, os2 + (k - 1) * 2 + 0, none⟩) := by rw [hv71, hg72, cond_true]
      have hB74 : Below w.heap.size w W18 := (below_step (hP16.below (below_new hB10 hN13) (le_new hB10 hN13)) hW19)
      exact op_load1 (v := .int .i64 x_s_k_1.kind) rfl agg3 (((hc4 (k - 1) x_s_k_1 (hx_s_k_1 (by have := hs.len; omega))).ext hB74).at (i := 0) rfl) rfl ⟨told rfl rfl (by rw [hg72, cond_true]), (Below.refl _ _)⟩
    · intro W18 hW19
      intro v75 (hv76 : v75 = bif (!(!(validB ⟨x_s_k.kind, x_s_k.val⟩))) then (.bool (decide (0 < (k : Int)))) else undef)
      intro v77 (hv78 : v77 = bif ((!(!(validB ⟨x_s_k.kind, x_s_k.val⟩))) && (decide (0 < (k : Int)))) then (.int .i64 x_s_k.kind) else undef)
      intro v79 (hv80 : v79 = bif ((!(!(validB ⟨x_s_k.kind, x_s_k.val⟩))) && (decide (0 < (k : Int)))) then (.int .i64 x_s_k_1.kind) else undef)
      refine gather_nil ?_
      refine opg_t rfl rfl hv76 (fun hg81 => ?_) (fun h => by rw [h, cond_false])
      have hd82 := of_decide_eq_true (and_r hg81)
      obtain rfl : v75 = .bool (decide (0 < (k : Int))) := by rw [hv76, (and_l hg81), cond_true]
      obtain rfl : v77 = .int .i64 x_s_k.kind := by rw [hv78, hg81, cond_true]
      obtain rfl : v79 = .int .i64 x_s_k_1.kind := by rw [hv80, hg81, cond_true]
      exact op_leq rfl rfl rfl ⟨told rfl rfl (by rw [hg81, cond_true]), (Below.refl _ _)⟩
    · intro W18 hW19
      rintro _ rfl
      intro v83 (hv84 : v83 = bif (!(!(validB ⟨x_s_k.kind, x_s_k.val⟩))) then (.bool (decide (0 < (k : Int)))) else undef)
      intro v85 (hv86 : v85 = bif ((!(!(validB ⟨x_s_k.kind, x_s_k.val⟩))) && (decide (0 < (k : Int)))) then (.bool (decide (x_s_k.kind ≤ x_s_k_1.kind))) else undef)
      refine gather_nil ?_
      refine opg_f1 rfl rfl (fun hg87 => ?_) (fun h => by rw [h, cond_false])
      obtain rfl : v83 = .bool (decide (0 < (k : Int))) := by rw [hv84, hg87, cond_true]
      exact op_and rfl rfl rfl (fun h => by rw [hv86, (and_i hg87 h), cond_true]) rfl ⟨told rfl rfl (by rw [hg87, cond_true]), (Below.refl _ _)⟩
    · intro W18 hW19
      rintro _ rfl
      intro v88 (hv89 : v88 = bif (!(!(validB ⟨x_s_k.kind, x_s_k.val⟩))) then (.bool ((decide (0 < (k : Int))) && (decide (x_s_k.kind ≤ x_s_k_1.kind)))) else undef)
      refine gather_nil ?_
      refine opg_none rfl ?_
      exact op_or rfl rfl rfl (fun h => by rw [hv89, (not_i h), cond_true]) rfl ⟨told rfl rfl rfl, (Below.refl _ _)⟩
    intro W90 hW91
    rintro _ rfl
    rintro _ rfl
    rintro _ rfl
    rintro _ rfl
    rintro _ rfl
    refine gather_nil ?_
    refine (then_norm ?_)
    refine wc_cond (b := (!(validB ⟨x_s_k.kind, x_s_k.val⟩)) || ((decide (0 < (k : Int))) && (decide (x_s_k.kind ≤ x_s_k_1.kind)))) rfl (fun hc92 => ?_) (fun hc92 => ?_)
    · have hok : okAt s k = false := by rw [okAt_eq hx_s_k hx_s_k_1, hc92]; rfl
      refine wc_seq ?_
      refine wc_region ?_
      refine wl_op rfl (op_assign rfl rfl ?_)
      refine (wl_done (then_norm ?_))
      refine wc_ret ?_
      refine (block_ret (then_ret (then_ret (block_ret (then_ret ?_)))))
      have hB93 : Below w.heap.size w W90 := (below_step (hP16.below (below_new hB10 hN13) (le_new hB10 hN13)) hW91)
      refine ⟨[_], ⟨rfl, trivial⟩, ⟨?_, hB93⟩⟩
      exact congrArg Value.bool (validSet_false (by omega) hok).symm
    · have hok : okAt s k = true := by rw [okAt_eq hx_s_k hx_s_k_1, hc92]; rfl
      refine wc_skip ?_
      refine (block_norm (then_norm ?_))
      refine wc_region ?_
      refine wl_op rfl (op_add (r := (k : Int) + 1) rfl rfl (by omega) (by omega) rfl ?_)
      refine wl_op rfl (op_move rfl rfl ?_)
      refine (wl_done (then_norm ?_))
      have hB94 : Below w.heap.size w W90 := (below_step (hP16.below (below_new hB10 hN13) (le_new hB10 hN13)) hW91)
      refine ⟨((k + 1), W90), ⟨(by omega), (all_succ hall hok), hB94⟩, ?_, ⟨rfl, rfl, rfl, rfl, rfl, trivial⟩, rfl⟩
      · dsimp only; omega
  · have hc9r := hc9
    have hc9 := of_decide_eq_false hc9
    refine wc_exit ?_
    refine (then_exit (then_exit (block_here (then_norm ?_))))
    refine wc_seq ?_
    refine wc_region ?_
    refine wl_op rfl (op_assign rfl rfl ?_)
    refine (wl_done (then_norm ?_))
    refine wc_ret ?_
    have hB95 : Below w.heap.size w W7 := (below_step (Below.refl _ _) hE8)
    refine ⟨[_], ⟨rfl, trivial⟩, ⟨?_, hB95⟩⟩
    exact congrArg Value.bool (validSet_iff.2 fun i hi => hall i (by omega)).symm

end Go.Eng



set_option linter.unusedVariables false
set_option maxRecDepth 100000
namespace Go.Eng
open Go.RowKit Go.Shelf Go.Proofs Pol

theorem und91 : Und Tryz.prog 104 (.int .u64) := by unfold Und; kernel_rfl
theorem und3 : Und Tryz.prog 3 (.int .i64) := by unfold Und; kernel_rfl
theorem ent74 : Enters Tryz.prog 51 := enters_of Tryz.func51 (by kernel_rfl) rfl
theorem ent73 : Enters Tryz.prog 50 := enters_of Tryz.func50 (by kernel_rfl) rfl

theorem value1_spec {w : World} {a b k : Int} (h1 : 0 ≤ a) (h2 : a ≤ 1000) (h3 : 0 ≤ k) (h4 : k ≤ 1000) : Ret Tryz.prog 51 #[.agg #[.int .i64 a, .int .i64 b], .int .i64 k] w (fun v w' => v = .int .i64 (a - k) ∧ Below w.heap.size w w') := by
  refine ret_of (args := [.agg #[.int .i64 a, .int .i64 b], .int .i64 k]) Tryz.func51 rfl Tryz.ntmps51 rfl (rs := [.tmp 4]) rfl ?_
  refine wc_seq ?_
  refine wc_region ?_
  refine wl_op rfl (op_box rfl rfl ?_)
  intro W1 b2 hN3
  have hb4 : W1.heap[b2]? = some (.cells #[.int .i64 a, .int .i64 b] 37 (0, 0)) := hN3.blk
  refine wl_op rfl (op_assign rfl rfl ?_)
  refine (wl_done (then_norm ?_))
  refine wc_seq ?_
  refine wc_region ?_
  refine wl_op rfl (op_fieldAddr rfl fa46_0 rfl ?_)
  refine wl_op rfl (op_load1 (v := .int .i64 a) rfl agg3 (cell_blk hb4 rfl) rfl ?_)
  refine wl_op rfl (op_move rfl rfl ?_)
  refine wl_op rfl (op_sub (r := a - k) rfl rfl (by omega) (by omega) rfl ?_)
  refine wl_op rfl (op_assign rfl rfl ?_)
  refine (wl_done (then_norm ?_))
  refine WC.sub [(4, .int .i64 (a - k))] ⟨rfl, trivial⟩ ?_
  refine wc_ret ?_
  have hB5 : Below w.heap.size w W1 := (below_new (Below.refl _ _) hN3)
  refine ⟨[_], ⟨rfl, trivial⟩, ⟨?_, hB5⟩⟩
  exact rfl

/-- kinds within bounds, ascending -/
structure Asc (s : List Pol) : Prop where
  lo : ∀ (i : Nat) (x : Pol), s[i]? = some x → 1 ≤ x.kind ∧ x.kind ≤ 13
  up : ∀ (i j : Nat) (x y : Pol), i < j → s[i]? = some x → s[j]? = some y → x.kind < y.kind
theorem asc_lo {s : List Pol} (h : Asc s) {i : Nat} {x : Pol} (hx : s[i]? = some x) : 0 ≤ x.kind ∧ x.kind ≤ 1000 := by have := h.lo i x hx; omega
theorem bs_lo {s : List Pol} (h : Asc s) {m : Nat} {y : Pol} {k : Int} (hy : s[m]? = some y) (hk : y.kind - k < 0) : ∀ (j : Nat) (x : Pol), j < m + 1 → s[j]? = some x → x.kind < k := by
  intro j x hj hx
  rcases Nat.lt_or_ge j m with h1 | h1
  · have := h.up j m x y h1 hx hy; omega
  · obtain rfl : j = m := by omega
    rw [hy] at hx; cases hx; omega
theorem bs_hi {s : List Pol} (h : Asc s) {m : Nat} {y : Pol} {k : Int} (hy : s[m]? = some y) (hk : 0 ≤ y.kind - k) : ∀ (j : Nat) (x : Pol), m ≤ j → s[j]? = some x → k ≤ x.kind := by
  intro j x hj hx
  rcases Nat.lt_or_ge m j with h1 | h1
  · have := h.up m j y x h1 hy hx; omega
  · obtain rfl : j = m := by omega
    rw [hy] at hx; cases hx; omega
theorem bs_end {s : List Pol} {n i : Nat} {k : Int} {y : Pol} (hn : s.length = n) (hy : i < s.length → s[i]? = some y) :
    (decide ((i : Int) < ((n : Nat) : Int)) && decide (y.kind - k = 0)) = true ↔ ∃ x : Pol, s[i]? = some x ∧ x.kind = k := by
  rw [Bool.and_eq_true, decide_eq_true_eq, decide_eq_true_eq]
  constructor
  · rintro ⟨h1, h2⟩; exact ⟨y, hy (by omega), by omega⟩
  · rintro ⟨x, h1, h2⟩
    have := (List.getElem?_eq_some_iff.1 h1).1
    rw [hy this] at h1; cases h1; exact ⟨by omega, by omega⟩

theorem bsearch_spec {w : World} {A : Option Addr} {n c : Nat} {s : List Pol} {k : Int} (hs : RdP w A n s) (ha : Asc s) (hk0 : 0 ≤ k) (hk1 : k ≤ 1000) : Ret Tryz.prog 50 #[.slice A n c, .int .i64 k, .func (.func 51) #[] #[]] w (fun v w' => ∃ (i : Nat) (f : Bool), v = .tuple #[.int .i64 (i : Int), .bool f] ∧ i ≤ n ∧ (∀ (j : Nat) (x : Pol), j < i → s[j]? = some x → x.kind < k) ∧ (∀ (j : Nat) (x : Pol), i ≤ j → s[j]? = some x → k ≤ x.kind) ∧ (f = true ↔ ∃ x : Pol, s[i]? = some x ∧ x.kind = k) ∧ Below w.heap.size w w') := by
  obtain ⟨bs1, os2, hA3, hc4⟩ := hs.flat
  have hln5 := hs.len
  have hbd6 := hs.bd
  have hlen_s := hs.len
  refine ret_of (args := [.slice A n c, .int .i64 k, .func (.func 51) #[] #[]]) Tryz.func50 rfl Tryz.ntmps50 rfl (rs := [.tmp 6, .tmp 7]) rfl ?_
  refine wc_seq ?_
  refine wc_region ?_
  refine wl_op rfl (op_assign rfl rfl ?_)
  refine wl_op rfl (op_assign rfl rfl ?_)
  refine (wl_done (then_norm ?_))
  refine wc_seq ?_
  refine wc_region ?_
  refine wl_op rfl (op_move rfl rfl ?_)
  refine wl_op rfl (op_len_slice rfl rfl und22 rfl rfl ?_)
  refine wl_op rfl (op_assign rfl rfl ?_)
  refine (wl_done (then_norm ?_))
  refine wc_seq ?_
  refine wc_region ?_
  refine wl_op rfl (op_move rfl rfl ?_)
  refine wl_op rfl (op_assign rfl rfl ?_)
  refine wl_op rfl (op_assign rfl rfl ?_)
  refine (wl_done (then_norm ?_))
  refine wc_seq ?_
  refine wc_block ?_
  refine wc_loop (σ := Nat × Nat × World) (fun st_ => [(0, .slice A n c), (1, .int .i64 k), (2, .func (.func 51) #[] #[]), (6, .int .i64 0), (7, .bool false), (8, .int .i64 ((n : Nat) : Int)), (9, .int .i64 (st_.1 : Int)), (10, .int .i64 (st_.2.1 : Int))]) (fun st_ => st_.2.2) (fun st_ => (st_.1 ≤ st_.2.1) ∧ (st_.2.1 ≤ n) ∧ (∀ (m : Nat) (x : Pol), m < st_.1 → s[m]? = some x → x.kind < k) ∧ (∀ (m : Nat) (x : Pol), st_.2.1 ≤ m → s[m]? = some x → k ≤ x.kind) ∧ (Below w.heap.size w st_.2.2)) (fun st_ => st_.2.1 - st_.1) (0, n, w) ⟨(by first | omega | (dsimp only; omega)), (by first | omega | (dsimp only; omega)), (fun m x hm => absurd hm (by omega)), (fun m x hm hx => by have := (List.getElem?_eq_some_iff.1 hx).1; dsimp only at hm; omega), (Below.refl _ _)⟩ ⟨rfl, rfl, rfl, rfl, rfl, rfl, rfl, rfl, trivial⟩ rfl ?_
  rintro ⟨i, j, W7⟩ ⟨hij, hjn, hlo, hhi, hE8⟩
  dsimp only at hij hjn hlo hhi hE8
  refine wc_at [(0, .slice A n c), (1, .int .i64 k), (2, .func (.func 51) #[] #[]), (6, .int .i64 0), (7, .bool false), (8, .int .i64 ((n : Nat) : Int)), (9, .int .i64 (i : Int)), (10, .int .i64 (j : Int))] W7 ⟨rfl, rfl, rfl, rfl, rfl, rfl, rfl, rfl, trivial⟩ rfl ?_
  refine wc_seq ?_
  refine wc_seq ?_
  refine wc_region ?_
  refine wl_op rfl (op_move rfl rfl ?_)
  refine wl_op rfl (op_move rfl rfl ?_)
  refine wl_op rfl (op_lss rfl rfl rfl ?_)
  refine (wl_done (then_norm ?_))
  refine wc_cond (b := decide ((i : Int) < (j : Int))) rfl (fun hc9 => ?_) (fun hc9 => ?_)
  · have hc9r := hc9
    have hc9 := of_decide_eq_true hc9
    refine wc_skip ?_
    refine (then_norm ?_)
    refine wc_block ?_
    refine wc_seq ?_
    refine wc_region ?_
    refine wl_op rfl (op_move rfl rfl ?_)
    refine wl_op rfl (op_move rfl rfl ?_)
    refine wl_op rfl (op_add (r := ((i + j : Nat) : Int)) rfl rfl (by omega) (by omega) rfl ?_)
    refine wl_op rfl (op_conv_int (r := ((i + j : Nat) : Int)) rfl und91 (wrap_in (by simp [IntKind.min, IntKind.max, IntKind.bits, IntKind.signed]; omega)) ⟨_, und3⟩ rfl ?_)
    refine wl_op rfl (op_shrN (n := i + j) (s := 1) rfl rfl rfl rfl ?_)
    refine wl_op rfl (op_conv_int (r := (((i + j) / 2 ^ 1 : Nat) : Int)) rfl und3 (wrap_in (by simp [IntKind.min, IntKind.max, IntKind.bits, IntKind.signed]; omega)) ⟨_, und91⟩ rfl ?_)
    refine wl_op rfl (op_assign rfl rfl ?_)
    refine (wl_done (then_norm ?_))
    refine wc_seq ?_
    refine wc_region ?_
    refine wl_op rfl (op_move rfl rfl ?_)
    refine wl_op rfl (op_move rfl rfl ?_)
    refine wl_op rfl (op_move rfl rfl ?_)
    obtain ⟨x_s_i_j_2_1, hx_s_i_j_2_1⟩ : ∃ x, s[(i + j) / 2 ^ 1]? = some x := ⟨_, List.getElem?_eq_getElem (by have := hs.len; omega)⟩
    refine wl_op rfl (op_indexAddr (j := (i + j) / 2 ^ 1) rfl rfl und22 sz46 (hA3 (by omega)) rfl (by omega) rfl ?_)
    have hB10 : Below w.heap.size w W7 := (below_step (Below.refl _ _) hE8)
    refine wl_op rfl (op_loadN (vs := [.int .i64 x_s_i_j_2_1.kind, .int .i64 x_s_i_j_2_1.val]) rfl agg46 sz46 rfl ((hc4 ((i + j) / 2 ^ 1) x_s_i_j_2_1 hx_s_i_j_2_1).ext hB10) rfl ?_)
    refine wl_op rfl (op_move rfl rfl ?_)
    refine wl_op rfl (op_callv rfl ent74 rfl rfl (value1_spec (asc_lo ha (by assumption)).1 (asc_lo ha (by assumption)).2 hk0 hk1) rfl ?_)
    rintro _ W11 ⟨rfl, hE12⟩
    refine wl_op rfl (op_lss rfl rfl rfl ?_)
    refine (wl_done (then_norm ?_))
    refine wc_cond (b := decide (x_s_i_j_2_1.kind - k < 0)) rfl (fun hc13 => ?_) (fun hc13 => ?_)
    · have hc13r := hc13
      have hc13 := of_decide_eq_true hc13
      have HC1 := hc13
      refine wc_region ?_
      refine wl_op rfl (op_move rfl rfl ?_)
      refine wl_op rfl (op_add (r := (((i + j) / 2 ^ 1 + 1 : Nat) : Int)) rfl rfl (by omega) (by omega) rfl ?_)
      refine wl_op rfl (op_assign rfl rfl ?_)
      refine (wl_done (block_norm (then_norm ?_)))
      have hB14 : Below w.heap.size w W11 := (below_step hB10 hE12)
      refine ⟨(((i + j) / 2 ^ 1 + 1), j, W11), ⟨(by first | omega | (dsimp only; omega)), (by first | omega | (dsimp only; omega)), (bs_lo ha hx_s_i_j_2_1 HC1), (hhi), hB14⟩, ?_, ⟨rfl, rfl, rfl, rfl, rfl, rfl, rfl, rfl, trivial⟩, rfl⟩
      · dsimp only; omega
    · have hc13r := hc13
      have hc13 := of_decide_eq_false hc13
      have HC1 := hc13
      refine wc_region ?_
      refine wl_op rfl (op_move rfl rfl ?_)
      refine wl_op rfl (op_assign rfl rfl ?_)
      refine (wl_done (block_norm (then_norm ?_)))
      have hB15 : Below w.heap.size w W11 := (below_step hB10 hE12)
      refine ⟨(i, ((i + j) / 2 ^ 1), W11), ⟨(by first | omega | (dsimp only; omega)), (by first | omega | (dsimp only; omega)), (hlo), (bs_hi ha hx_s_i_j_2_1 (by omega)), hB15⟩, ?_, ⟨rfl, rfl, rfl, rfl, rfl, rfl, rfl, rfl, trivial⟩, rfl⟩
      · dsimp only; omega
  · have hc9r := hc9
    have hc9 := of_decide_eq_false hc9
    refine wc_exit ?_
    refine (then_exit (then_exit (block_here (then_norm ?_))))
    refine wc_seq ?_
    obtain ⟨x_s_i, hx_s_i⟩ : ∃ x, (i < s.length → s[i]? = some x) := by
      by_cases h : i < s.length
      · exact ⟨_, fun _ => List.getElem?_eq_getElem h⟩
      · exact ⟨(⟨0, 0⟩ : Pol), fun h1 => absurd h1 h⟩
    refine wc_text [(0, .slice A n c), (1, .int .i64 k), (2, .func (.func 51) #[] #[]), (8, .int .i64 ((n : Nat) : Int)), (9, .int .i64 (i : Int))] ⟨rfl, rfl, rfl, rfl, rfl, trivial⟩ [fun v _ => v = .int .i64 (i : Int), fun v _ => v = .int .i64 (i : Int), fun v _ => v = .int .i64 ((n : Nat) : Int), fun v _ => v = .bool (decide ((i : Int) < ((n : Nat) : Int))), fun v _ => v = .bool (decide ((i : Int) < ((n : Nat) : Int))), fun v _ => v = (bif (decide ((i : Int) < ((n : Nat) : Int))) then (.func (.func 51) #[] #[]) else undef), fun v _ => v = (bif (decide ((i : Int) < ((n : Nat) : Int))) then (.slice A n c) else undef), fun v _ => v = (bif (decide ((i : Int) < ((n : Nat) : Int))) then (.int .i64 (i : Int)) else undef), fun v _ => v = (bif (decide ((i : Int) < ((n : Nat) : Int))) then (.pointer (some ⟨bs1, os2 + i * 2, none⟩)) else undef), fun v _ => v = (bif (decide ((i : Int) < ((n : Nat) : Int))) then (.agg #[.int .i64 x_s_i.kind, .int .i64 x_s_i.val]) else undef), fun v _ => v = (bif (decide ((i : Int) < ((n : Nat) : Int))) then (.int .i64 k) else undef), fun v _ => v = (bif (decide ((i : Int) < ((n : Nat) : Int))) then (.int .i64 (x_s_i.kind - k)) else undef), fun v _ => v = (bif (decide ((i : Int) < ((n : Nat) : Int))) then (.bool (decide (x_s_i.kind - k = 0))) else undef), fun v _ => v = .bool ((decide ((i : Int) < ((n : Nat) : Int))) && (decide (x_s_i.kind - k = 0))), fun v _ => v = .int .i64 (i : Int), fun v _ => v = .bool ((decide ((i : Int) < ((n : Nat) : Int))) && (decide (x_s_i.kind - k = 0)))] [[], [], [], [1, 2], [3], [4], [4], [4], [4, 6, 7], [4, 8], [4], [4, 5, 9, 10], [4, 11], [4, 12], [0], [13]] [14, 15] rfl rfl rfl ⟨fun _ _ _ _ h => h, fun _ _ _ _ h => h, fun _ _ _ _ h => h, fun _ _ _ _ h => h, fun _ _ _ _ h => h, fun _ _ _ _ h => h, fun _ _ _ _ h => h, fun _ _ _ _ h => h, fun _ _ _ _ h => h, fun _ _ _ _ h => h, fun _ _ _ _ h => h, fun _ _ _ _ h => h, fun _ _ _ _ h => h, fun _ _ _ _ h => h, fun _ _ _ _ h => h, fun _ _ _ _ h => h, trivial⟩ ⟨?_, ?_, ?_, ?_, ?_, ?_, ?_, ?_, ?_, ?_, ?_, ?_, ?_, ?_, ?_, ?_, trivial⟩ ?_
    · intro W16 hW17
      refine gather_nil ?_
      refine opg_none rfl ?_
      exact op_move rfl rfl ⟨told rfl rfl rfl, (Below.refl _ _)⟩
    · intro W16 hW17
      refine gather_nil ?_
      refine opg_none rfl ?_
      exact op_move rfl rfl ⟨told rfl rfl rfl, (Below.refl _ _)⟩
    · intro W16 hW17
      refine gather_nil ?_
      refine opg_none rfl ?_
      exact op_move rfl rfl ⟨told rfl rfl rfl, (Below.refl _ _)⟩
    · intro W16 hW17
      rintro _ rfl
      rintro _ rfl
      refine gather_nil ?_
      refine opg_none rfl ?_
      exact op_lss rfl rfl rfl ⟨told rfl rfl rfl, (Below.refl _ _)⟩
    · intro W16 hW17
      rintro _ rfl
      refine gather_nil ?_
      refine opg_none rfl ?_
      exact op_move rfl rfl ⟨told rfl rfl rfl, (Below.refl _ _)⟩
    · intro W16 hW17
      rintro _ rfl
      refine gather_nil ?_
      refine opg_t1 rfl rfl (fun hg19 => ?_) (fun h => by rw [h, cond_false])
      exact op_move rfl rfl ⟨told rfl rfl (by rw [hg19, cond_true]), (Below.refl _ _)⟩
    · intro W16 hW17
      rintro _ rfl
      refine gather_nil ?_
      refine opg_t1 rfl rfl (fun hg20 => ?_) (fun h => by rw [h, cond_false])
      exact op_move rfl rfl ⟨told rfl rfl (by rw [hg20, cond_true]), (Below.refl _ _)⟩
    · intro W16 hW17
      rintro _ rfl
      refine gather_nil ?_
      refine opg_t1 rfl rfl (fun hg21 => ?_) (fun h => by rw [h, cond_false])
      exact op_move rfl rfl ⟨told rfl rfl (by rw [hg21, cond_true]), (Below.refl _ _)⟩
    · intro W16 hW17
      rintro _ rfl
      intro v22 (hv23 : v22 = bif (decide ((i : Int) < ((n : Nat) : Int))) then (.slice A n c) else undef)
      intro v24 (hv25 : v24 = bif (decide ((i : Int) < ((n : Nat) : Int))) then (.int .i64 (i : Int)) else undef)
      refine gather_nil ?_
      refine opg_t1 rfl rfl (fun hg26 => ?_) (fun h => by rw [h, cond_false])
      have hd27 := of_decide_eq_true hg26
      obtain rfl : v22 = .slice A n c := by rw [hv23, hg26, cond_true]
      obtain rfl : v24 = .int .i64 (i : Int) := by rw [hv25, hg26, cond_true]
      exact op_indexAddr (j := i) rfl rfl und22 sz46 (hA3 (by omega)) rfl (by omega) rfl ⟨told rfl rfl (by rw [hg26, cond_true]), (Below.refl _ _)⟩
    · intro W16 hW17
      rintro _ rfl
      intro v28 (hv29 : v28 = bif (decide ((i : Int) < ((n : Nat) : Int))) then (.pointer (some ⟨bs1, os2 + i * 2, none⟩)) else undef)
      refine gather_nil ?_
      refine opg_t1 rfl rfl (fun hg30 => ?_) (fun h => by rw [h, cond_false])
      have hd31 := of_decide_eq_true hg30
      obtain rfl : v28 = .pointer (some ⟨bs1, os2 + i * 2, none⟩) := by rw [hv29, hg30, cond_true]
      have hB32 : Below w.heap.size w W16 := (below_step (below_step (Below.refl _ _) hE8) hW17)
      exact op_loadN (vs := [.int .i64 x_s_i.kind, .int .i64 x_s_i.val]) rfl agg46 sz46 rfl ((hc4 i x_s_i (hx_s_i (by have := hs.len; omega))).ext hB32) rfl ⟨told rfl rfl (by rw [hg30, cond_true]), (Below.refl _ _)⟩
    · intro W16 hW17
      rintro _ rfl
      refine gather_nil ?_
      refine opg_t1 rfl rfl (fun hg33 => ?_) (fun h => by rw [h, cond_false])
      exact op_move rfl rfl ⟨told rfl rfl (by rw [hg33, cond_true]), (Below.refl _ _)⟩
    · intro W16 hW17
      rintro _ rfl
      intro v34 (hv35 : v34 = bif (decide ((i : Int) < ((n : Nat) : Int))) then (.func (.func 51) #[] #[]) else undef)
      intro v36 (hv37 : v36 = bif (decide ((i : Int) < ((n : Nat) : Int))) then (.agg #[.int .i64 x_s_i.kind, .int .i64 x_s_i.val]) else undef)
      intro v38 (hv39 : v38 = bif (decide ((i : Int) < ((n : Nat) : Int))) then (.int .i64 k) else undef)
      refine gather_nil ?_
      refine opg_t1 rfl rfl (fun hg40 => ?_) (fun h => by rw [h, cond_false])
      have hd41 := of_decide_eq_true hg40
      obtain rfl : v34 = .func (.func 51) #[] #[] := by rw [hv35, hg40, cond_true]
      obtain rfl : v36 = .agg #[.int .i64 x_s_i.kind, .int .i64 x_s_i.val] := by rw [hv37, hg40, cond_true]
      obtain rfl : v38 = .int .i64 k := by rw [hv39, hg40, cond_true]
      refine op_callv rfl ent74 rfl rfl (value1_spec (asc_lo ha (hx_s_i (by have := hs.len; omega))).1 (asc_lo ha (hx_s_i (by have := hs.len; omega))).2 hk0 hk1) rfl ?_
      rintro _ W42 ⟨rfl, hE43⟩
      exact ⟨told rfl rfl (by rw [hg40, cond_true]), hE43⟩
    · intro W16 hW17
      rintro _ rfl
      intro v44 (hv45 : v44 = bif (decide ((i : Int) < ((n : Nat) : Int))) then (.int .i64 (x_s_i.kind - k)) else undef)
      refine gather_nil ?_
      refine opg_t1 rfl rfl (fun hg46 => ?_) (fun h => by rw [h, cond_false])
      have hd47 := of_decide_eq_true hg46
      obtain rfl : v44 = .int .i64 (x_s_i.kind - k) := by rw [hv45, hg46, cond_true]
      exact op_eql rfl rfl rfl ⟨told rfl rfl (by rw [hg46, cond_true]), (Below.refl _ _)⟩
    · intro W16 hW17
      rintro _ rfl
      intro v48 (hv49 : v48 = bif (decide ((i : Int) < ((n : Nat) : Int))) then (.bool (decide (x_s_i.kind - k = 0))) else undef)
      refine gather_nil ?_
      refine opg_none rfl ?_
      exact op_and rfl rfl rfl (fun h => by rw [hv49, h, cond_true]) rfl ⟨told rfl rfl rfl, (Below.refl _ _)⟩
    · intro W16 hW17
      rintro _ rfl
      refine gather_nil ?_
      refine opg_none rfl ?_
      exact op_assign rfl rfl ⟨told rfl rfl rfl, (Below.refl _ _)⟩
    · intro W16 hW17
      rintro _ rfl
      refine gather_nil ?_
      refine opg_none rfl ?_
      exact op_assign rfl rfl ⟨told rfl rfl rfl, (Below.refl _ _)⟩
    intro W50 hW51
    rintro _ rfl
    rintro _ rfl
    refine gather_nil ?_
    refine (then_norm ?_)
    refine wc_ret ?_
    have hB52 : Below w.heap.size w W50 := (below_step (below_step (Below.refl _ _) hE8) hW51)
    refine ⟨[_, _], ⟨rfl, rfl, trivial⟩, ⟨i, _, ?_, (by first | omega | (dsimp only; omega)), hlo, (fun m x hm => hhi m x (by omega)), (bs_end hlen_s hx_s_i), hB52⟩⟩
    exact rfl

def valueOf (s : List Pol) (k : Int) : Int := match s.find? (fun p => decide (p.kind = k)) with
  | some p => p.val
  | none => leastI k
theorem valueOf_some {s : List Pol} (h : Asc s) {i : Nat} {x : Pol} {k : Int} (hx : s[i]? = some x) (hk : x.kind = k) : valueOf s k = x.val := by
  unfold valueOf
  cases hf : s.find? (fun p => decide (p.kind = k)) with
  | none =>
    rw [List.find?_eq_none] at hf
    have := hf x (List.mem_of_getElem? hx)
    simp [hk] at this
  | some p =>
    have h1 := List.find?_some hf
    have h2 := List.mem_of_find?_eq_some hf
    obtain ⟨j, hj, hjp⟩ := List.getElem_of_mem h2
    have h3 : s[j]? = some p := by rw [List.getElem?_eq_getElem hj, hjp]
    have h4 : p.kind = k := by simpa using h1
    have : i = j := by
      rcases Nat.lt_trichotomy i j with h5 | h5 | h5
      · have := h.up i j x p h5 hx h3; omega
      · exact h5
      · have := h.up j i p x h5 h3 hx; omega
    subst this
    rw [hx] at h3; cases h3; rfl
theorem valueOf_none {s : List Pol} {i : Nat} {k : Int} (hlo : ∀ (j : Nat) (x : Pol), j < i → s[j]? = some x → x.kind < k) (hhi : ∀ (j : Nat) (x : Pol), i ≤ j → s[j]? = some x → k ≤ x.kind)
    (ha : Asc s) (h : ¬ ∃ x : Pol, s[i]? = some x ∧ x.kind = k) : valueOf s k = leastI k := by
  unfold valueOf
  have hf : s.find? (fun p => decide (p.kind = k)) = none := by
    rw [List.find?_eq_none]
    intro p hp
    obtain ⟨j, hj, hjp⟩ := List.getElem_of_mem hp
    have h3 : s[j]? = some p := by rw [List.getElem?_eq_getElem hj, hjp]
    simp only [decide_eq_true_eq]
    intro hk
    rcases Nat.lt_trichotomy j i with h5 | h5 | h5
    · have := hlo j p h5 h3; omega
    · subst h5; exact h ⟨p, h3, hk⟩
    · have hi : i < s.length := by omega
      have h6 : s[i]? = some s[i] := List.getElem?_eq_getElem hi
      have h7 := ha.up i j _ p h5 h6 h3
      have h8 := hhi i _ (Nat.le_refl _) h6
      omega
  rw [hf]

theorem value_spec {w : World} {A : Option Addr} {n c : Nat} {s : List Pol} {k : Int} (hs : RdP w A n s) (ha : Asc s) (hk0 : 1 ≤ k) (hk1 : k ≤ 13) : Ret Tryz.prog 28 #[.slice A n c, .int .i64 k] w (fun v w' => v = .int .i64 (valueOf s k) ∧ Below w.heap.size w w') := by
  obtain ⟨bs1, os2, hA3, hc4⟩ := hs.flat
  have hln5 := hs.len
  have hbd6 := hs.bd
  have hlen_s := hs.len
  refine ret_of (args := [.slice A n c, .int .i64 k]) Tryz.func28 rfl Tryz.ntmps28 rfl (rs := [.tmp 4]) rfl ?_
  refine wc_seq ?_
  refine wc_region ?_
  refine wl_op rfl (op_assign rfl rfl ?_)
  refine (wl_done (then_norm ?_))
  refine wc_seq ?_
  refine wc_region ?_
  refine wl_op rfl (op_move rfl rfl ?_)
  refine wl_op rfl (op_move rfl rfl ?_)
  refine wl_op rfl (op_call ent73 rfl (bsearch_spec hs ha (by omega) (by omega)) rfl ?_)
  rintro _ W13 ⟨i7, f8, rfl, hp9, hp10, hp11, hp12, hE14⟩
  refine wl_op rfl (op_move rfl rfl ?_)
  refine wl_op rfl (op_extract (v := .int .i64 (i7 : Int)) rfl rfl rfl ?_)
  refine wl_op rfl (op_extract (v := .bool f8) rfl rfl rfl ?_)
  refine wl_op rfl (op_assign rfl rfl ?_)
  refine wl_op rfl (op_assign rfl rfl ?_)
  refine (wl_done (then_norm ?_))
  refine WC.sub [(0, .slice A n c), (1, .int .i64 k), (4, .int .i64 0), (5, .int .i64 (i7 : Int)), (6, .bool f8)] ⟨rfl, rfl, rfl, rfl, rfl, trivial⟩ ?_
  refine wc_seq ?_
  refine wc_seq ?_
  refine wc_region ?_
  refine wl_op rfl (op_move rfl rfl ?_)
  refine wl_op rfl (op_not rfl rfl ?_)
  refine (wl_done (then_norm ?_))
  refine wc_cond (b := !f8) rfl (fun hc15 => ?_) (fun hc15 => ?_)
  · have hne : ¬ ∃ x : Pol, s[i7]? = some x ∧ x.kind = k := fun h => by rw [hp12.2 h] at hc15; cases hc15
    refine wc_seq ?_
    refine wc_region ?_
    refine wl_op rfl (op_move rfl rfl ?_)
    refine wl_op rfl (op_call ent59 rfl (least_spec (by omega) (by omega)) rfl ?_)
    rintro _ W16 ⟨rfl, hE17⟩
    refine wl_op rfl (op_assign rfl rfl ?_)
    refine (wl_done (then_norm ?_))
    refine WC.sub [(0, .slice A n c), (4, .int .i64 (leastI k)), (5, .int .i64 (i7 : Int))] ⟨rfl, rfl, rfl, trivial⟩ ?_
    refine wc_ret ?_
    refine (then_ret ?_)
    have hB18 : Below w.heap.size w W16 := (below_step (below_step (Below.refl _ _) hE14) hE17)
    refine ⟨[_], ⟨rfl, trivial⟩, ⟨?_, hB18⟩⟩
    exact congrArg (Value.int .i64) (valueOf_none hp10 hp11 ha hne).symm
  · have hf : f8 = true := by simpa using hc15
    obtain ⟨xf, hxf, hkf⟩ := hp12.1 hf
    have hlt := (List.getElem?_eq_some_iff.1 hxf).1
    refine wc_skip ?_
    refine (then_norm ?_)
    refine wc_seq ?_
    refine wc_region ?_
    refine wl_op rfl (op_move rfl rfl ?_)
    refine wl_op rfl (op_move rfl rfl ?_)
    obtain ⟨x_s_i7, hx_s_i7⟩ : ∃ x, s[i7]? = some x := ⟨_, List.getElem?_eq_getElem (by have := hs.len; omega)⟩
    refine wl_op rfl (op_indexAddr (j := i7) rfl rfl und22 sz46 (hA3 (by omega)) rfl (by omega) rfl ?_)
    refine wl_op rfl (op_fieldAddr rfl fa46_1 rfl ?_)
    have hB19 : Below w.heap.size w W13 := (below_step (Below.refl _ _) hE14)
    refine wl_op rfl (op_load1 (v := .int .i64 x_s_i7.val) rfl agg3 (((hc4 i7 x_s_i7 hx_s_i7).ext hB19).at (i := 1) rfl) rfl ?_)
    refine wl_op rfl (op_assign rfl rfl ?_)
    refine (wl_done (then_norm ?_))
    refine WC.sub [(4, .int .i64 x_s_i7.val)] ⟨rfl, trivial⟩ ?_
    refine wc_ret ?_
    refine ⟨[_], ⟨rfl, trivial⟩, ⟨?_, hB19⟩⟩
    rw [hxf] at hx_s_i7
    cases hx_s_i7
    exact congrArg (Value.int .i64) (valueOf_some ha hxf hkf).symm

end Go.Eng



set_option linter.unusedVariables false
set_option maxRecDepth 100000
namespace Go.Eng
open Go.RowKit Go.Shelf Go.Proofs Pol

theorem ent27 : Enters Tryz.prog 14 := enters_of Tryz.func14 (by kernel_rfl) rfl
theorem app22 : AppT Tryz.prog 22 37 2 16 := appT_of (z := .agg #[.int .i64 0, .int .i64 0]) (by kernel_rfl) (by kernel_rfl) rfl rfl
theorem ent58 : Enters Tryz.prog 56 := enters_of Tryz.func56 (by kernel_rfl) rfl
theorem ent57 : Enters Tryz.prog 53 := enters_of Tryz.func53 (by kernel_rfl) rfl
theorem ent69 : Enters Tryz.prog 54 := enters_of Tryz.func54 (by kernel_rfl) rfl

def chosenL (s : List Pol) (keep : Pol → Bool) : List Pol := if validSet s = true then s.filter keep else []
def chosenE (s : List Pol) : Int := if validSet s = true then 0 else 1
theorem take_filter_t {α : Type} {s : List α} {k : Nat} {x : α} {f : α → Bool} (hx : s[k]? = some x) (h : f x = true) : (s.take (k + 1)).filter f = (s.take k).filter f ++ [x] := by
  have hk := (List.getElem?_eq_some_iff.1 hx)
  obtain ⟨hk, rfl⟩ := hk
  rw [List.take_succ_eq_append_getElem hk, List.filter_append]; simp [h]
theorem take_filter_f {α : Type} {s : List α} {k : Nat} {x : α} {f : α → Bool} (hx : s[k]? = some x) (h : f x = false) : (s.take (k + 1)).filter f = (s.take k).filter f := by
  have hk := (List.getElem?_eq_some_iff.1 hx)
  obtain ⟨hk, rfl⟩ := hk
  rw [List.take_succ_eq_append_getElem hk, List.filter_append]; simp [h]
theorem filter_take_le {α : Type} (s : List α) (k : Nat) (f : α → Bool) : ((s.take k).filter f).length ≤ k := Nat.le_trans (List.length_filter_le _ _) (List.length_take_le _ _)

theorem chosen_spec {w : World} {A : Option Addr} {n c : Nat} {s : List Pol} {g : Nat} {caps : Array Value} {keep : Pol → Bool} (hs : RdP w A n s) (hn : n ≤ 1000) (hent : Enters Tryz.prog g) (hk : ∀ W a b, validSet s = true → (⟨a, b⟩ : Pol) ∈ s → Below w.heap.size w W → Ret Tryz.prog g (#[.agg #[.int .i64 a, .int .i64 b]] ++ caps) W (fun v W' => v = .bool (keep ⟨a, b⟩) ∧ Below W.heap.size W W')) : Ret Tryz.prog 53 #[.slice A n c, .func (.func g) #[] caps] w (fun v w' => ∃ (A1 : Option Addr) (n1 c1 : Nat), v = .tuple #[.slice A1 n1 c1, .int .i64 (chosenE s)] ∧ RdP w' A1 n1 (chosenL s keep) ∧ Below w.heap.size w w') := by
  obtain ⟨bs1, os2, hA3, hc4⟩ := hs.flat
  have hln5 := hs.len
  have hbd6 := hs.bd
  have hlen_s := hs.len
  refine ret_of (args := [.slice A n c, .func (.func g) #[] caps]) Tryz.func53 rfl Tryz.ntmps53 rfl (rs := [.tmp 4, .tmp 5]) rfl ?_
  refine wc_seq ?_
  refine wc_region ?_
  refine wl_op rfl (op_assign rfl rfl ?_)
  refine wl_op rfl (op_assign rfl rfl ?_)
  refine (wl_done (then_norm ?_))
  refine wc_seq ?_
  refine wc_seq ?_
  refine wc_region ?_
  refine wl_op rfl (op_move rfl rfl ?_)
  refine wl_op rfl (op_call ent27 rfl (ValidSet_spec hs) rfl ?_)
  rintro _ W7 ⟨rfl, hE8⟩
  refine wl_op rfl (op_not rfl rfl ?_)
  refine (wl_done (then_norm ?_))
  refine wc_cond (b := !(validSet s)) rfl (fun hc9 => ?_) (fun hc9 => ?_)
  · have hv : validSet s = false := by simpa using hc9
    refine wc_seq ?_
    refine wc_region ?_
    refine wl_op rfl (op_assign rfl rfl ?_)
    refine wl_op rfl (op_assign rfl rfl ?_)
    refine (wl_done (then_norm ?_))
    refine wc_ret ?_
    refine (then_ret ?_)
    have hB10 : Below w.heap.size w W7 := (below_step (Below.refl _ _) hE8)
    refine ⟨[_, _], ⟨rfl, rfl, trivial⟩, ⟨none, 0, 0, ?_, (by rw [chosenL, if_neg (by rw [hv]; decide)]; exact rd_nil _ _ _), hB10⟩⟩
    rw [chosenE, if_neg (by rw [hv]; decide)]
    rfl
  · have hv : validSet s = true := by simpa using hc9
    refine wc_skip ?_
    refine (then_norm ?_)
    refine wc_seq ?_
    refine wc_region ?_
    refine wl_op rfl (op_assign rfl rfl ?_)
    refine (wl_done (then_norm ?_))
    refine wc_seq ?_
    refine wc_seq ?_
    refine wc_region ?_
    refine wl_op rfl (op_move rfl rfl ?_)
    refine wl_op rfl (op_len_slice rfl rfl und22 rfl rfl ?_)
    refine wl_op rfl (op_move rfl rfl ?_)
    refine (wl_done (then_norm ?_))
    refine wc_block ?_
    refine wc_loop (σ := Nat × Value × World) (fun st_ => [(1, .func (.func g) #[] caps), (4, .slice none 0 0), (5, .int .i64 0), (6, st_.2.1), (12, .slice A n c), (13, .int .i64 ((n : Nat) : Int)), (14, .int .i64 (st_.1 : Int))]) (fun st_ => st_.2.2) (fun st_ => (st_.1 ≤ n) ∧ (Own encP W7.heap.size 37 2 st_.2.2 st_.2.1 ((s.take st_.1).filter keep)) ∧ (Below W7.heap.size W7 st_.2.2)) (fun st_ => n - st_.1) (0, (.slice none 0 0), W7) ⟨(by first | omega | (dsimp only; omega)), (own_nil _ _ _ _ _), (Below.refl _ _)⟩ ⟨rfl, rfl, rfl, rfl, rfl, rfl, rfl, trivial⟩ rfl ?_
    rintro ⟨k, v, W11⟩ ⟨hk1, hown, hE12⟩
    dsimp only at hk1 hown hE12
    refine wc_at [(1, .func (.func g) #[] caps), (4, .slice none 0 0), (5, .int .i64 0), (6, v), (12, .slice A n c), (13, .int .i64 ((n : Nat) : Int)), (14, .int .i64 (k : Int))] W11 ⟨rfl, rfl, rfl, rfl, rfl, rfl, rfl, trivial⟩ rfl ?_
    refine wc_seq ?_
    refine wc_region ?_
    refine wl_op rfl (op_lss rfl rfl rfl ?_)
    refine (wl_done (then_norm ?_))
    refine wc_seq ?_
    refine wc_cond (b := decide ((k : Int) < ((n : Nat) : Int))) rfl (fun hc13 => ?_) (fun hc13 => ?_)
    · have hc13r := hc13
      have hc13 := of_decide_eq_true hc13
      refine wc_skip ?_
      refine (then_norm ?_)
      refine wc_seq ?_
      refine wc_block ?_
      refine wc_seq ?_
      refine wc_region ?_
      obtain ⟨x_s_k, hx_s_k⟩ : ∃ x, s[k]? = some x := ⟨_, List.getElem?_eq_getElem (by have := hs.len; omega)⟩
      refine wl_op rfl (op_indexAddr (j := k) rfl rfl und22 sz46 (hA3 (by omega)) rfl (by omega) rfl ?_)
      have hB14 : Below w.heap.size w W11 := (below_step (below_step (Below.refl _ _) hE8) hE12)
      refine wl_op rfl (op_loadN (vs := [.int .i64 x_s_k.kind, .int .i64 x_s_k.val]) rfl agg46 sz46 rfl ((hc4 k x_s_k hx_s_k).ext hB14) rfl ?_)
      refine wl_op rfl (op_alloc zero46 rfl ?_)
      intro W15 b16 hN17
      have hb18 : W15.heap[b16]? = some (.cells #[.int .i64 0, .int .i64 0] 37 (0, 0)) := hN17.blk
      refine wl_op rfl (op_storeW rfl rfl sz46 hb18 rfl rfl ?_)
      intro W19 hP20 hb21
      have hb21 : W19.heap[b16]? = some (.cells #[.int .i64 x_s_k.kind, .int .i64 x_s_k.val] 37 (0, 0)) := hb21
      refine (wl_done (then_norm ?_))
      refine wc_seq ?_
      refine wc_region ?_
      refine wl_op rfl (op_move rfl rfl ?_)
      refine wl_op rfl (op_loadN (vs := [.int .i64 x_s_k.kind, .int .i64 x_s_k.val]) rfl agg46 sz46 rfl (cells_blk hb21) rfl ?_)
      have hB22 : Below w.heap.size w W19 := (hP20.below (below_new hB14 hN17) (le_new hB14 hN17))
      refine wl_op rfl (op_callv (f := g) rfl hent rfl rfl (hk _ _ _ hv (List.mem_of_getElem? hx_s_k) hB22) rfl ?_)
      rintro _ W23 ⟨rfl, hE24⟩
      refine (wl_done (then_norm ?_))
      refine wc_cond (b := keep ⟨x_s_k.kind, x_s_k.val⟩) rfl (fun hc25 => ?_) (fun hc25 => ?_)
      · have hkeep : keep x_s_k = true := hc25
        refine wc_region ?_
        refine wl_op rfl (op_move rfl rfl ?_)
        have hb26 : W23.heap[b16]? = some (.cells #[.int .i64 x_s_k.kind, .int .i64 x_s_k.val] 37 (0, 0)) := (blk_ext hb21 hE24)
        refine wl_op rfl (op_loadN (vs := [.int .i64 x_s_k.kind, .int .i64 x_s_k.val]) rfl agg46 sz46 rfl (cells_blk hb26) rfl ?_)
        refine wl_op rfl (op_buildSlice (cs := #[.int .i64 x_s_k.kind, .int .i64 x_s_k.val]) (e := 37) rfl (fun w => by kernel_rfl) rfl ?_)
        intro W27 b28 hN29
        have hb30 : W27.heap[b28]? = some (.cells #[.int .i64 x_s_k.kind, .int .i64 x_s_k.val] 37 (0, 0)) := hN29.blk
        have hB36 : Below W7.heap.size W7 W11 := (below_step (Below.refl _ _) hE12)
        have hB37 : Below W7.heap.size W7 W27 := (below_new (below_step (hP20.below (below_new (below_step (Below.refl _ _) hE12) hN17) (le_new hB36 hN17)) hE24) hN29)
        refine wl_op rfl (op_appendP (enc := encP) (⟨x_s_k.kind, x_s_k.val⟩ : Pol) rfl rfl app22 rfl rfl (Own.ext (Own.ext (own_put (Own.ext hown hN17.ext) hP20 (own_ne_new hown hN17)) hE24) hN29.ext) (cells_blk hb30) rfl rfl (by have := filter_take_le s k keep; omega) (by have := filter_take_le s k keep; omega) hB37.size rfl ?_)
        intro v31 W32 ho33 hg34 hob35
        refine wl_op rfl (op_assign rfl rfl ?_)
        refine (wl_done (block_norm (then_norm ?_)))
        refine wc_region ?_
        refine wl_op rfl (op_add (r := ((k + 1 : Nat) : Int)) rfl rfl (by omega) (by omega) rfl ?_)
        refine wl_op rfl (op_move rfl rfl ?_)
        refine (wl_done (then_norm ?_))
        have hB38 : Below W7.heap.size W7 W32 := (below_grown hB37 (Own.ext (Own.ext (own_put (Own.ext hown hN17.ext) hP20 (own_ne_new hown hN17)) hE24) hN29.ext) hg34 (Nat.le_refl _))
        refine ⟨((k + 1), v31, W32), ⟨(by first | omega | (dsimp only; omega)), (by dsimp only; rw [take_filter_t hx_s_k hkeep]; exact ho33), hB38⟩, ?_, ⟨rfl, rfl, rfl, rfl, rfl, rfl, rfl, trivial⟩, rfl⟩
        · dsimp only; omega
      · have hkeep : keep x_s_k = false := hc25
        refine wc_skip ?_
        refine (block_norm (then_norm ?_))
        refine wc_region ?_
        refine wl_op rfl (op_add (r := ((k + 1 : Nat) : Int)) rfl rfl (by omega) (by omega) rfl ?_)
        refine wl_op rfl (op_move rfl rfl ?_)
        refine (wl_done (then_norm ?_))
        have hB39 : Below W7.heap.size W7 W11 := (below_step (Below.refl _ _) hE12)
        have hB40 : Below W7.heap.size W7 W23 := (below_step (hP20.below (below_new (below_step (Below.refl _ _) hE12) hN17) (le_new hB39 hN17)) hE24)
        refine ⟨((k + 1), v, W23), ⟨(by first | omega | (dsimp only; omega)), (by dsimp only; rw [take_filter_f hx_s_k hkeep]; exact (Own.ext (own_put (Own.ext hown hN17.ext) hP20 (own_ne_new hown hN17)) hE24)), hB40⟩, ?_, ⟨rfl, rfl, rfl, rfl, rfl, rfl, rfl, trivial⟩, rfl⟩
        · dsimp only; omega
    · have hc13r := hc13
      have hc13 := of_decide_eq_false hc13
      refine wc_exit ?_
      refine (then_exit (then_exit (block_here (then_norm ?_))))
      refine wc_seq ?_
      refine wc_region ?_
      refine wl_op rfl (op_move rfl rfl ?_)
      refine wl_op rfl (op_assign rfl rfl ?_)
      refine wl_op rfl (op_assign rfl rfl ?_)
      refine (wl_done (then_norm ?_))
      refine WC.sub [(4, v), (5, .int .i64 0)] ⟨rfl, rfl, trivial⟩ ?_
      refine wc_ret ?_
      have hB41 : Below w.heap.size w W11 := (below_step (below_step (Below.refl _ _) hE8) hE12)
      obtain ⟨A42, n43, c44, hv45, hr46, hn47, hnc48⟩ := rd_of_OwnC hown (fun _ => rfl) (by have := filter_take_le s k keep; omega)
      subst hv45
      have hkn : s.take k = s := List.take_of_length_le (by omega)
      refine ⟨[_, _], ⟨rfl, rfl, trivial⟩, ⟨A42, n43, c44, ?_, (by rw [chosenL, if_pos hv, ← hkn]; exact hr46), hB41⟩⟩
      rw [chosenE, if_pos hv]
      rfl

theorem mem_valid {s : List Pol} (hv : validSet s = true) {p : Pol} (hm : p ∈ s) : validB p = true := by
  obtain ⟨i, hi, rfl⟩ := List.getElem_of_mem hm
  have := validSet_iff.1 hv i hi
  unfold okAt at this
  rw [List.getElem?_eq_getElem hi] at this
  exact (Bool.and_eq_true_iff.1 this).1
theorem valid_kind {p : Pol} (h : validB p = true) : 1 ≤ p.kind ∧ p.kind ≤ 13 := by
  unfold validB at h
  exact isB_iff.1 (and_l (and_l h))
theorem valid_val {p : Pol} (h : validB p = true) : leastI p.kind ≤ p.val ∧ p.val ≤ mostI p.kind := by
  unfold validB at h
  exact ⟨of_decide_eq_true (and_r (and_l h)), of_decide_eq_true (and_r h)⟩
theorem valid_asc {s : List Pol} (hv : validSet s = true) : Asc s := by
  have h1 : ∀ (i j : Nat) (x y : Pol), i < j → s[i]? = some x → s[j]? = some y → x.kind < y.kind := by
    intro i j
    induction j with
    | zero => intro x y h; omega
    | succ j ih =>
      intro x y hij hx hy
      have hj := (List.getElem?_eq_some_iff.1 hy).1
      have hz : s[j]? = some s[j] := List.getElem?_eq_getElem (by omega)
      have hok := validSet_iff.1 hv (j + 1) hj
      have hs : s[j].kind < y.kind := by
        unfold okAt at hok
        rw [hy] at hok
        have := and_r hok
        rw [show j + 1 - 1 = j from rfl, hz] at this
        simpa using this
      rcases Nat.lt_or_ge i j with h | h
      · have := ih x s[j] h hx hz; omega
      · obtain rfl : i = j := by omega
        rw [hz] at hx; cases hx; exact hs
  exact ⟨fun i x hx => valid_kind (mem_valid hv (List.mem_of_getElem? hx)), h1⟩
abbrev keepPlain (p : Pol) : Bool := !decide (p.val = leastI p.kind)
abbrev keepCalls (p : Pol) : Bool := decide (8 ≤ p.kind)

theorem Plain1_spec {w : World} {a b : Int} (h1 : 1 ≤ a) (h2 : a ≤ 13) : Ret Tryz.prog 56 #[.agg #[.int .i64 a, .int .i64 b]] w (fun v w' => v = .bool (keepPlain ⟨a, b⟩) ∧ Below w.heap.size w w') := by
  refine ret_of (args := [.agg #[.int .i64 a, .int .i64 b]]) Tryz.func56 rfl Tryz.ntmps56 rfl (rs := [.tmp 2]) rfl ?_
  refine wc_seq ?_
  refine wc_region ?_
  refine wl_op rfl (op_box rfl rfl ?_)
  intro W1 b2 hN3
  have hb4 : W1.heap[b2]? = some (.cells #[.int .i64 a, .int .i64 b] 37 (0, 0)) := hN3.blk
  refine wl_op rfl (op_assign rfl rfl ?_)
  refine (wl_done (then_norm ?_))
  refine wc_seq ?_
  refine wc_draw mixed [(1, .pointer (some ⟨b2, 0, none⟩))] ⟨rfl, trivial⟩ [fun v _ => v = .pointer (some ⟨b2, 0 + 1, none⟩), fun v _ => v = .int .i64 b, fun v _ => v = .pointer (some ⟨b2, 0 + 0, none⟩), fun v _ => v = .int .i64 a, fun v _ => v = .int .i64 (leastI a), fun v _ => v = .bool (!decide (b = leastI a)), fun v _ => v = .bool (!decide (b = leastI a))] [[], [0], [], [2], [3], [1, 4], [5]] [6] rfl rfl rfl ⟨fun _ _ _ _ h => h, fun _ _ _ _ h => h, fun _ _ _ _ h => h, fun _ _ _ _ h => h, fun _ _ _ _ h => h, fun _ _ _ _ h => h, fun _ _ _ _ h => h, trivial⟩ ⟨?_, ?_, ?_, ?_, ?_, ?_, ?_, trivial⟩ ?_
  · intro W5 hW6
    refine gather_nil ?_
    refine opg_none rfl ?_
    exact op_fieldAddr rfl fa46_1 rfl ⟨told rfl rfl rfl, (Below.refl _ _)⟩
  · intro W5 hW6
    rintro _ rfl
    refine gather_nil ?_
    refine opg_none rfl ?_
    have hb9 : W5.heap[b2]? = some (.cells #[.int .i64 a, .int .i64 b] 37 (0, 0)) := (blk_ext hb4 hW6)
    exact op_load1 (v := .int .i64 b) rfl agg3 (cell_blk hb9 rfl) rfl ⟨told rfl rfl rfl, (Below.refl _ _)⟩
  · intro W5 hW6
    refine gather_nil ?_
    refine opg_none rfl ?_
    exact op_fieldAddr rfl fa46_0 rfl ⟨told rfl rfl rfl, (Below.refl _ _)⟩
  · intro W5 hW6
    rintro _ rfl
    refine gather_nil ?_
    refine opg_none rfl ?_
    have hb10 : W5.heap[b2]? = some (.cells #[.int .i64 a, .int .i64 b] 37 (0, 0)) := (blk_ext hb4 hW6)
    exact op_load1 (v := .int .i64 a) rfl agg3 (cell_blk hb10 rfl) rfl ⟨told rfl rfl rfl, (Below.refl _ _)⟩
  · intro W5 hW6
    rintro _ rfl
    refine gather_nil ?_
    refine opg_none rfl ?_
    refine op_call ent59 rfl (least_spec (by omega) (by omega)) rfl ?_
    rintro _ W11 ⟨rfl, hE12⟩
    exact ⟨told rfl rfl rfl, hE12⟩
  · intro W5 hW6
    rintro _ rfl
    rintro _ rfl
    refine gather_nil ?_
    refine opg_none rfl ?_
    exact op_neq rfl rfl rfl ⟨told rfl rfl rfl, (Below.refl _ _)⟩
  · intro W5 hW6
    rintro _ rfl
    refine gather_nil ?_
    refine opg_none rfl ?_
    exact op_assign rfl rfl ⟨told rfl rfl rfl, (Below.refl _ _)⟩
  intro W13 hW14
  rintro _ rfl
  refine gather_nil ?_
  refine (then_norm ?_)
  refine wc_ret ?_
  have hB15 : Below w.heap.size w W13 := (below_step (below_new (Below.refl _ _) hN3) hW14)
  refine ⟨[_], ⟨rfl, trivial⟩, ⟨?_, hB15⟩⟩
  exact rfl

theorem Calls1_spec {w : World} {a b : Int} : Ret Tryz.prog 54 #[.agg #[.int .i64 a, .int .i64 b]] w (fun v w' => v = .bool (keepCalls ⟨a, b⟩) ∧ Below w.heap.size w w') := by
  refine ret_of (args := [.agg #[.int .i64 a, .int .i64 b]]) Tryz.func54 rfl Tryz.ntmps54 rfl (rs := [.tmp 2]) rfl ?_
  refine wc_seq ?_
  refine wc_region ?_
  refine wl_op rfl (op_box rfl rfl ?_)
  intro W1 b2 hN3
  have hb4 : W1.heap[b2]? = some (.cells #[.int .i64 a, .int .i64 b] 37 (0, 0)) := hN3.blk
  refine wl_op rfl (op_assign rfl rfl ?_)
  refine (wl_done (then_norm ?_))
  refine wc_seq ?_
  refine wc_region ?_
  refine wl_op rfl (op_fieldAddr rfl fa46_0 rfl ?_)
  refine wl_op rfl (op_load1 (v := .int .i64 a) rfl agg3 (cell_blk hb4 rfl) rfl ?_)
  refine wl_op rfl (op_geq rfl rfl rfl ?_)
  refine wl_op rfl (op_assign rfl rfl ?_)
  refine (wl_done (then_norm ?_))
  refine wc_ret ?_
  have hB5 : Below w.heap.size w W1 := (below_new (Below.refl _ _) hN3)
  refine ⟨[_], ⟨rfl, trivial⟩, ⟨?_, hB5⟩⟩
  exact rfl

theorem Plain_spec {w : World} {A : Option Addr} {n c : Nat} {s : List Pol} (hs : RdP w A n s) (hn : n ≤ 1000) : Ret Tryz.prog 35 #[.slice A n c] w (fun v w' => ∃ (A1 : Option Addr) (n1 c1 : Nat), v = .tuple #[.slice A1 n1 c1, .int .i64 (chosenE s)] ∧ RdP w' A1 n1 (chosenL s keepPlain) ∧ Below w.heap.size w w') := by
  obtain ⟨bs1, os2, hA3, hc4⟩ := hs.flat
  have hln5 := hs.len
  have hbd6 := hs.bd
  have hlen_s := hs.len
  refine ret_of (args := [.slice A n c]) Tryz.func35 rfl Tryz.ntmps35 rfl (rs := [.tmp 2, .tmp 3]) rfl ?_
  refine wc_seq ?_
  refine wc_region ?_
  refine wl_op rfl (op_assign rfl rfl ?_)
  refine wl_op rfl (op_assign rfl rfl ?_)
  refine (wl_done (then_norm ?_))
  refine wc_seq ?_
  refine wc_region ?_
  refine wl_op rfl (op_move rfl rfl ?_)
  refine wl_op rfl (op_call ent57 rfl (chosen_spec hs hn ent58 (fun W a b hv hm hW => Plain1_spec (valid_kind (mem_valid hv hm)).1 (valid_kind (mem_valid hv hm)).2) (keep := keepPlain)) rfl ?_)
  rintro _ W11 ⟨A17, n18, c19, rfl, hp10, hE12⟩
  refine wl_op rfl (op_extract (v := .slice A17 n18 c19) rfl rfl rfl ?_)
  refine wl_op rfl (op_extract (v := .int .i64 (chosenE s)) rfl rfl rfl ?_)
  refine wl_op rfl (op_assign rfl rfl ?_)
  refine wl_op rfl (op_assign rfl rfl ?_)
  refine (wl_done (then_norm ?_))
  refine wc_ret ?_
  have hB13 : Below w.heap.size w W11 := (below_step (Below.refl _ _) hE12)
  refine ⟨[_, _], ⟨rfl, rfl, trivial⟩, ⟨A17, n18, c19, ?_, hp10, hB13⟩⟩
  exact rfl

theorem Calls_spec {w : World} {A : Option Addr} {n c : Nat} {s : List Pol} (hs : RdP w A n s) (hn : n ≤ 1000) : Ret Tryz.prog 29 #[.slice A n c] w (fun v w' => ∃ (A1 : Option Addr) (n1 c1 : Nat), v = .tuple #[.slice A1 n1 c1, .int .i64 (chosenE s)] ∧ RdP w' A1 n1 (chosenL s keepCalls) ∧ Below w.heap.size w w') := by
  obtain ⟨bs1, os2, hA3, hc4⟩ := hs.flat
  have hln5 := hs.len
  have hbd6 := hs.bd
  have hlen_s := hs.len
  refine ret_of (args := [.slice A n c]) Tryz.func29 rfl Tryz.ntmps29 rfl (rs := [.tmp 2, .tmp 3]) rfl ?_
  refine wc_seq ?_
  refine wc_region ?_
  refine wl_op rfl (op_assign rfl rfl ?_)
  refine wl_op rfl (op_assign rfl rfl ?_)
  refine (wl_done (then_norm ?_))
  refine wc_seq ?_
  refine wc_region ?_
  refine wl_op rfl (op_move rfl rfl ?_)
  refine wl_op rfl (op_call ent57 rfl (chosen_spec hs hn ent69 (fun W a b hv hm hW => Calls1_spec) (keep := keepCalls)) rfl ?_)
  rintro _ W11 ⟨A17, n18, c19, rfl, hp10, hE12⟩
  refine wl_op rfl (op_extract (v := .slice A17 n18 c19) rfl rfl rfl ?_)
  refine wl_op rfl (op_extract (v := .int .i64 (chosenE s)) rfl rfl rfl ?_)
  refine wl_op rfl (op_assign rfl rfl ?_)
  refine wl_op rfl (op_assign rfl rfl ?_)
  refine (wl_done (then_norm ?_))
  refine wc_ret ?_
  have hB13 : Below w.heap.size w W11 := (below_step (Below.refl _ _) hE12)
  refine ⟨[_, _], ⟨rfl, rfl, trivial⟩, ⟨A17, n18, c19, ?_, hp10, hB13⟩⟩
  exact rfl

end Go.Eng



set_option linter.unusedVariables false
set_option maxRecDepth 100000
namespace Go.Eng
open Go.RowKit Go.Shelf Go.Proofs Pol

theorem ent70 : Enters Tryz.prog 47 := enters_of Tryz.func47 (by kernel_rfl) rfl
theorem ent80 : Enters Tryz.prog 72 := enters_of Tryz.func72 (by kernel_rfl) rfl
theorem ent71 : Enters Tryz.prog 48 := enters_of Tryz.func48 (by kernel_rfl) rfl
theorem ent72 : Enters Tryz.prog 49 := enters_of Tryz.func49 (by kernel_rfl) rfl

theorem both1_spec {w : World} {p q x y : Int} {b1 b2 : Nat} (hb1 : w.heap[b1]? = some (.cells #[.int .i64 x] 3 (0, 0))) (hb2 : w.heap[b2]? = some (.cells #[.int .i64 y] 3 (0, 0))) : Ret Tryz.prog 72 #[.int .i64 p, .int .i64 q, .pointer (some ⟨b1, 0, none⟩), .pointer (some ⟨b2, 0, none⟩)] w (fun v w' => v = .bool ((decide (p = x)) && (decide (q = y))) ∧ Below w.heap.size w w') := by
  refine ret_of (args := [.int .i64 p, .int .i64 q, .pointer (some ⟨b1, 0, none⟩), .pointer (some ⟨b2, 0, none⟩)]) Tryz.func72 rfl Tryz.ntmps72 rfl (rs := [.tmp 6]) rfl ?_
  refine wc_seq ?_
  refine wc_region ?_
  refine wl_op rfl (op_assign rfl rfl ?_)
  refine (wl_done (then_norm ?_))
  refine wc_seq ?_
  refine wc_text [(0, .int .i64 p), (1, .int .i64 q), (2, .pointer (some ⟨b1, 0, none⟩)), (3, .pointer (some ⟨b2, 0, none⟩))] ⟨rfl, rfl, rfl, rfl, trivial⟩ [fun v _ => v = .int .i64 p, fun v _ => v = .int .i64 x, fun v _ => v = .bool (decide (p = x)), fun v _ => v = .bool (decide (p = x)), fun v _ => v = (bif (decide (p = x)) then (.int .i64 q) else undef), fun v _ => v = (bif (decide (p = x)) then (.int .i64 y) else undef), fun v _ => v = (bif (decide (p = x)) then (.bool (decide (q = y))) else undef), fun v _ => v = .bool ((decide (p = x)) && (decide (q = y))), fun v _ => v = .bool ((decide (p = x)) && (decide (q = y)))] [[], [], [0, 1], [2], [3], [3], [3, 4, 5], [3, 6], [7]] [8] rfl rfl rfl ⟨fun _ _ _ _ h => h, fun _ _ _ _ h => h, fun _ _ _ _ h => h, fun _ _ _ _ h => h, fun _ _ _ _ h => h, fun _ _ _ _ h => h, fun _ _ _ _ h => h, fun _ _ _ _ h => h, fun _ _ _ _ h => h, trivial⟩ ⟨?_, ?_, ?_, ?_, ?_, ?_, ?_, ?_, ?_, trivial⟩ ?_
  · intro W1 hW2
    refine gather_nil ?_
    refine opg_none rfl ?_
    exact op_move rfl rfl ⟨told rfl rfl rfl, (Below.refl _ _)⟩
  · intro W1 hW2
    refine gather_nil ?_
    refine opg_none rfl ?_
    have hb5 : W1.heap[b1]? = some (.cells #[.int .i64 x] 3 (0, 0)) := (blk_ext hb1 hW2)
    exact op_load1 (v := .int .i64 x) rfl agg3 (cell_blk hb5 rfl) rfl ⟨told rfl rfl rfl, (Below.refl _ _)⟩
  · intro W1 hW2
    rintro _ rfl
    rintro _ rfl
    refine gather_nil ?_
    refine opg_none rfl ?_
    exact op_eql rfl rfl rfl ⟨told rfl rfl rfl, (Below.refl _ _)⟩
  · intro W1 hW2
    rintro _ rfl
    refine gather_nil ?_
    refine opg_none rfl ?_
    exact op_move rfl rfl ⟨told rfl rfl rfl, (Below.refl _ _)⟩
  · intro W1 hW2
    rintro _ rfl
    refine gather_nil ?_
    refine opg_t1 rfl rfl (fun hg6 => ?_) (fun h => by rw [h, cond_false])
    exact op_move rfl rfl ⟨told rfl rfl (by rw [hg6, cond_true]), (Below.refl _ _)⟩
  · intro W1 hW2
    rintro _ rfl
    refine gather_nil ?_
    refine opg_t1 rfl rfl (fun hg7 => ?_) (fun h => by rw [h, cond_false])
    have hd8 := of_decide_eq_true hg7
    have hb9 : W1.heap[b2]? = some (.cells #[.int .i64 y] 3 (0, 0)) := (blk_ext hb2 hW2)
    exact op_load1 (v := .int .i64 y) rfl agg3 (cell_blk hb9 rfl) rfl ⟨told rfl rfl (by rw [hg7, cond_true]), (Below.refl _ _)⟩
  · intro W1 hW2
    rintro _ rfl
    intro v10 (hv11 : v10 = bif (decide (p = x)) then (.int .i64 q) else undef)
    intro v12 (hv13 : v12 = bif (decide (p = x)) then (.int .i64 y) else undef)
    refine gather_nil ?_
    refine opg_t1 rfl rfl (fun hg14 => ?_) (fun h => by rw [h, cond_false])
    have hd15 := of_decide_eq_true hg14
    obtain rfl : v10 = .int .i64 q := by rw [hv11, hg14, cond_true]
    obtain rfl : v12 = .int .i64 y := by rw [hv13, hg14, cond_true]
    exact op_eql rfl rfl rfl ⟨told rfl rfl (by rw [hg14, cond_true]), (Below.refl _ _)⟩
  · intro W1 hW2
    rintro _ rfl
    intro v16 (hv17 : v16 = bif (decide (p = x)) then (.bool (decide (q = y))) else undef)
    refine gather_nil ?_
    refine opg_none rfl ?_
    exact op_and rfl rfl rfl (fun h => by rw [hv17, h, cond_true]) rfl ⟨told rfl rfl rfl, (Below.refl _ _)⟩
  · intro W1 hW2
    rintro _ rfl
    refine gather_nil ?_
    refine opg_none rfl ?_
    exact op_assign rfl rfl ⟨told rfl rfl rfl, (Below.refl _ _)⟩
  intro W18 hW19
  rintro _ rfl
  refine gather_nil ?_
  refine (then_norm ?_)
  refine wc_ret ?_
  have hB20 : Below w.heap.size w W18 := (below_step (Below.refl _ _) hW19)
  refine ⟨[_], ⟨rfl, trivial⟩, ⟨?_, hB20⟩⟩
  exact rfl

theorem both_spec {w : World} {x y : Int} : Ret Tryz.prog 47 #[.int .i64 x, .int .i64 y] w (fun v w' => ∃ (b1 b2 : Nat), v = .func (.func 72) #[] #[.pointer (some ⟨b1, 0, none⟩), .pointer (some ⟨b2, 0, none⟩)] ∧ w'.heap[b1]? = some (.cells #[.int .i64 x] 3 (0, 0)) ∧ w'.heap[b2]? = some (.cells #[.int .i64 y] 3 (0, 0)) ∧ Below w.heap.size w w') := by
  refine ret_of (args := [.int .i64 x, .int .i64 y]) Tryz.func47 rfl Tryz.ntmps47 rfl (rs := [.tmp 4]) rfl ?_
  refine wc_seq ?_
  refine wc_region ?_
  refine wl_op rfl (op_box rfl rfl ?_)
  intro W1 b2 hN3
  have hb4 : W1.heap[b2]? = some (.cells #[.int .i64 x] 3 (0, 0)) := hN3.blk
  refine wl_op rfl (op_box rfl rfl ?_)
  intro W5 b6 hN7
  have hb8 : W5.heap[b6]? = some (.cells #[.int .i64 y] 3 (0, 0)) := hN7.blk
  refine wl_op rfl (op_assign rfl rfl ?_)
  refine (wl_done (then_norm ?_))
  refine wc_seq ?_
  refine wc_region ?_
  refine wl_op rfl (op_makeFunc rfl rfl rfl ?_)
  refine wl_op rfl (op_assign rfl rfl ?_)
  refine (wl_done (then_norm ?_))
  refine wc_ret ?_
  have hB9 : Below w.heap.size w W5 := (below_new (below_new (Below.refl _ _) hN3) hN7)
  have hb10 : W5.heap[b2]? = some (.cells #[.int .i64 x] 3 (0, 0)) := (blk_ext hb4 hN7.ext)
  refine ⟨[_], ⟨rfl, trivial⟩, ⟨b2, b6, ?_, hb10, hb8, hB9⟩⟩
  exact rfl

theorem clashes1_spec {w : World} {p q : Int} : Ret Tryz.prog 48 #[.int .i64 p, .int .i64 q] w (fun v w' => v = .bool ((decide (p = 3)) && (decide (1 < q))) ∧ Below w.heap.size w w') := by
  refine ret_of (args := [.int .i64 p, .int .i64 q]) Tryz.func48 rfl Tryz.ntmps48 rfl (rs := [.tmp 4]) rfl ?_
  refine wc_seq ?_
  refine wc_region ?_
  refine wl_op rfl (op_assign rfl rfl ?_)
  refine (wl_done (then_norm ?_))
  refine wc_seq ?_
  refine wc_text [(0, .int .i64 p), (1, .int .i64 q)] ⟨rfl, rfl, trivial⟩ [fun v _ => v = .int .i64 p, fun v _ => v = .bool (decide (p = 3)), fun v _ => v = .bool (decide (p = 3)), fun v _ => v = (bif (decide (p = 3)) then (.int .i64 q) else undef), fun v _ => v = (bif (decide (p = 3)) then (.bool (decide (1 < q))) else undef), fun v _ => v = .bool ((decide (p = 3)) && (decide (1 < q))), fun v _ => v = .bool ((decide (p = 3)) && (decide (1 < q)))] [[], [0], [1], [2], [2, 3], [2, 4], [5]] [6] rfl rfl rfl ⟨fun _ _ _ _ h => h, fun _ _ _ _ h => h, fun _ _ _ _ h => h, fun _ _ _ _ h => h, fun _ _ _ _ h => h, fun _ _ _ _ h => h, fun _ _ _ _ h => h, trivial⟩ ⟨?_, ?_, ?_, ?_, ?_, ?_, ?_, trivial⟩ ?_
  · intro W1 hW2
    refine gather_nil ?_
    refine opg_none rfl ?_
    exact op_move rfl rfl ⟨told rfl rfl rfl, (Below.refl _ _)⟩
  · intro W1 hW2
    rintro _ rfl
    refine gather_nil ?_
    refine opg_none rfl ?_
    exact op_eql rfl rfl rfl ⟨told rfl rfl rfl, (Below.refl _ _)⟩
  · intro W1 hW2
    rintro _ rfl
    refine gather_nil ?_
    refine opg_none rfl ?_
    exact op_move rfl rfl ⟨told rfl rfl rfl, (Below.refl _ _)⟩
  · intro W1 hW2
    rintro _ rfl
    refine gather_nil ?_
    refine opg_t1 rfl rfl (fun hg3 => ?_) (fun h => by rw [h, cond_false])
    exact op_move rfl rfl ⟨told rfl rfl (by rw [hg3, cond_true]), (Below.refl _ _)⟩
  · intro W1 hW2
    rintro _ rfl
    intro v4 (hv5 : v4 = bif (decide (p = 3)) then (.int .i64 q) else undef)
    refine gather_nil ?_
    refine opg_t1 rfl rfl (fun hg6 => ?_) (fun h => by rw [h, cond_false])
    have hd7 := of_decide_eq_true hg6
    obtain rfl : v4 = .int .i64 q := by rw [hv5, hg6, cond_true]
    exact op_gtr rfl rfl rfl ⟨told rfl rfl (by rw [hg6, cond_true]), (Below.refl _ _)⟩
  · intro W1 hW2
    rintro _ rfl
    intro v8 (hv9 : v8 = bif (decide (p = 3)) then (.bool (decide (1 < q))) else undef)
    refine gather_nil ?_
    refine opg_none rfl ?_
    exact op_and rfl rfl rfl (fun h => by rw [hv9, h, cond_true]) rfl ⟨told rfl rfl rfl, (Below.refl _ _)⟩
  · intro W1 hW2
    rintro _ rfl
    refine gather_nil ?_
    refine opg_none rfl ?_
    exact op_assign rfl rfl ⟨told rfl rfl rfl, (Below.refl _ _)⟩
  intro W10 hW11
  rintro _ rfl
  refine gather_nil ?_
  refine (then_norm ?_)
  refine wc_ret ?_
  have hB12 : Below w.heap.size w W10 := (below_step (Below.refl _ _) hW11)
  refine ⟨[_], ⟨rfl, trivial⟩, ⟨?_, hB12⟩⟩
  exact rfl

theorem clashes2_spec {w : World} {p q : Int} : Ret Tryz.prog 49 #[.int .i64 p, .int .i64 q] w (fun v w' => v = .bool ((decide (p < 3)) && (decide (q = 3))) ∧ Below w.heap.size w w') := by
  refine ret_of (args := [.int .i64 p, .int .i64 q]) Tryz.func49 rfl Tryz.ntmps49 rfl (rs := [.tmp 4]) rfl ?_
  refine wc_seq ?_
  refine wc_region ?_
  refine wl_op rfl (op_assign rfl rfl ?_)
  refine (wl_done (then_norm ?_))
  refine wc_seq ?_
  refine wc_text [(0, .int .i64 p), (1, .int .i64 q)] ⟨rfl, rfl, trivial⟩ [fun v _ => v = .int .i64 p, fun v _ => v = .bool (decide (p < 3)), fun v _ => v = .bool (decide (p < 3)), fun v _ => v = (bif (decide (p < 3)) then (.int .i64 q) else undef), fun v _ => v = (bif (decide (p < 3)) then (.bool (decide (q = 3))) else undef), fun v _ => v = .bool ((decide (p < 3)) && (decide (q = 3))), fun v _ => v = .bool ((decide (p < 3)) && (decide (q = 3)))] [[], [0], [1], [2], [2, 3], [2, 4], [5]] [6] rfl rfl rfl ⟨fun _ _ _ _ h => h, fun _ _ _ _ h => h, fun _ _ _ _ h => h, fun _ _ _ _ h => h, fun _ _ _ _ h => h, fun _ _ _ _ h => h, fun _ _ _ _ h => h, trivial⟩ ⟨?_, ?_, ?_, ?_, ?_, ?_, ?_, trivial⟩ ?_
  · intro W1 hW2
    refine gather_nil ?_
    refine opg_none rfl ?_
    exact op_move rfl rfl ⟨told rfl rfl rfl, (Below.refl _ _)⟩
  · intro W1 hW2
    rintro _ rfl
    refine gather_nil ?_
    refine opg_none rfl ?_
    exact op_lss rfl rfl rfl ⟨told rfl rfl rfl, (Below.refl _ _)⟩
  · intro W1 hW2
    rintro _ rfl
    refine gather_nil ?_
    refine opg_none rfl ?_
    exact op_move rfl rfl ⟨told rfl rfl rfl, (Below.refl _ _)⟩
  · intro W1 hW2
    rintro _ rfl
    refine gather_nil ?_
    refine opg_t1 rfl rfl (fun hg3 => ?_) (fun h => by rw [h, cond_false])
    exact op_move rfl rfl ⟨told rfl rfl (by rw [hg3, cond_true]), (Below.refl _ _)⟩
  · intro W1 hW2
    rintro _ rfl
    intro v4 (hv5 : v4 = bif (decide (p < 3)) then (.int .i64 q) else undef)
    refine gather_nil ?_
    refine opg_t1 rfl rfl (fun hg6 => ?_) (fun h => by rw [h, cond_false])
    have hd7 := of_decide_eq_true hg6
    obtain rfl : v4 = .int .i64 q := by rw [hv5, hg6, cond_true]
    exact op_eql rfl rfl rfl ⟨told rfl rfl (by rw [hg6, cond_true]), (Below.refl _ _)⟩
  · intro W1 hW2
    rintro _ rfl
    intro v8 (hv9 : v8 = bif (decide (p < 3)) then (.bool (decide (q = 3))) else undef)
    refine gather_nil ?_
    refine opg_none rfl ?_
    exact op_and rfl rfl rfl (fun h => by rw [hv9, h, cond_true]) rfl ⟨told rfl rfl rfl, (Below.refl _ _)⟩
  · intro W1 hW2
    rintro _ rfl
    refine gather_nil ?_
    refine opg_none rfl ?_
    exact op_assign rfl rfl ⟨told rfl rfl rfl, (Below.refl _ _)⟩
  intro W10 hW11
  rintro _ rfl
  refine gather_nil ?_
  refine (then_norm ?_)
  refine wc_ret ?_
  have hB12 : Below w.heap.size w W10 := (below_step (Below.refl _ _) hW11)
  refine ⟨[_], ⟨rfl, trivial⟩, ⟨?_, hB12⟩⟩
  exact rfl

structure ClashRow where
  a : Int
  b : Int
  bad : Int → Int → Bool
def bothB (x y : Int) : Int → Int → Bool := fun p q => (decide (p = x)) && (decide (q = y))
def clashRows : List ClashRow := [⟨3, 6, bothB 1 2⟩, ⟨4, 7, bothB 2 2⟩, ⟨5, 6, bothB 2 1⟩, ⟨5, 7, bothB 2 2⟩, ⟨8, 11, fun p q => (decide (p = 3)) && (decide (1 < q))⟩, ⟨9, 11, fun p q => (decide (p < 3)) && (decide (q = 3))⟩, ⟨10, 13, bothB 0 4⟩]
def IsBad (w : World) (g : Nat) (caps : Array Value) (bad : Int → Int → Bool) : Prop :=
  Enters Tryz.prog g ∧ ∀ W, Below w.heap.size w W → ∀ p q : Int, Ret Tryz.prog g (#[.int .i64 p, .int .i64 q] ++ caps) W (fun v W' => v = .bool (bad p q) ∧ Below W.heap.size W W')
def RClash (w : World) (cs : List Value) (x : ClashRow) : Prop := ∃ g caps, cs = [.int .i64 x.a, .int .i64 x.b, .func (.func g) #[] caps] ∧ IsBad w g caps x.bad
theorem bad_both {w : World} {x y : Int} {b1 b2 : Nat} (h1 : w.heap[b1]? = some (.cells #[.int .i64 x] 3 (0, 0))) (h2 : w.heap[b2]? = some (.cells #[.int .i64 y] 3 (0, 0))) (he : Enters Tryz.prog 72) :
    IsBad w 72 #[.pointer (some ⟨b1, 0, none⟩), .pointer (some ⟨b2, 0, none⟩)] (bothB x y) :=
  ⟨he, fun W hW p q => both1_spec (blk_ext h1 hW) (blk_ext h2 hW)⟩
abbrev RdC (w : World) (A : Option Addr) (n : Nat) (xs : List ClashRow) : Prop := Rd RClash 3 w A n xs

theorem clashes_spec {w : World} : Ret Tryz.prog 27 #[] w (fun v w' => ∃ (A1 : Option Addr) (n1 c1 : Nat), v = .slice A1 n1 c1 ∧ RdC w' A1 n1 clashRows ∧ Below w.heap.size w w') := by
  refine ret_of (args := []) Tryz.func27 rfl Tryz.ntmps27 rfl (rs := [.tmp 0]) rfl ?_
  refine wc_seq ?_
  refine wc_region ?_
  refine wl_op rfl (op_assign rfl rfl ?_)
  refine (wl_done (then_norm ?_))
  refine wc_seq ?_
  refine wc_region ?_
  refine wl_op rfl (op_call ent70 rfl (both_spec) rfl ?_)
  rintro _ W5 ⟨b11, b22, rfl, hp3, hp4, hE6⟩
  refine wl_op rfl (op_build (v := .agg #[.int .i64 3, .int .i64 6, .func (.func 72) #[] #[.pointer (some ⟨b11, 0, none⟩), .pointer (some ⟨b22, 0, none⟩)]]) rfl (fun w => by kernel_rfl) rfl ?_)
  refine wl_op rfl (op_call ent70 rfl (both_spec) rfl ?_)
  rintro _ W11 ⟨b17, b28, rfl, hp9, hp10, hE12⟩
  refine wl_op rfl (op_build (v := .agg #[.int .i64 4, .int .i64 7, .func (.func 72) #[] #[.pointer (some ⟨b17, 0, none⟩), .pointer (some ⟨b28, 0, none⟩)]]) rfl (fun w => by kernel_rfl) rfl ?_)
  refine wl_op rfl (op_call ent70 rfl (both_spec) rfl ?_)
  rintro _ W17 ⟨b113, b214, rfl, hp15, hp16, hE18⟩
  refine wl_op rfl (op_build (v := .agg #[.int .i64 5, .int .i64 6, .func (.func 72) #[] #[.pointer (some ⟨b113, 0, none⟩), .pointer (some ⟨b214, 0, none⟩)]]) rfl (fun w => by kernel_rfl) rfl ?_)
  refine wl_op rfl (op_call ent70 rfl (both_spec) rfl ?_)
  rintro _ W23 ⟨b119, b220, rfl, hp21, hp22, hE24⟩
  refine wl_op rfl (op_build (v := .agg #[.int .i64 5, .int .i64 7, .func (.func 72) #[] #[.pointer (some ⟨b119, 0, none⟩), .pointer (some ⟨b220, 0, none⟩)]]) rfl (fun w => by kernel_rfl) rfl ?_)
  refine wl_op rfl (op_build (v := .agg #[.int .i64 8, .int .i64 11, .func (.func 48) #[] #[]]) rfl (fun w => by kernel_rfl) rfl ?_)
  refine wl_op rfl (op_build (v := .agg #[.int .i64 9, .int .i64 11, .func (.func 49) #[] #[]]) rfl (fun w => by kernel_rfl) rfl ?_)
  refine wl_op rfl (op_call ent70 rfl (both_spec) rfl ?_)
  rintro _ W29 ⟨b125, b226, rfl, hp27, hp28, hE30⟩
  refine wl_op rfl (op_build (v := .agg #[.int .i64 10, .int .i64 13, .func (.func 72) #[] #[.pointer (some ⟨b125, 0, none⟩), .pointer (some ⟨b226, 0, none⟩)]]) rfl (fun w => by kernel_rfl) rfl ?_)
  refine wl_op rfl (op_buildSlice (cs := #[.int .i64 3, .int .i64 6, .func (.func 72) #[] #[.pointer (some ⟨b11, 0, none⟩), .pointer (some ⟨b22, 0, none⟩)], .int .i64 4, .int .i64 7, .func (.func 72) #[] #[.pointer (some ⟨b17, 0, none⟩), .pointer (some ⟨b28, 0, none⟩)], .int .i64 5, .int .i64 6, .func (.func 72) #[] #[.pointer (some ⟨b113, 0, none⟩), .pointer (some ⟨b214, 0, none⟩)], .int .i64 5, .int .i64 7, .func (.func 72) #[] #[.pointer (some ⟨b119, 0, none⟩), .pointer (some ⟨b220, 0, none⟩)], .int .i64 8, .int .i64 11, .func (.func 48) #[] #[], .int .i64 9, .int .i64 11, .func (.func 49) #[] #[], .int .i64 10, .int .i64 13, .func (.func 72) #[] #[.pointer (some ⟨b125, 0, none⟩), .pointer (some ⟨b226, 0, none⟩)]]) (e := 68) rfl (fun w => by kernel_rfl) rfl ?_)
  intro W31 b32 hN33
  have hb34 : W31.heap[b32]? = some (.cells #[.int .i64 3, .int .i64 6, .func (.func 72) #[] #[.pointer (some ⟨b11, 0, none⟩), .pointer (some ⟨b22, 0, none⟩)], .int .i64 4, .int .i64 7, .func (.func 72) #[] #[.pointer (some ⟨b17, 0, none⟩), .pointer (some ⟨b28, 0, none⟩)], .int .i64 5, .int .i64 6, .func (.func 72) #[] #[.pointer (some ⟨b113, 0, none⟩), .pointer (some ⟨b214, 0, none⟩)], .int .i64 5, .int .i64 7, .func (.func 72) #[] #[.pointer (some ⟨b119, 0, none⟩), .pointer (some ⟨b220, 0, none⟩)], .int .i64 8, .int .i64 11, .func (.func 48) #[] #[], .int .i64 9, .int .i64 11, .func (.func 49) #[] #[], .int .i64 10, .int .i64 13, .func (.func 72) #[] #[.pointer (some ⟨b125, 0, none⟩), .pointer (some ⟨b226, 0, none⟩)]] 68 (0, 0)) := hN33.blk
  refine wl_op rfl (op_assign rfl rfl ?_)
  refine (wl_done (then_norm ?_))
  refine WC.sub [(0, .slice (some ⟨b32, 0, none⟩) 7 7)] ⟨rfl, trivial⟩ ?_
  refine wc_ret ?_
  have hB35 : Below w.heap.size w W31 := (below_new (below_step (below_step (below_step (below_step (below_step (Below.refl _ _) hE6) hE12) hE18) hE24) hE30) hN33)
  have hb36 : W31.heap[b11]? = some (.cells #[.int .i64 1] 3 (0, 0)) := (blk_ext (blk_ext (blk_ext (blk_ext (blk_ext hp3 hE12) hE18) hE24) hE30) hN33.ext)
  have hb37 : W31.heap[b22]? = some (.cells #[.int .i64 2] 3 (0, 0)) := (blk_ext (blk_ext (blk_ext (blk_ext (blk_ext hp4 hE12) hE18) hE24) hE30) hN33.ext)
  have hb38 : W31.heap[b17]? = some (.cells #[.int .i64 2] 3 (0, 0)) := (blk_ext (blk_ext (blk_ext (blk_ext hp9 hE18) hE24) hE30) hN33.ext)
  have hb39 : W31.heap[b28]? = some (.cells #[.int .i64 2] 3 (0, 0)) := (blk_ext (blk_ext (blk_ext (blk_ext hp10 hE18) hE24) hE30) hN33.ext)
  have hb40 : W31.heap[b113]? = some (.cells #[.int .i64 2] 3 (0, 0)) := (blk_ext (blk_ext (blk_ext hp15 hE24) hE30) hN33.ext)
  have hb41 : W31.heap[b214]? = some (.cells #[.int .i64 1] 3 (0, 0)) := (blk_ext (blk_ext (blk_ext hp16 hE24) hE30) hN33.ext)
  have hb42 : W31.heap[b119]? = some (.cells #[.int .i64 2] 3 (0, 0)) := (blk_ext (blk_ext hp21 hE30) hN33.ext)
  have hb43 : W31.heap[b220]? = some (.cells #[.int .i64 2] 3 (0, 0)) := (blk_ext (blk_ext hp22 hE30) hN33.ext)
  have hb44 : W31.heap[b125]? = some (.cells #[.int .i64 0] 3 (0, 0)) := (blk_ext hp27 hN33.ext)
  have hb45 : W31.heap[b226]? = some (.cells #[.int .i64 4] 3 (0, 0)) := (blk_ext hp28 hN33.ext)
  have hrows : RowsAt RClash 3 W31 b32 0 clashRows := ⟨⟨[.int .i64 3, .int .i64 6, .func (.func 72) #[] #[.pointer (some ⟨b11, 0, none⟩), .pointer (some ⟨b22, 0, none⟩)]], rfl, ⟨72, #[.pointer (some ⟨b11, 0, none⟩), .pointer (some ⟨b22, 0, none⟩)], rfl, (bad_both hb36 hb37 ent80)⟩, cells_sub (cells_blk hb34) 0 _ rfl⟩, ⟨[.int .i64 4, .int .i64 7, .func (.func 72) #[] #[.pointer (some ⟨b17, 0, none⟩), .pointer (some ⟨b28, 0, none⟩)]], rfl, ⟨72, #[.pointer (some ⟨b17, 0, none⟩), .pointer (some ⟨b28, 0, none⟩)], rfl, (bad_both hb38 hb39 ent80)⟩, cells_sub (cells_blk hb34) 3 _ rfl⟩, ⟨[.int .i64 5, .int .i64 6, .func (.func 72) #[] #[.pointer (some ⟨b113, 0, none⟩), .pointer (some ⟨b214, 0, none⟩)]], rfl, ⟨72, #[.pointer (some ⟨b113, 0, none⟩), .pointer (some ⟨b214, 0, none⟩)], rfl, (bad_both hb40 hb41 ent80)⟩, cells_sub (cells_blk hb34) 6 _ rfl⟩, ⟨[.int .i64 5, .int .i64 7, .func (.func 72) #[] #[.pointer (some ⟨b119, 0, none⟩), .pointer (some ⟨b220, 0, none⟩)]], rfl, ⟨72, #[.pointer (some ⟨b119, 0, none⟩), .pointer (some ⟨b220, 0, none⟩)], rfl, (bad_both hb42 hb43 ent80)⟩, cells_sub (cells_blk hb34) 9 _ rfl⟩, ⟨[.int .i64 8, .int .i64 11, .func (.func 48) #[] #[]], rfl, ⟨48, #[], rfl, ⟨ent71, fun W hW p q => clashes1_spec⟩⟩, cells_sub (cells_blk hb34) 12 _ rfl⟩, ⟨[.int .i64 9, .int .i64 11, .func (.func 49) #[] #[]], rfl, ⟨49, #[], rfl, ⟨ent72, fun W hW p q => clashes2_spec⟩⟩, cells_sub (cells_blk hb34) 15 _ rfl⟩, ⟨[.int .i64 10, .int .i64 13, .func (.func 72) #[] #[.pointer (some ⟨b125, 0, none⟩), .pointer (some ⟨b226, 0, none⟩)]], rfl, ⟨72, #[.pointer (some ⟨b125, 0, none⟩), .pointer (some ⟨b226, 0, none⟩)], rfl, (bad_both hb44 hb45 ent80)⟩, cells_sub (cells_blk hb34) 18 _ rfl⟩, trivial⟩
  refine ⟨[_], ⟨rfl, trivial⟩, ⟨some ⟨b32, 0, none⟩, 7, 7, ?_, (rd_of_rows hrows rfl rfl), hB35⟩⟩
  exact rfl

end Go.Eng



set_option linter.unusedVariables false
set_option maxRecDepth 100000
namespace Go.Eng
open Go.RowKit Go.Shelf Go.Proofs Pol

theorem ent39 : Enters Tryz.prog 27 := enters_of Tryz.func27 (by kernel_rfl) rfl
theorem und53 : Und Tryz.prog 64 (.slice 68) := by unfold Und; kernel_rfl
theorem sz57 : Sz Tryz.prog 68 3 := fun w => by kernel_rfl
theorem agg57 : AggT Tryz.prog 68 true := fun w => by kernel_rfl
theorem zero57 : Zero Tryz.prog 68 (.agg #[.int .i64 0, .int .i64 0, .nilFunc]) := fun w => by kernel_rfl
theorem fa57_2 : FieldAt Tryz.prog 68 2 2 := fun b o w => by kernel_rfl
theorem agg55 : AggT Tryz.prog 66 false := fun w => by kernel_rfl
theorem fa57_0 : FieldAt Tryz.prog 68 0 0 := fun b o w => by kernel_rfl
theorem ent40 : Enters Tryz.prog 28 := enters_of Tryz.func28 (by kernel_rfl) rfl
theorem fa57_1 : FieldAt Tryz.prog 68 1 1 := fun b o w => by kernel_rfl
theorem app25 : AppT Tryz.prog 33 40 2 16 := appT_of (z := .agg #[.int .i64 0, .int .i64 0]) (by kernel_rfl) (by kernel_rfl) rfl rfl

abbrev encQ (q : Int × Int) : List Value := [.int .i64 q.1, .int .i64 q.2]
abbrev RdQ (w : World) (A : Option Addr) (n : Nat) (xs : List (Int × Int)) : Prop := Rd (Flat encQ) 2 w A n xs
def badOf (s : List Pol) (r : ClashRow) : Bool := r.bad (valueOf s r.a) (valueOf s r.b)
def pairOf (r : ClashRow) : Int × Int := (r.a, r.b)
def clashList (s : List Pol) : List (Int × Int) := (clashRows.filter (badOf s)).map pairOf
def clashL (s : List Pol) : List (Int × Int) := if validSet s = true then clashList s else []
theorem clashRows_kinds {k : Nat} {x : ClashRow} (h : clashRows[k]? = some x) : (1 ≤ x.a ∧ x.a ≤ 13) ∧ (1 ≤ x.b ∧ x.b ≤ 13) := by
  have hm := List.mem_of_getElem? h
  simp only [clashRows, List.mem_cons, List.not_mem_nil, or_false] at hm
  rcases hm with rfl | rfl | rfl | rfl | rfl | rfl | rfl <;> exact ⟨⟨by decide, by decide⟩, ⟨by decide, by decide⟩⟩
theorem clash_le (s : List Pol) (k : Nat) : (((clashRows.take k).filter (badOf s)).map pairOf).length ≤ 7 := by
  rw [List.length_map]
  exact Nat.le_trans (List.length_filter_le _ _) (Nat.le_trans (List.length_take_le' _ _) (by decide))

theorem Clashes_spec {w : World} {A : Option Addr} {n c : Nat} {s : List Pol} (hs : RdP w A n s) : Ret Tryz.prog 12 #[.slice A n c] w (fun v w' => ∃ (A1 : Option Addr) (n1 c1 : Nat), v = .tuple #[.slice A1 n1 c1, .int .i64 (chosenE s)] ∧ RdQ w' A1 n1 (clashL s) ∧ Below w.heap.size w w') := by
  obtain ⟨bs1, os2, hA3, hc4⟩ := hs.flat
  have hln5 := hs.len
  have hbd6 := hs.bd
  have hlen_s := hs.len
  refine ret_of (args := [.slice A n c]) Tryz.func12 rfl Tryz.ntmps12 rfl (rs := [.tmp 2, .tmp 3]) rfl ?_
  refine wc_seq ?_
  refine wc_region ?_
  refine wl_op rfl (op_assign rfl rfl ?_)
  refine wl_op rfl (op_assign rfl rfl ?_)
  refine (wl_done (then_norm ?_))
  refine wc_seq ?_
  refine wc_seq ?_
  refine wc_region ?_
  refine wl_op rfl (op_move rfl rfl ?_)
  refine wl_op rfl (op_call ent27 rfl (ValidSet_spec hs) rfl ?_)
  rintro _ W7 ⟨rfl, hE8⟩
  refine wl_op rfl (op_not rfl rfl ?_)
  refine (wl_done (then_norm ?_))
  refine wc_cond (b := !(validSet s)) rfl (fun hc9 => ?_) (fun hc9 => ?_)
  · have hv : validSet s = false := by simpa using hc9
    refine wc_seq ?_
    refine wc_region ?_
    refine wl_op rfl (op_assign rfl rfl ?_)
    refine wl_op rfl (op_assign rfl rfl ?_)
    refine (wl_done (then_norm ?_))
    refine wc_ret ?_
    refine (then_ret ?_)
    have hB10 : Below w.heap.size w W7 := (below_step (Below.refl _ _) hE8)
    refine ⟨[_, _], ⟨rfl, rfl, trivial⟩, ⟨none, 0, 0, ?_, (by rw [clashL, if_neg (by rw [hv]; decide)]; exact rd_nil _ _ _), hB10⟩⟩
    rw [chosenE, if_neg (by rw [hv]; decide)]
    rfl
  · have hv : validSet s = true := by simpa using hc9
    have hasc := valid_asc hv
    refine wc_skip ?_
    refine (then_norm ?_)
    refine wc_seq ?_
    refine wc_region ?_
    refine wl_op rfl (op_assign rfl rfl ?_)
    refine (wl_done (then_norm ?_))
    refine wc_seq ?_
    refine wc_seq ?_
    refine wc_region ?_
    refine wl_op rfl (op_call ent39 rfl (clashes_spec) rfl ?_)
    rintro _ W15 ⟨A111, n112, c113, rfl, hp14, hE16⟩
    refine wl_op rfl (op_len_slice rfl rfl und53 rfl rfl ?_)
    refine wl_op rfl (op_move rfl rfl ?_)
    refine (wl_done (then_norm ?_))
    refine wc_block ?_
    refine wc_loop (σ := Nat × Value × World) (fun st_ => [(0, .slice A n c), (2, .slice none 0 0), (3, .int .i64 0), (4, st_.2.1), (10, .slice A111 n112 c113), (11, .int .i64 ((n112 : Nat) : Int)), (12, .int .i64 (st_.1 : Int))]) (fun st_ => st_.2.2) (fun st_ => (st_.1 ≤ n112) ∧ (Own encQ W15.heap.size 40 2 st_.2.2 st_.2.1 (((clashRows.take st_.1).filter (badOf s)).map pairOf)) ∧ (Below W15.heap.size W15 st_.2.2)) (fun st_ => n112 - st_.1) (0, (.slice none 0 0), W15) ⟨(by first | omega | (dsimp only; omega)), (own_nil _ _ _ _ _), (Below.refl _ _)⟩ ⟨rfl, rfl, rfl, rfl, rfl, rfl, rfl, trivial⟩ rfl ?_
    rintro ⟨k, v, W17⟩ ⟨hk1, hown, hE18⟩
    dsimp only at hk1 hown hE18
    refine wc_at [(0, .slice A n c), (2, .slice none 0 0), (3, .int .i64 0), (4, v), (10, .slice A111 n112 c113), (11, .int .i64 ((n112 : Nat) : Int)), (12, .int .i64 (k : Int))] W17 ⟨rfl, rfl, rfl, rfl, rfl, rfl, rfl, trivial⟩ rfl ?_
    refine wc_seq ?_
    refine wc_region ?_
    refine wl_op rfl (op_lss rfl rfl rfl ?_)
    refine (wl_done (then_norm ?_))
    refine wc_seq ?_
    refine wc_cond (b := decide ((k : Int) < ((n112 : Nat) : Int))) rfl (fun hc19 => ?_) (fun hc19 => ?_)
    · have hc19r := hc19
      have hc19 := of_decide_eq_true hc19
      refine wc_skip ?_
      refine (then_norm ?_)
      refine wc_seq ?_
      refine wc_block ?_
      refine wc_seq ?_
      refine wc_region ?_
      obtain ⟨bs20, os21, hA22, hc23⟩ := hp14.rows
      have hln24 := hp14.len
      have hbd25 := hp14.bd
      obtain ⟨x_clashRows_k, hx_clashRows_k⟩ : ∃ x, clashRows[k]? = some x := ⟨_, List.getElem?_eq_getElem (by have := hp14.len; omega)⟩
      obtain ⟨cs26, hcl27, hR28, hC29⟩ := hc23 k x_clashRows_k hx_clashRows_k
      obtain ⟨g30, caps31, rfl, he32, hcon33⟩ := hR28
      refine wl_op rfl (op_indexAddr (j := k) rfl rfl und53 sz57 (hA22 (by omega)) rfl (by omega) rfl ?_)
      have hB34 : Below W15.heap.size W15 W17 := (below_step (Below.refl _ _) hE18)
      refine wl_op rfl (op_loadN (vs := [.int .i64 x_clashRows_k.a, .int .i64 x_clashRows_k.b, .func (.func g30) #[] caps31]) rfl agg57 sz57 rfl (hC29.ext hB34) rfl ?_)
      refine wl_op rfl (op_alloc zero57 rfl ?_)
      intro W35 b36 hN37
      have hb38 : W35.heap[b36]? = some (.cells #[.int .i64 0, .int .i64 0, .nilFunc] 68 (0, 0)) := hN37.blk
      refine wl_op rfl (op_storeW rfl rfl sz57 hb38 rfl rfl ?_)
      intro W39 hP40 hb41
      have hb41 : W39.heap[b36]? = some (.cells #[.int .i64 x_clashRows_k.a, .int .i64 x_clashRows_k.b, .func (.func g30) #[] caps31] 68 (0, 0)) := hb41
      refine (wl_done (then_norm ?_))
      refine wc_seq ?_
      refine wc_draw mixed [(0, .slice A n c), (2, .slice none 0 0), (3, .int .i64 0), (4, v), (10, .slice A111 n112 c113), (11, .int .i64 ((n112 : Nat) : Int)), (12, .int .i64 (k : Int)), (13, .bool (decide ((k : Int) < ((n112 : Nat) : Int)))), (14, .pointer (some ⟨bs20, os21 + k * 3, none⟩)), (15, .agg #[.int .i64 x_clashRows_k.a, .int .i64 x_clashRows_k.b, .func (.func g30) #[] caps31]), (6, .pointer (some ⟨b36, 0, none⟩))] ⟨rfl, rfl, rfl, rfl, rfl, rfl, rfl, rfl, rfl, rfl, rfl, trivial⟩ [fun v _ => v = .pointer (some ⟨b36, 0 + 2, none⟩), fun v _ => v = .func (.func g30) #[] caps31, fun v _ => v = .slice A n c, fun v _ => v = .pointer (some ⟨b36, 0 + 0, none⟩), fun v _ => v = .int .i64 x_clashRows_k.a, fun v _ => v = .int .i64 (valueOf s x_clashRows_k.a), fun v _ => v = .slice A n c, fun v _ => v = .pointer (some ⟨b36, 0 + 1, none⟩), fun v _ => v = .int .i64 x_clashRows_k.b, fun v _ => v = .int .i64 (valueOf s x_clashRows_k.b), fun v _ => v = .bool (x_clashRows_k.bad (valueOf s x_clashRows_k.a) (valueOf s x_clashRows_k.b))] [[], [0], [], [], [3], [2, 4], [], [], [7], [6, 8], [1, 5, 9]] [0, 1, 2, 3, 4, 5, 6, 7, 8, 9, 10] rfl rfl rfl ⟨fun _ _ _ _ h => h, fun _ _ _ _ h => h, fun _ _ _ _ h => h, fun _ _ _ _ h => h, fun _ _ _ _ h => h, fun _ _ _ _ h => h, fun _ _ _ _ h => h, fun _ _ _ _ h => h, fun _ _ _ _ h => h, fun _ _ _ _ h => h, fun _ _ _ _ h => h, trivial⟩ ⟨?_, ?_, ?_, ?_, ?_, ?_, ?_, ?_, ?_, ?_, ?_, trivial⟩ ?_
      · intro W42 hW43
        refine gather_nil ?_
        refine opg_none rfl ?_
        exact op_fieldAddr rfl fa57_2 rfl ⟨told rfl rfl rfl, (Below.refl _ _)⟩
      · intro W42 hW43
        rintro _ rfl
        refine gather_nil ?_
        refine opg_none rfl ?_
        have hb52 : W42.heap[b36]? = some (.cells #[.int .i64 x_clashRows_k.a, .int .i64 x_clashRows_k.b, .func (.func g30) #[] caps31] 68 (0, 0)) := (blk_ext hb41 hW43)
        exact op_load1 (v := .func (.func g30) #[] caps31) rfl agg55 (cell_blk hb52 rfl) rfl ⟨told rfl rfl rfl, (Below.refl _ _)⟩
      · intro W42 hW43
        refine gather_nil ?_
        refine opg_none rfl ?_
        exact op_move rfl rfl ⟨told rfl rfl rfl, (Below.refl _ _)⟩
      · intro W42 hW43
        refine gather_nil ?_
        refine opg_none rfl ?_
        exact op_fieldAddr rfl fa57_0 rfl ⟨told rfl rfl rfl, (Below.refl _ _)⟩
      · intro W42 hW43
        rintro _ rfl
        refine gather_nil ?_
        refine opg_none rfl ?_
        have hb53 : W42.heap[b36]? = some (.cells #[.int .i64 x_clashRows_k.a, .int .i64 x_clashRows_k.b, .func (.func g30) #[] caps31] 68 (0, 0)) := (blk_ext hb41 hW43)
        exact op_load1 (v := .int .i64 x_clashRows_k.a) rfl agg3 (cell_blk hb53 rfl) rfl ⟨told rfl rfl rfl, (Below.refl _ _)⟩
      · intro W42 hW43
        rintro _ rfl
        rintro _ rfl
        refine gather_nil ?_
        refine opg_none rfl ?_
        have hB54 : Below w.heap.size w W17 := (below_step (below_step (below_step (Below.refl _ _) hE8) hE16) hE18)
        have hB55 : Below w.heap.size w W42 := (below_step (hP40.below (below_new (below_step (below_step (below_step (Below.refl _ _) hE8) hE16) hE18) hN37) (le_new hB54 hN37)) hW43)
        refine op_call ent40 rfl (value_spec (hs.ext (flat_lifts _) hB55) hasc (by have := clashRows_kinds hx_clashRows_k; omega) (by have := clashRows_kinds hx_clashRows_k; omega)) rfl ?_
        rintro _ W56 ⟨rfl, hE57⟩
        exact ⟨told rfl rfl rfl, hE57⟩
      · intro W42 hW43
        refine gather_nil ?_
        refine opg_none rfl ?_
        exact op_move rfl rfl ⟨told rfl rfl rfl, (Below.refl _ _)⟩
      · intro W42 hW43
        refine gather_nil ?_
        refine opg_none rfl ?_
        exact op_fieldAddr rfl fa57_1 rfl ⟨told rfl rfl rfl, (Below.refl _ _)⟩
      · intro W42 hW43
        rintro _ rfl
        refine gather_nil ?_
        refine opg_none rfl ?_
        have hb58 : W42.heap[b36]? = some (.cells #[.int .i64 x_clashRows_k.a, .int .i64 x_clashRows_k.b, .func (.func g30) #[] caps31] 68 (0, 0)) := (blk_ext hb41 hW43)
        exact op_load1 (v := .int .i64 x_clashRows_k.b) rfl agg3 (cell_blk hb58 rfl) rfl ⟨told rfl rfl rfl, (Below.refl _ _)⟩
      · intro W42 hW43
        rintro _ rfl
        rintro _ rfl
        refine gather_nil ?_
        refine opg_none rfl ?_
        have hB59 : Below w.heap.size w W17 := (below_step (below_step (below_step (Below.refl _ _) hE8) hE16) hE18)
        have hB60 : Below w.heap.size w W42 := (below_step (hP40.below (below_new (below_step (below_step (below_step (Below.refl _ _) hE8) hE16) hE18) hN37) (le_new hB59 hN37)) hW43)
        refine op_call ent40 rfl (value_spec (hs.ext (flat_lifts _) hB60) hasc (by have := clashRows_kinds hx_clashRows_k; omega) (by have := clashRows_kinds hx_clashRows_k; omega)) rfl ?_
        rintro _ W61 ⟨rfl, hE62⟩
        exact ⟨told rfl rfl rfl, hE62⟩
      · intro W42 hW43
        rintro _ rfl
        rintro _ rfl
        rintro _ rfl
        refine gather_nil ?_
        refine opg_none rfl ?_
        have hB63 : Below W15.heap.size W15 W42 := (below_step (hP40.below (below_new hB34 hN37) (le_new hB34 hN37)) hW43)
        refine op_callv (f := g30) rfl he32 rfl rfl (hcon33 _ hB63 _ _) rfl ?_
        rintro _ W64 ⟨rfl, hE65⟩
        exact ⟨told rfl rfl rfl, hE65⟩
      intro W66 hW67
      rintro _ rfl
      rintro _ rfl
      rintro _ rfl
      rintro _ rfl
      rintro _ rfl
      rintro _ rfl
      rintro _ rfl
      rintro _ rfl
      rintro _ rfl
      rintro _ rfl
      rintro _ rfl
      refine gather_nil ?_
      refine (then_norm ?_)
      refine wc_cond (b := x_clashRows_k.bad (valueOf s x_clashRows_k.a) (valueOf s x_clashRows_k.b)) rfl (fun hc68 => ?_) (fun hc68 => ?_)
      · have hb : badOf s x_clashRows_k = true := hc68
        refine wc_region ?_
        refine wl_op rfl (op_move rfl rfl ?_)
        refine wl_op rfl (op_fieldAddr rfl fa57_0 rfl ?_)
        have hb69 : W66.heap[b36]? = some (.cells #[.int .i64 x_clashRows_k.a, .int .i64 x_clashRows_k.b, .func (.func g30) #[] caps31] 68 (0, 0)) := (blk_ext hb41 hW67)
        refine wl_op rfl (op_load1 (v := .int .i64 x_clashRows_k.a) rfl agg3 (cell_blk hb69 rfl) rfl ?_)
        refine wl_op rfl (op_fieldAddr rfl fa57_1 rfl ?_)
        refine wl_op rfl (op_load1 (v := .int .i64 x_clashRows_k.b) rfl agg3 (cell_blk hb69 rfl) rfl ?_)
        refine wl_op rfl (op_build (v := .agg #[.int .i64 x_clashRows_k.a, .int .i64 x_clashRows_k.b]) rfl (fun w => by kernel_rfl) rfl ?_)
        refine wl_op rfl (op_buildSlice (cs := #[.int .i64 x_clashRows_k.a, .int .i64 x_clashRows_k.b]) (e := 40) rfl (fun w => by kernel_rfl) rfl ?_)
        intro W70 b71 hN72
        have hb73 : W70.heap[b71]? = some (.cells #[.int .i64 x_clashRows_k.a, .int .i64 x_clashRows_k.b] 40 (0, 0)) := hN72.blk
        have hB79 : Below W15.heap.size W15 W70 := (below_new (below_step (hP40.below (below_new hB34 hN37) (le_new hB34 hN37)) hW67) hN72)
        refine wl_op rfl (op_appendP (enc := encQ) (x_clashRows_k.a, x_clashRows_k.b) rfl rfl app25 rfl rfl (Own.ext (Own.ext (own_put (Own.ext hown hN37.ext) hP40 (own_ne_new hown hN37)) hW67) hN72.ext) (cells_blk hb73) rfl rfl (by have := clash_le s k; omega) (by have := clash_le s k; omega) hB79.size rfl ?_)
        intro v74 W75 ho76 hg77 hob78
        refine wl_op rfl (op_assign rfl rfl ?_)
        refine (wl_done (block_norm (then_norm ?_)))
        refine wc_region ?_
        refine wl_op rfl (op_add (r := ((k + 1 : Nat) : Int)) rfl rfl (by omega) (by omega) rfl ?_)
        refine wl_op rfl (op_move rfl rfl ?_)
        refine (wl_done (then_norm ?_))
        have hB80 : Below W15.heap.size W15 W75 := (below_grown hB79 (Own.ext (Own.ext (own_put (Own.ext hown hN37.ext) hP40 (own_ne_new hown hN37)) hW67) hN72.ext) hg77 (Nat.le_refl _))
        refine ⟨((k + 1), v74, W75), ⟨(by first | omega | (dsimp only; omega)), (by dsimp only; rw [take_filter_t hx_clashRows_k hb, List.map_append]; exact ho76), hB80⟩, ?_, ⟨rfl, rfl, rfl, rfl, rfl, rfl, rfl, trivial⟩, rfl⟩
        · dsimp only; omega
      · have hb : badOf s x_clashRows_k = false := hc68
        refine wc_skip ?_
        refine (block_norm (then_norm ?_))
        refine wc_region ?_
        refine wl_op rfl (op_add (r := ((k + 1 : Nat) : Int)) rfl rfl (by omega) (by omega) rfl ?_)
        refine wl_op rfl (op_move rfl rfl ?_)
        refine (wl_done (then_norm ?_))
        have hB81 : Below W15.heap.size W15 W66 := (below_step (hP40.below (below_new hB34 hN37) (le_new hB34 hN37)) hW67)
        refine ⟨((k + 1), v, W66), ⟨(by first | omega | (dsimp only; omega)), (by dsimp only; rw [take_filter_f hx_clashRows_k hb]; exact (Own.ext (own_put (Own.ext hown hN37.ext) hP40 (own_ne_new hown hN37)) hW67)), hB81⟩, ?_, ⟨rfl, rfl, rfl, rfl, rfl, rfl, rfl, trivial⟩, rfl⟩
        · dsimp only; omega
    · have hc19r := hc19
      have hc19 := of_decide_eq_false hc19
      refine wc_exit ?_
      refine (then_exit (then_exit (block_here (then_norm ?_))))
      refine wc_seq ?_
      refine wc_region ?_
      refine wl_op rfl (op_move rfl rfl ?_)
      refine wl_op rfl (op_assign rfl rfl ?_)
      refine wl_op rfl (op_assign rfl rfl ?_)
      refine (wl_done (then_norm ?_))
      refine WC.sub [(2, v), (3, .int .i64 0)] ⟨rfl, rfl, trivial⟩ ?_
      refine wc_ret ?_
      have hB82 : Below w.heap.size w W17 := (below_step (below_step (below_step (Below.refl _ _) hE8) hE16) hE18)
      obtain ⟨A83, n84, c85, hv86, hr87, hn88, hnc89⟩ := rd_of_OwnC hown (fun _ => rfl) (by have := clash_le s k; omega)
      subst hv86
      have hkn : clashRows.take k = clashRows := List.take_of_length_le (by have := hp14.len; omega)
      refine ⟨[_, _], ⟨rfl, rfl, trivial⟩, ⟨A83, n84, c85, ?_, (by rw [clashL, if_pos hv, clashList, ← hkn]; exact hr87), hB82⟩⟩
      rw [chosenE, if_pos hv]
      rfl

end Go.Eng



set_option linter.unusedVariables false
set_option maxRecDepth 100000
namespace Go.Eng
open Go.RowKit Go.Shelf Go.Proofs Pol

theorem ent75 : Enters Tryz.prog 55 := enters_of Tryz.func55 (by kernel_rfl) rfl

def strengthI (v : Int) : Int := if v = 1 then 1 else if v = 3 then 2 else if v = 4 then 3 else 0
theorem strength_index {v : Int} (h0 : 0 ≤ v) (h4 : v ≤ 4) : ∀ w, (Instr.index 89 (.agg #[.int .i64 0, .int .i64 1, .int .i64 0, .int .i64 2, .int .i64 3]) (.int .i64 v)).run Tryz.prog w = .ok (.int .i64 (strengthI v)) w := by
  have hk : v = 0 ∨ v = 1 ∨ v = 2 ∨ v = 3 ∨ v = 4 := by omega
  rcases hk with rfl | rfl | rfl | rfl | rfl <;> (intro w; kernel_rfl)

theorem Agree1_spec {w : World} {u : Int} : Ret Tryz.prog 31 #[.int .i64 u] w (fun v w' => v = .int .i64 u ∧ Below w.heap.size w w') := by
  refine ret_of (args := [.int .i64 u]) Tryz.func31 rfl Tryz.ntmps31 rfl (rs := [.tmp 2]) rfl ?_
  refine wc_seq ?_
  refine wc_region ?_
  refine wl_op rfl (op_assign rfl rfl ?_)
  refine (wl_done (then_norm ?_))
  refine wc_seq ?_
  refine wc_region ?_
  refine wl_op rfl (op_move rfl rfl ?_)
  refine wl_op rfl (op_assign rfl rfl ?_)
  refine (wl_done (then_norm ?_))
  refine wc_ret ?_
  refine ⟨[_], ⟨rfl, trivial⟩, ⟨?_, (Below.refl _ _)⟩⟩
  exact rfl

theorem strength_spec {w : World} {u : Int} (hv0 : 0 ≤ u) (hv4 : u ≤ 4) : Ret Tryz.prog 32 #[.int .i64 u] w (fun v w' => v = .int .i64 (strengthI u) ∧ Below w.heap.size w w') := by
  refine ret_of (args := [.int .i64 u]) Tryz.func32 rfl Tryz.ntmps32 rfl (rs := [.tmp 2]) rfl ?_
  refine wc_seq ?_
  refine wc_region ?_
  refine wl_op rfl (op_assign rfl rfl ?_)
  refine (wl_done (then_norm ?_))
  refine wc_seq ?_
  refine wc_region ?_
  refine wl_op rfl (op_build (v := .agg #[.int .i64 0, .int .i64 1, .int .i64 0, .int .i64 2, .int .i64 3]) rfl (fun w => by kernel_rfl) rfl ?_)
  refine wl_op rfl (op_move rfl rfl ?_)
  refine wl_op rfl (op_index rfl rfl (strength_index hv0 hv4) rfl ?_)
  refine wl_op rfl (op_assign rfl rfl ?_)
  refine (wl_done (then_norm ?_))
  refine wc_ret ?_
  refine ⟨[_], ⟨rfl, trivial⟩, ⟨?_, (Below.refl _ _)⟩⟩
  exact rfl

theorem Agree2_spec {w : World} {a b : Int} : Ret Tryz.prog 34 #[.agg #[.int .i64 a, .int .i64 b]] w (fun v w' => v = .bool (decide (a = 12)) ∧ Below w.heap.size w w') := by
  refine ret_of (args := [.agg #[.int .i64 a, .int .i64 b]]) Tryz.func34 rfl Tryz.ntmps34 rfl (rs := [.tmp 2]) rfl ?_
  refine wc_seq ?_
  refine wc_region ?_
  refine wl_op rfl (op_box rfl rfl ?_)
  intro W1 b2 hN3
  have hb4 : W1.heap[b2]? = some (.cells #[.int .i64 a, .int .i64 b] 37 (0, 0)) := hN3.blk
  refine wl_op rfl (op_assign rfl rfl ?_)
  refine (wl_done (then_norm ?_))
  refine wc_seq ?_
  refine wc_region ?_
  refine wl_op rfl (op_fieldAddr rfl fa46_0 rfl ?_)
  refine wl_op rfl (op_load1 (v := .int .i64 a) rfl agg3 (cell_blk hb4 rfl) rfl ?_)
  refine wl_op rfl (op_eql rfl rfl rfl ?_)
  refine wl_op rfl (op_assign rfl rfl ?_)
  refine (wl_done (then_norm ?_))
  refine wc_ret ?_
  have hB5 : Below w.heap.size w W1 := (below_new (Below.refl _ _) hN3)
  refine ⟨[_], ⟨rfl, trivial⟩, ⟨?_, hB5⟩⟩
  exact rfl

theorem greater_spec {w : World} {a b : Int} {g : Nat} {caps : Array Value} {f : Int → Int} (hent : Enters Tryz.prog g) (hk : ∀ W x, x = a ∨ x = b → Below w.heap.size w W → Ret Tryz.prog g (#[.int .i64 x] ++ caps) W (fun v W' => v = .int .i64 (f x) ∧ Below W.heap.size W W')) : Ret Tryz.prog 30 #[.int .i64 a, .int .i64 b, .func (.func g) #[] caps] w (fun v w' => v = .int .i64 (if f a < f b then b else a) ∧ Below w.heap.size w w') := by
  refine ret_of (args := [.int .i64 a, .int .i64 b, .func (.func g) #[] caps]) Tryz.func30 rfl Tryz.ntmps30 rfl (rs := [.tmp 6]) rfl ?_
  refine wc_seq ?_
  refine wc_region ?_
  refine wl_op rfl (op_assign rfl rfl ?_)
  refine (wl_done (then_norm ?_))
  refine wc_seq ?_
  refine wc_seq ?_
  refine wc_region ?_
  refine wl_op rfl (op_move rfl rfl ?_)
  refine wl_op rfl (op_move rfl rfl ?_)
  refine wl_op rfl (op_callv (f := g) rfl hent rfl rfl (hk _ _ (by simp) (Below.refl _ _)) rfl ?_)
  rintro _ W1 ⟨rfl, hE2⟩
  refine wl_op rfl (op_move rfl rfl ?_)
  refine wl_op rfl (op_move rfl rfl ?_)
  have hB3 : Below w.heap.size w W1 := (below_step (Below.refl _ _) hE2)
  refine wl_op rfl (op_callv (f := g) rfl hent rfl rfl (hk _ _ (by simp) hB3) rfl ?_)
  rintro _ W4 ⟨rfl, hE5⟩
  refine wl_op rfl (op_gtr rfl rfl rfl ?_)
  refine (wl_done (then_norm ?_))
  refine WC.sub [(0, .int .i64 a), (1, .int .i64 b), (6, .int .i64 0), (13, .bool (decide (f a < f b)))] ⟨rfl, rfl, rfl, rfl, trivial⟩ ?_
  refine wc_cond (b := decide (f a < f b)) rfl (fun hc6 => ?_) (fun hc6 => ?_)
  · have hc6r := hc6
    have hc6 := of_decide_eq_true hc6
    refine wc_seq ?_
    refine wc_region ?_
    refine wl_op rfl (op_move rfl rfl ?_)
    refine wl_op rfl (op_assign rfl rfl ?_)
    refine (wl_done (then_norm ?_))
    refine wc_ret ?_
    refine (then_ret ?_)
    have hB7 : Below w.heap.size w W4 := (below_step hB3 hE5)
    refine ⟨[_], ⟨rfl, trivial⟩, ⟨?_, hB7⟩⟩
    rw [if_pos (by assumption)]
    rfl
  · have hc6r := hc6
    have hc6 := of_decide_eq_false hc6
    refine wc_skip ?_
    refine (then_norm ?_)
    refine wc_seq ?_
    refine wc_region ?_
    refine wl_op rfl (op_move rfl rfl ?_)
    refine wl_op rfl (op_assign rfl rfl ?_)
    refine (wl_done (then_norm ?_))
    refine wc_ret ?_
    have hB8 : Below w.heap.size w W4 := (below_step hB3 hE5)
    refine ⟨[_], ⟨rfl, trivial⟩, ⟨?_, hB8⟩⟩
    rw [if_neg (by assumption)]
    rfl

theorem any_of_take {s : List Pol} {keep : Pol → Bool} (h : ∀ (i : Nat) (x : Pol), i < s.length → s[i]? = some x → keep x = false) : s.any keep = false := by
  rw [List.any_eq_false]
  intro x hx
  obtain ⟨i, hi, rfl⟩ := List.getElem_of_mem hx
  simp [h i _ hi (List.getElem?_eq_getElem hi)]
theorem any_of_get {s : List Pol} {keep : Pol → Bool} {i : Nat} {x : Pol} (h : s[i]? = some x) (hk : keep x = true) : s.any keep = true := List.any_eq_true.2 ⟨x, List.mem_of_getElem? h, hk⟩

theorem IndexFunc_spec {w : World} {A : Option Addr} {n c : Nat} {s : List Pol} {g : Nat} {caps : Array Value} {keep : Pol → Bool} (hs : RdP w A n s) (hent : Enters Tryz.prog g) (hk : ∀ W a b, (⟨a, b⟩ : Pol) ∈ s → Below w.heap.size w W → Ret Tryz.prog g (#[.agg #[.int .i64 a, .int .i64 b]] ++ caps) W (fun v W' => v = .bool (keep ⟨a, b⟩) ∧ Below W.heap.size W W')) : Ret Tryz.prog 55 #[.slice A n c, .func (.func g) #[] caps] w (fun v w' => ∃ (r : Int), v = .int .i64 r ∧ decide (0 ≤ r) = s.any keep ∧ Below w.heap.size w w') := by
  obtain ⟨bs1, os2, hA3, hc4⟩ := hs.flat
  have hln5 := hs.len
  have hbd6 := hs.bd
  have hlen_s := hs.len
  refine ret_of (args := [.slice A n c, .func (.func g) #[] caps]) Tryz.func55 rfl Tryz.ntmps55 rfl (rs := [.tmp 4]) rfl ?_
  refine wc_seq ?_
  refine wc_region ?_
  refine wl_op rfl (op_assign rfl rfl ?_)
  refine (wl_done (then_norm ?_))
  refine wc_seq ?_
  refine wc_seq ?_
  refine wc_region ?_
  refine wl_op rfl (op_move rfl rfl ?_)
  refine wl_op rfl (op_len_slice rfl rfl und22 rfl rfl ?_)
  refine wl_op rfl (op_move rfl rfl ?_)
  refine (wl_done (then_norm ?_))
  refine wc_block ?_
  refine wc_loop (σ := Nat × World) (fun st_ => [(0, .slice A n c), (1, .func (.func g) #[] caps), (4, .int .i64 0), (7, .int .i64 ((n : Nat) : Int)), (8, .int .i64 (st_.1 : Int))]) (fun st_ => st_.2) (fun st_ => (st_.1 ≤ n) ∧ (∀ (i : Nat) (x : Pol), i < st_.1 → s[i]? = some x → keep x = false) ∧ (Below w.heap.size w st_.2)) (fun st_ => n - st_.1) (0, w) ⟨(by first | omega | (dsimp only; omega)), (fun i x hi => absurd hi (by omega)), (Below.refl _ _)⟩ ⟨rfl, rfl, rfl, rfl, rfl, trivial⟩ rfl ?_
  rintro ⟨k, W7⟩ ⟨hk1, hall, hE8⟩
  dsimp only at hk1 hall hE8
  refine wc_at [(0, .slice A n c), (1, .func (.func g) #[] caps), (4, .int .i64 0), (7, .int .i64 ((n : Nat) : Int)), (8, .int .i64 (k : Int))] W7 ⟨rfl, rfl, rfl, rfl, rfl, trivial⟩ rfl ?_
  refine wc_seq ?_
  refine wc_region ?_
  refine wl_op rfl (op_lss rfl rfl rfl ?_)
  refine (wl_done (then_norm ?_))
  refine wc_seq ?_
  refine wc_cond (b := decide ((k : Int) < ((n : Nat) : Int))) rfl (fun hc9 => ?_) (fun hc9 => ?_)
  · have hc9r := hc9
    have hc9 := of_decide_eq_true hc9
    refine wc_skip ?_
    refine (then_norm ?_)
    refine wc_seq ?_
    refine wc_block ?_
    refine wc_seq ?_
    refine wc_region ?_
    refine wl_op rfl (op_move rfl rfl ?_)
    refine wl_op rfl (op_assign rfl rfl ?_)
    refine (wl_done (then_norm ?_))
    refine wc_seq ?_
    refine wc_region ?_
    refine wl_op rfl (op_move rfl rfl ?_)
    refine wl_op rfl (op_move rfl rfl ?_)
    refine wl_op rfl (op_move rfl rfl ?_)
    obtain ⟨x_s_k, hx_s_k⟩ : ∃ x, s[k]? = some x := ⟨_, List.getElem?_eq_getElem (by have := hs.len; omega)⟩
    refine wl_op rfl (op_indexAddr (j := k) rfl rfl und22 sz46 (hA3 (by omega)) rfl (by omega) rfl ?_)
    have hB10 : Below w.heap.size w W7 := (below_step (Below.refl _ _) hE8)
    refine wl_op rfl (op_loadN (vs := [.int .i64 x_s_k.kind, .int .i64 x_s_k.val]) rfl agg46 sz46 rfl ((hc4 k x_s_k hx_s_k).ext hB10) rfl ?_)
    refine wl_op rfl (op_callv (f := g) rfl hent rfl rfl (hk _ _ _ (List.mem_of_getElem? hx_s_k) hB10) rfl ?_)
    rintro _ W11 ⟨rfl, hE12⟩
    refine (wl_done (then_norm ?_))
    refine wc_cond (b := keep ⟨x_s_k.kind, x_s_k.val⟩) rfl (fun hc13 => ?_) (fun hc13 => ?_)
    · have hyes : keep x_s_k = true := hc13
      refine wc_seq ?_
      refine wc_region ?_
      refine wl_op rfl (op_move rfl rfl ?_)
      refine wl_op rfl (op_assign rfl rfl ?_)
      refine (wl_done (then_norm ?_))
      refine wc_ret ?_
      refine (block_ret (then_ret (then_ret (block_ret (then_ret ?_)))))
      have hB14 : Below w.heap.size w W11 := (below_step hB10 hE12)
      refine ⟨[_], ⟨rfl, trivial⟩, ⟨(k : Int), ?_, (by rw [any_of_get hx_s_k hyes]; exact decide_eq_true (by omega)), hB14⟩⟩
      exact rfl
    · have hno : keep x_s_k = false := hc13
      refine wc_skip ?_
      refine (block_norm (then_norm ?_))
      refine wc_region ?_
      refine wl_op rfl (op_add (r := ((k + 1 : Nat) : Int)) rfl rfl (by omega) (by omega) rfl ?_)
      refine wl_op rfl (op_move rfl rfl ?_)
      refine (wl_done (then_norm ?_))
      have hB15 : Below w.heap.size w W11 := (below_step hB10 hE12)
      refine ⟨((k + 1), W11), ⟨(by first | omega | (dsimp only; omega)), (fun i x hi hx => by rcases Nat.lt_or_ge i k with h | h; exact hall i x h hx; have e : i = k := (by dsimp only at hi; omega); subst e; rw [hx_s_k] at hx; cases hx; exact hno), hB15⟩, ?_, ⟨rfl, rfl, rfl, rfl, rfl, trivial⟩, rfl⟩
      · dsimp only; omega
  · have hc9r := hc9
    have hc9 := of_decide_eq_false hc9
    refine wc_exit ?_
    refine (then_exit (then_exit (block_here (then_norm ?_))))
    refine wc_seq ?_
    refine wc_region ?_
    refine wl_op rfl (op_assign rfl rfl ?_)
    refine (wl_done (then_norm ?_))
    refine wc_ret ?_
    have hB16 : Below w.heap.size w W7 := (below_step (Below.refl _ _) hE8)
    refine ⟨[_], ⟨rfl, trivial⟩, ⟨(-1), ?_, (by rw [any_of_take (fun i x hi hx => hall i x (by omega) hx)]; rfl), hB16⟩⟩
    exact rfl

theorem ContainsFunc_spec {w : World} {A : Option Addr} {n c : Nat} {s : List Pol} {g : Nat} {caps : Array Value} {keep : Pol → Bool} (hs : RdP w A n s) (hent : Enters Tryz.prog g) (hk : ∀ W a b, (⟨a, b⟩ : Pol) ∈ s → Below w.heap.size w W → Ret Tryz.prog g (#[.agg #[.int .i64 a, .int .i64 b]] ++ caps) W (fun v W' => v = .bool (keep ⟨a, b⟩) ∧ Below W.heap.size W W')) : Ret Tryz.prog 33 #[.slice A n c, .func (.func g) #[] caps] w (fun v w' => v = .bool (s.any keep) ∧ Below w.heap.size w w') := by
  obtain ⟨bs1, os2, hA3, hc4⟩ := hs.flat
  have hln5 := hs.len
  have hbd6 := hs.bd
  have hlen_s := hs.len
  refine ret_of (args := [.slice A n c, .func (.func g) #[] caps]) Tryz.func33 rfl Tryz.ntmps33 rfl (rs := [.tmp 4]) rfl ?_
  refine wc_seq ?_
  refine wc_region ?_
  refine wl_op rfl (op_assign rfl rfl ?_)
  refine (wl_done (then_norm ?_))
  refine wc_seq ?_
  refine wc_region ?_
  refine wl_op rfl (op_move rfl rfl ?_)
  refine wl_op rfl (op_move rfl rfl ?_)
  refine wl_op rfl (op_call ent75 rfl (IndexFunc_spec hs hent hk (keep := keep)) rfl ?_)
  rintro _ W9 ⟨r7, rfl, hp8, hE10⟩
  refine wl_op rfl (op_geq rfl rfl rfl ?_)
  refine wl_op rfl (op_assign rfl rfl ?_)
  refine (wl_done (then_norm ?_))
  refine WC.sub [(4, .bool (decide (0 ≤ r7)))] ⟨rfl, trivial⟩ ?_
  refine wc_ret ?_
  have hB11 : Below w.heap.size w W9 := (below_step (Below.refl _ _) hE10)
  refine ⟨[_], ⟨rfl, trivial⟩, ⟨?_, hB11⟩⟩
  exact congrArg Value.bool hp8

end Go.Eng



set_option linter.unusedVariables false
set_option maxRecDepth 100000
namespace Go.Eng
open Go.RowKit Go.Shelf Go.Proofs Pol

theorem ent36 : Enters Tryz.prog 29 := enters_of Tryz.func29 (by kernel_rfl) rfl
theorem ent42 : Enters Tryz.prog 30 := enters_of Tryz.func30 (by kernel_rfl) rfl
theorem ent43 : Enters Tryz.prog 31 := enters_of Tryz.func31 (by kernel_rfl) rfl
theorem ent44 : Enters Tryz.prog 32 := enters_of Tryz.func32 (by kernel_rfl) rfl
theorem sz3 : Sz Tryz.prog 3 1 := fun w => by kernel_rfl
theorem ent45 : Enters Tryz.prog 33 := enters_of Tryz.func33 (by kernel_rfl) rfl
theorem ent46 : Enters Tryz.prog 34 := enters_of Tryz.func34 (by kernel_rfl) rfl
theorem ent8 : Enters Tryz.prog 12 := enters_of Tryz.func12 (by kernel_rfl) rfl
theorem und25 : Und Tryz.prog 33 (.slice 40) := by unfold Und; kernel_rfl
theorem sz29 : Sz Tryz.prog 40 2 := fun w => by kernel_rfl
theorem und29 : Und Tryz.prog 40 (.array 2 3) := by unfold Und; kernel_rfl
theorem ent21 : Enters Tryz.prog 35 := enters_of Tryz.func35 (by kernel_rfl) rfl

abbrev agC (a : List Pol) : List Pol := chosenL a keepCalls
def rebindOf (c s : List Pol) : Int := if valueOf c 8 < valueOf s 8 then valueOf s 8 else valueOf c 8
def certOf (c s : List Pol) : Int := if strengthI (valueOf c 9) < strengthI (valueOf s 9) then valueOf s 9 else valueOf c 9
def limitOf (c s : List Pol) : Int := if 0 < valueOf s 10 ∧ (valueOf c 10 = 0 ∨ valueOf s 10 < valueOf c 10) then valueOf s 10 else valueOf c 10
abbrev hasPrio (s : List Pol) : Bool := s.any (fun p => decide (p.kind = 12))
def prioOf (c s : List Pol) : Int := if hasPrio s = true then (if valueOf s 12 < valueOf c 12 then valueOf s 12 else valueOf c 12) else valueOf c 12
def orderOf (c s : List Pol) : Int := if valueOf c 13 = 1 then valueOf s 13 else valueOf c 13
def agreed (c s : List Pol) : List Pol := [⟨8, rebindOf c s⟩, ⟨9, certOf c s⟩, ⟨10, limitOf c s⟩, ⟨11, valueOf c 11⟩, ⟨12, prioOf c s⟩, ⟨13, orderOf c s⟩]
def agree (a b : List Pol) : List Pol × Int × Int :=
  if validSet a = true ∧ validSet b = true then
    if valueOf (agC b) 11 < valueOf (agC a) 11 then ([], 11, 9)
    else match clashL (agreed (agC a) (agC b)) with
      | q :: _ => ([], q.1, 9)
      | [] => (chosenL (agreed (agC a) (agC b)) keepPlain, 0, chosenE (agreed (agC a) (agC b)))
  else ([], 0, 1)
theorem chosenE_0 {s : List Pol} : chosenE s = 0 ↔ validSet s = true := by
  unfold chosenE; split <;> simp_all
theorem asc_filter {s : List Pol} (h : Asc s) (f : Pol → Bool) : Asc (s.filter f) := by
  have hp : List.Pairwise (fun x y : Pol => x.kind < y.kind) s := by
    rw [List.pairwise_iff_getElem]
    intro i j hi hj hij
    exact h.up i j _ _ hij (List.getElem?_eq_getElem hi) (List.getElem?_eq_getElem hj)
  have hf := hp.filter f
  rw [List.pairwise_iff_getElem] at hf
  refine ⟨fun i x hx => ?_, fun i j x y hij hx hy => ?_⟩
  · have hm := List.mem_of_getElem? hx
    rw [List.mem_filter] at hm
    obtain ⟨j, hj, rfl⟩ := List.getElem_of_mem hm.1
    exact h.lo j _ (List.getElem?_eq_getElem hj)
  · obtain ⟨hi, rfl⟩ := List.getElem?_eq_some_iff.1 hx
    obtain ⟨hj, rfl⟩ := List.getElem?_eq_some_iff.1 hy
    exact hf i j hi hj hij
theorem asc_chosen {s : List Pol} (hv : validSet s = true) (f : Pol → Bool) : Asc (chosenL s f) := by
  unfold chosenL; rw [if_pos hv]; exact asc_filter (valid_asc hv) f
theorem valueOf_rng {s : List Pol} (h : ∀ p, p ∈ s → validB p = true) {k : Int} (h1 : 1 ≤ k) (h2 : k ≤ 13) : leastI k ≤ valueOf s k ∧ valueOf s k ≤ mostI k := by
  unfold valueOf
  cases hf : s.find? (fun p => decide (p.kind = k)) with
  | none =>
    simp only []
    refine ⟨Int.le_refl _, ?_⟩
    unfold leastI mostI
    repeat' split
    all_goals omega
  | some p =>
    have h3 := List.find?_some hf
    have h4 := h p (List.mem_of_find?_eq_some hf)
    have h5 : p.kind = k := by simpa using h3
    have h6 := valid_val h4
    rw [h5] at h6
    exact h6
theorem chosen_valid {s : List Pol} (hv : validSet s = true) (f : Pol → Bool) : ∀ p, p ∈ chosenL s f → validB p = true := by
  intro p hp
  unfold chosenL at hp
  rw [if_pos hv, List.mem_filter] at hp
  exact mem_valid hv hp.1
theorem rng9 {a b : List Pol} (ha : validSet a = true) (hb : validSet b = true) {x : Int} (h : x = valueOf (agC a) 9 ∨ x = valueOf (agC b) 9) : 0 ≤ x ∧ x ≤ 4 := by
  have h1 := valueOf_rng (chosen_valid ha keepCalls) (k := 9) (by decide) (by decide)
  have h2 := valueOf_rng (chosen_valid hb keepCalls) (k := 9) (by decide) (by decide)
  have e1 : leastI 9 = 1 := by decide
  have e2 : mostI 9 = 4 := by decide
  rw [e1, e2] at h1 h2
  unfold agC at h
  omega
theorem lim_t {a b c : Prop} [Decidable a] [Decidable b] [Decidable c] (h : (decide a && (decide b || decide c)) = true) : a ∧ (b ∨ c) := by simpa using h
theorem lim_f {a b c : Prop} [Decidable a] [Decidable b] [Decidable c] (h : (decide a && (decide b || decide c)) = false) : ¬ (a ∧ (b ∨ c)) := fun k => by
  have : (decide a && (decide b || decide c)) = true := by simpa using k
  rw [h] at this; cases this
theorem agree_route {a b : List Pol} (hva : validSet a = true) (hvb : validSet b = true) (h : valueOf (agC b) 11 < valueOf (agC a) 11) : agree a b = ([], 11, 9) := by
  rw [agree, if_pos ⟨hva, hvb⟩, if_pos h]
theorem agree_clash {a b : List Pol} (hva : validSet a = true) (hvb : validSet b = true) (h : ¬ valueOf (agC b) 11 < valueOf (agC a) 11) {q : Int × Int} (hq : (clashL (agreed (agC a) (agC b)))[0]? = some q) : agree a b = ([], q.1, 9) := by
  rw [agree, if_pos ⟨hva, hvb⟩, if_neg h]
  cases hl : clashL (agreed (agC a) (agC b)) with
  | nil => rw [hl] at hq; cases hq
  | cons p r => rw [hl] at hq; cases hq; rfl
theorem agree_fine {a b : List Pol} (hva : validSet a = true) (hvb : validSet b = true) (h : ¬ valueOf (agC b) 11 < valueOf (agC a) 11) (hq : (clashL (agreed (agC a) (agC b))).length = 0) :
    agree a b = (chosenL (agreed (agC a) (agC b)) keepPlain, 0, chosenE (agreed (agC a) (agC b))) := by
  rw [agree, if_pos ⟨hva, hvb⟩, if_neg h]
  rw [List.eq_nil_of_length_eq_zero hq]

theorem Agree_spec {w : World} {A : Option Addr} {n c : Nat} {a : List Pol} {A2 : Option Addr} {n2 c2 : Nat} {b : List Pol} (hs : RdP w A n a) (hs2 : RdP w A2 n2 b) (hn : n ≤ 1000) (hn2 : n2 ≤ 1000) : Ret Tryz.prog 13 #[.slice A n c, .slice A2 n2 c2] w (fun v w' => ∃ (A1 : Option Addr) (n1 c1 : Nat), v = .tuple #[.slice A1 n1 c1, .int .i64 ((agree a b).2.1), .int .i64 ((agree a b).2.2)] ∧ RdP w' A1 n1 (agree a b).1 ∧ Below w.heap.size w w') := by
  obtain ⟨bs1, os2, hA3, hc4⟩ := hs.flat
  have hln5 := hs.len
  have hbd6 := hs.bd
  have hlen_a := hs.len
  obtain ⟨bs7, os8, hA9, hc10⟩ := hs2.flat
  have hln11 := hs2.len
  have hbd12 := hs2.bd
  have hlen_b := hs2.len
  refine ret_of (args := [.slice A n c, .slice A2 n2 c2]) Tryz.func13 rfl Tryz.ntmps13 rfl (rs := [.tmp 4, .tmp 5, .tmp 6]) rfl ?_
  refine wc_seq ?_
  refine wc_region ?_
  refine wl_op rfl (op_assign rfl rfl ?_)
  refine wl_op rfl (op_assign rfl rfl ?_)
  refine wl_op rfl (op_assign rfl rfl ?_)
  refine (wl_done (then_norm ?_))
  refine wc_seq ?_
  refine wc_region ?_
  refine wl_op rfl (op_move rfl rfl ?_)
  refine wl_op rfl (op_call ent36 rfl (Calls_spec hs hn) rfl ?_)
  rintro _ W17 ⟨A113, n114, c115, rfl, hp16, hE18⟩
  refine wl_op rfl (op_move rfl rfl ?_)
  refine wl_op rfl (op_extract (v := .slice A113 n114 c115) rfl rfl rfl ?_)
  refine wl_op rfl (op_extract (v := .int .i64 (chosenE a)) rfl rfl rfl ?_)
  refine wl_op rfl (op_assign rfl rfl ?_)
  refine wl_op rfl (op_assign rfl rfl ?_)
  refine (wl_done (then_norm ?_))
  refine WC.sub [(1, .slice A2 n2 c2), (4, .slice none 0 0), (5, .int .i64 0), (6, .int .i64 0), (7, .slice A113 n114 c115), (8, .int .i64 (chosenE a))] ⟨rfl, rfl, rfl, rfl, rfl, rfl, trivial⟩ ?_
  refine wc_seq ?_
  refine wc_region ?_
  refine wl_op rfl (op_move rfl rfl ?_)
  have hB19 : Below w.heap.size w W17 := (below_step (Below.refl _ _) hE18)
  refine wl_op rfl (op_call ent36 rfl (Calls_spec (hs2.ext (flat_lifts _) hB19) hn2) rfl ?_)
  rintro _ W24 ⟨A120, n121, c122, rfl, hp23, hE25⟩
  refine wl_op rfl (op_move rfl rfl ?_)
  refine wl_op rfl (op_extract (v := .slice A120 n121 c122) rfl rfl rfl ?_)
  refine wl_op rfl (op_extract (v := .int .i64 (chosenE b)) rfl rfl rfl ?_)
  refine wl_op rfl (op_assign rfl rfl ?_)
  refine wl_op rfl (op_assign rfl rfl ?_)
  refine (wl_done (then_norm ?_))
  refine WC.sub [(4, .slice none 0 0), (5, .int .i64 0), (6, .int .i64 0), (7, .slice A113 n114 c115), (8, .int .i64 (chosenE a)), (9, .slice A120 n121 c122), (10, .int .i64 (chosenE b))] ⟨rfl, rfl, rfl, rfl, rfl, rfl, rfl, trivial⟩ ?_
  refine wc_seq ?_
  refine wc_seq ?_
  refine wc_text [(4, .slice none 0 0), (5, .int .i64 0), (6, .int .i64 0), (7, .slice A113 n114 c115), (8, .int .i64 (chosenE a)), (9, .slice A120 n121 c122), (10, .int .i64 (chosenE b))] ⟨rfl, rfl, rfl, rfl, rfl, rfl, rfl, trivial⟩ [fun v _ => v = .int .i64 (chosenE a), fun v _ => v = .bool (!decide (chosenE a = 0)), fun v _ => v = .bool (!decide (chosenE a = 0)), fun v _ => v = (bif (!(!decide (chosenE a = 0))) then (.int .i64 (chosenE b)) else undef), fun v _ => v = (bif (!(!decide (chosenE a = 0))) then (.bool (!decide (chosenE b = 0))) else undef), fun v _ => v = .bool ((!decide (chosenE a = 0)) || (!decide (chosenE b = 0)))] [[], [0], [1], [2], [2, 3], [2, 4]] [5] rfl rfl rfl ⟨fun _ _ _ _ h => h, fun _ _ _ _ h => h, fun _ _ _ _ h => h, fun _ _ _ _ h => h, fun _ _ _ _ h => h, fun _ _ _ _ h => h, trivial⟩ ⟨?_, ?_, ?_, ?_, ?_, ?_, trivial⟩ ?_
  · intro W26 hW27
    refine gather_nil ?_
    refine opg_none rfl ?_
    exact op_move rfl rfl ⟨told rfl rfl rfl, (Below.refl _ _)⟩
  · intro W26 hW27
    rintro _ rfl
    refine gather_nil ?_
    refine opg_none rfl ?_
    exact op_neq rfl rfl rfl ⟨told rfl rfl rfl, (Below.refl _ _)⟩
  · intro W26 hW27
    rintro _ rfl
    refine gather_nil ?_
    refine opg_none rfl ?_
    exact op_move rfl rfl ⟨told rfl rfl rfl, (Below.refl _ _)⟩
  · intro W26 hW27
    rintro _ rfl
    refine gather_nil ?_
    refine opg_f1 rfl rfl (fun hg28 => ?_) (fun h => by rw [h, cond_false])
    exact op_move rfl rfl ⟨told rfl rfl (by rw [hg28, cond_true]), (Below.refl _ _)⟩
  · intro W26 hW27
    rintro _ rfl
    intro v29 (hv30 : v29 = bif (!(!decide (chosenE a = 0))) then (.int .i64 (chosenE b)) else undef)
    refine gather_nil ?_
    refine opg_f1 rfl rfl (fun hg31 => ?_) (fun h => by rw [h, cond_false])
    obtain rfl : v29 = .int .i64 (chosenE b) := by rw [hv30, hg31, cond_true]
    exact op_neq rfl rfl rfl ⟨told rfl rfl (by rw [hg31, cond_true]), (Below.refl _ _)⟩
  · intro W26 hW27
    rintro _ rfl
    intro v32 (hv33 : v32 = bif (!(!decide (chosenE a = 0))) then (.bool (!decide (chosenE b = 0))) else undef)
    refine gather_nil ?_
    refine opg_none rfl ?_
    exact op_or rfl rfl rfl (fun h => by rw [hv33, (not_i h), cond_true]) rfl ⟨told rfl rfl rfl, (Below.refl _ _)⟩
  intro W34 hW35
  rintro _ rfl
  refine gather_nil ?_
  refine (then_norm ?_)
  refine wc_cond (b := (!decide (chosenE a = 0)) || (!decide (chosenE b = 0))) rfl (fun hc36 => ?_) (fun hc36 => ?_)
  · have hinv : ¬ (validSet a = true ∧ validSet b = true) := by rw [← chosenE_0, ← chosenE_0]; intro h; rw [h.1, h.2] at hc36; cases hc36
    refine wc_seq ?_
    refine wc_region ?_
    refine wl_op rfl (op_assign rfl rfl ?_)
    refine wl_op rfl (op_assign rfl rfl ?_)
    refine wl_op rfl (op_assign rfl rfl ?_)
    refine (wl_done (then_norm ?_))
    refine wc_ret ?_
    refine (then_ret ?_)
    have hB37 : Below w.heap.size w W34 := (below_step (below_step hB19 hE25) hW35)
    refine ⟨[_, _, _], ⟨rfl, rfl, rfl, trivial⟩, ⟨none, 0, 0, ?_, (by rw [agree, if_neg hinv]; exact rd_nil _ _ _), hB37⟩⟩
    rw [agree, if_neg hinv]
    rfl
  · have hval : validSet a = true ∧ validSet b = true := by rw [← chosenE_0, ← chosenE_0]; simpa using hc36
    obtain ⟨hva, hvb⟩ := hval
    refine wc_skip ?_
    refine (then_norm ?_)
    refine wc_seq ?_
    refine wc_region ?_
    refine wl_op rfl (op_move rfl rfl ?_)
    have hB38 : Below W17.heap.size W17 W34 := (below_step (below_step (Below.refl _ _) hE25) hW35)
    refine wl_op rfl (op_call ent40 rfl (value_spec (hp16.ext (flat_lifts _) hB38) (asc_chosen hva _) (by omega) (by omega)) rfl ?_)
    rintro _ W39 ⟨rfl, hE40⟩
    refine wl_op rfl (op_move rfl rfl ?_)
    have hB41 : Below W24.heap.size W24 W39 := (below_step (below_step (Below.refl _ _) hW35) hE40)
    refine wl_op rfl (op_call ent40 rfl (value_spec (hp23.ext (flat_lifts _) hB41) (asc_chosen hvb _) (by omega) (by omega)) rfl ?_)
    rintro _ W42 ⟨rfl, hE43⟩
    refine wl_op rfl (op_call ent42 rfl (greater_spec ent43 (fun W x hx hW => Agree1_spec) (f := fun x => x)) rfl ?_)
    rintro _ W44 ⟨rfl, hE45⟩
    refine wl_op rfl (op_build (v := .agg #[.int .i64 8, .int .i64 (if (fun x => x) (valueOf (chosenL a keepCalls) 8) < (fun x => x) (valueOf (chosenL b keepCalls) 8) then (valueOf (chosenL b keepCalls) 8) else (valueOf (chosenL a keepCalls) 8))]) rfl (fun w => by kernel_rfl) rfl ?_)
    refine wl_op rfl (op_move rfl rfl ?_)
    have hB46 : Below W17.heap.size W17 W44 := (below_step (below_step (below_step hB38 hE40) hE43) hE45)
    refine wl_op rfl (op_call ent40 rfl (value_spec (hp16.ext (flat_lifts _) hB46) (asc_chosen hva _) (by omega) (by omega)) rfl ?_)
    rintro _ W47 ⟨rfl, hE48⟩
    refine wl_op rfl (op_move rfl rfl ?_)
    have hB49 : Below W24.heap.size W24 W47 := (below_step (below_step (below_step hB41 hE43) hE45) hE48)
    refine wl_op rfl (op_call ent40 rfl (value_spec (hp23.ext (flat_lifts _) hB49) (asc_chosen hvb _) (by omega) (by omega)) rfl ?_)
    rintro _ W50 ⟨rfl, hE51⟩
    refine wl_op rfl (op_call ent42 rfl (greater_spec ent44 (fun W x hx hW => strength_spec (rng9 hva hvb hx).1 (rng9 hva hvb hx).2) (f := strengthI)) rfl ?_)
    rintro _ W52 ⟨rfl, hE53⟩
    refine wl_op rfl (op_build (v := .agg #[.int .i64 9, .int .i64 (if strengthI (valueOf (chosenL a keepCalls) 9) < strengthI (valueOf (chosenL b keepCalls) 9) then (valueOf (chosenL b keepCalls) 9) else (valueOf (chosenL a keepCalls) 9))]) rfl (fun w => by kernel_rfl) rfl ?_)
    refine wl_op rfl (op_move rfl rfl ?_)
    have hB54 : Below W17.heap.size W17 W52 := (below_step (below_step (below_step hB46 hE48) hE51) hE53)
    refine wl_op rfl (op_call ent40 rfl (value_spec (hp16.ext (flat_lifts _) hB54) (asc_chosen hva _) (by omega) (by omega)) rfl ?_)
    rintro _ W55 ⟨rfl, hE56⟩
    refine wl_op rfl (op_build (v := .agg #[.int .i64 10, .int .i64 (valueOf (chosenL a keepCalls) 10)]) rfl (fun w => by kernel_rfl) rfl ?_)
    refine wl_op rfl (op_move rfl rfl ?_)
    have hB57 : Below W17.heap.size W17 W55 := (below_step hB54 hE56)
    refine wl_op rfl (op_call ent40 rfl (value_spec (hp16.ext (flat_lifts _) hB57) (asc_chosen hva _) (by omega) (by omega)) rfl ?_)
    rintro _ W58 ⟨rfl, hE59⟩
    refine wl_op rfl (op_build (v := .agg #[.int .i64 11, .int .i64 (valueOf (chosenL a keepCalls) 11)]) rfl (fun w => by kernel_rfl) rfl ?_)
    refine wl_op rfl (op_move rfl rfl ?_)
    have hB60 : Below W17.heap.size W17 W58 := (below_step hB57 hE59)
    refine wl_op rfl (op_call ent40 rfl (value_spec (hp16.ext (flat_lifts _) hB60) (asc_chosen hva _) (by omega) (by omega)) rfl ?_)
    rintro _ W61 ⟨rfl, hE62⟩
    refine wl_op rfl (op_build (v := .agg #[.int .i64 12, .int .i64 (valueOf (chosenL a keepCalls) 12)]) rfl (fun w => by kernel_rfl) rfl ?_)
    refine wl_op rfl (op_move rfl rfl ?_)
    have hB63 : Below W17.heap.size W17 W61 := (below_step hB60 hE62)
    refine wl_op rfl (op_call ent40 rfl (value_spec (hp16.ext (flat_lifts _) hB63) (asc_chosen hva _) (by omega) (by omega)) rfl ?_)
    rintro _ W64 ⟨rfl, hE65⟩
    refine wl_op rfl (op_build (v := .agg #[.int .i64 13, .int .i64 (valueOf (chosenL a keepCalls) 13)]) rfl (fun w => by kernel_rfl) rfl ?_)
    refine wl_op rfl (op_buildSlice (cs := #[.int .i64 8, .int .i64 (if (fun x => x) (valueOf (chosenL a keepCalls) 8) < (fun x => x) (valueOf (chosenL b keepCalls) 8) then (valueOf (chosenL b keepCalls) 8) else (valueOf (chosenL a keepCalls) 8)), .int .i64 9, .int .i64 (if strengthI (valueOf (chosenL a keepCalls) 9) < strengthI (valueOf (chosenL b keepCalls) 9) then (valueOf (chosenL b keepCalls) 9) else (valueOf (chosenL a keepCalls) 9)), .int .i64 10, .int .i64 (valueOf (chosenL a keepCalls) 10), .int .i64 11, .int .i64 (valueOf (chosenL a keepCalls) 11), .int .i64 12, .int .i64 (valueOf (chosenL a keepCalls) 12), .int .i64 13, .int .i64 (valueOf (chosenL a keepCalls) 13)]) (e := 37) rfl (fun w => by kernel_rfl) rfl ?_)
    intro W66 b67 hN68
    have hb69 : W66.heap[b67]? = some (.cells #[.int .i64 8, .int .i64 (if (fun x => x) (valueOf (chosenL a keepCalls) 8) < (fun x => x) (valueOf (chosenL b keepCalls) 8) then (valueOf (chosenL b keepCalls) 8) else (valueOf (chosenL a keepCalls) 8)), .int .i64 9, .int .i64 (if strengthI (valueOf (chosenL a keepCalls) 9) < strengthI (valueOf (chosenL b keepCalls) 9) then (valueOf (chosenL b keepCalls) 9) else (valueOf (chosenL a keepCalls) 9)), .int .i64 10, .int .i64 (valueOf (chosenL a keepCalls) 10), .int .i64 11, .int .i64 (valueOf (chosenL a keepCalls) 11), .int .i64 12, .int .i64 (valueOf (chosenL a keepCalls) 12), .int .i64 13, .int .i64 (valueOf (chosenL a keepCalls) 13)] 37 (0, 0)) := hN68.blk
    refine wl_op rfl (op_assign rfl rfl ?_)
    refine (wl_done (then_norm ?_))
    refine WC.sub [(4, .slice none 0 0), (5, .int .i64 0), (6, .int .i64 0), (8, .int .i64 (chosenE a)), (9, .slice A120 n121 c122), (11, .slice (some ⟨b67, 0, none⟩) 6 6)] ⟨rfl, rfl, rfl, rfl, rfl, rfl, trivial⟩ ?_
    refine wc_join (fun l' w' => Sub [(4, .slice none 0 0), (5, .int .i64 0), (6, .int .i64 0), (8, .int .i64 (chosenE a)), (9, .slice A120 n121 c122), (11, .slice (some ⟨b67, 0, none⟩) 6 6)] l' ∧ Below W64.heap.size W64 w' ∧ w'.heap[b67]? = some (.cells #[.int .i64 8, .int .i64 (if (fun x => x) (valueOf (chosenL a keepCalls) 8) < (fun x => x) (valueOf (chosenL b keepCalls) 8) then (valueOf (chosenL b keepCalls) 8) else (valueOf (chosenL a keepCalls) 8)), .int .i64 9, .int .i64 (if strengthI (valueOf (chosenL a keepCalls) 9) < strengthI (valueOf (chosenL b keepCalls) 9) then (valueOf (chosenL b keepCalls) 9) else (valueOf (chosenL a keepCalls) 9)), .int .i64 10, .int .i64 (limitOf (agC a) (agC b)), .int .i64 11, .int .i64 (valueOf (chosenL a keepCalls) 11), .int .i64 12, .int .i64 (valueOf (chosenL a keepCalls) 12), .int .i64 13, .int .i64 (valueOf (chosenL a keepCalls) 13)] 37 (0, 0))) ?_ ?_
    · refine wc_seq ?_
      refine wc_region ?_
      refine wl_op rfl (op_move rfl rfl ?_)
      have hB71 : Below W24.heap.size W24 W66 := (below_new (below_step (below_step (below_step (below_step (below_step (below_step hB49 hE51) hE53) hE56) hE59) hE62) hE65) hN68)
      refine wl_op rfl (op_call ent40 rfl (value_spec (hp23.ext (flat_lifts _) hB71) (asc_chosen hvb _) (by omega) (by omega)) rfl ?_)
      rintro _ W72 ⟨rfl, hE73⟩
      refine wl_op rfl (op_assign rfl rfl ?_)
      refine (wl_done (then_norm ?_))
      refine wc_seq ?_
      refine wc_text [(4, .slice none 0 0), (5, .int .i64 0), (6, .int .i64 0), (8, .int .i64 (chosenE a)), (9, .slice A120 n121 c122), (11, .slice (some ⟨b67, 0, none⟩) 6 6), (12, .int .i64 (valueOf (chosenL b keepCalls) 10))] ⟨rfl, rfl, rfl, rfl, rfl, rfl, rfl, trivial⟩ [fun v _ => v = .int .i64 (valueOf (chosenL b keepCalls) 10), fun v _ => v = .bool (decide (0 < valueOf (chosenL b keepCalls) 10)), fun v _ => v = .bool (decide (0 < valueOf (chosenL b keepCalls) 10)), fun v _ => v = (bif (decide (0 < valueOf (chosenL b keepCalls) 10)) then (.slice (some ⟨b67, 0, none⟩) 6 6) else undef), fun v _ => v = (bif (decide (0 < valueOf (chosenL b keepCalls) 10)) then (.pointer (some ⟨b67, 4, none⟩)) else undef), fun v _ => v = (bif (decide (0 < valueOf (chosenL b keepCalls) 10)) then (.pointer (some ⟨b67, 4 + 1, none⟩)) else undef), fun v _ => v = (bif (decide (0 < valueOf (chosenL b keepCalls) 10)) then (.int .i64 (valueOf (chosenL a keepCalls) 10)) else undef), fun v _ => v = (bif (decide (0 < valueOf (chosenL b keepCalls) 10)) then (.bool (decide (valueOf (chosenL a keepCalls) 10 = 0))) else undef), fun v _ => v = (bif (decide (0 < valueOf (chosenL b keepCalls) 10)) then (.bool (decide (valueOf (chosenL a keepCalls) 10 = 0))) else undef), fun v _ => v = (bif ((decide (0 < valueOf (chosenL b keepCalls) 10)) && (!(decide (valueOf (chosenL a keepCalls) 10 = 0)))) then (.int .i64 (valueOf (chosenL b keepCalls) 10)) else undef), fun v _ => v = (bif ((decide (0 < valueOf (chosenL b keepCalls) 10)) && (!(decide (valueOf (chosenL a keepCalls) 10 = 0)))) then (.slice (some ⟨b67, 0, none⟩) 6 6) else undef), fun v _ => v = (bif ((decide (0 < valueOf (chosenL b keepCalls) 10)) && (!(decide (valueOf (chosenL a keepCalls) 10 = 0)))) then (.pointer (some ⟨b67, 4, none⟩)) else undef), fun v _ => v = (bif ((decide (0 < valueOf (chosenL b keepCalls) 10)) && (!(decide (valueOf (chosenL a keepCalls) 10 = 0)))) then (.pointer (some ⟨b67, 4 + 1, none⟩)) else undef), fun v _ => v = (bif ((decide (0 < valueOf (chosenL b keepCalls) 10)) && (!(decide (valueOf (chosenL a keepCalls) 10 = 0)))) then (.int .i64 (valueOf (chosenL a keepCalls) 10)) else undef), fun v _ => v = (bif ((decide (0 < valueOf (chosenL b keepCalls) 10)) && (!(decide (valueOf (chosenL a keepCalls) 10 = 0)))) then (.bool (decide (valueOf (chosenL b keepCalls) 10 < valueOf (chosenL a keepCalls) 10))) else undef), fun v _ => v = (bif (decide (0 < valueOf (chosenL b keepCalls) 10)) then (.bool ((decide (valueOf (chosenL a keepCalls) 10 = 0)) || (decide (valueOf (chosenL b keepCalls) 10 < valueOf (chosenL a keepCalls) 10)))) else undef), fun v _ => v = .bool ((decide (0 < valueOf (chosenL b keepCalls) 10)) && ((decide (valueOf (chosenL a keepCalls) 10 = 0)) || (decide (valueOf (chosenL b keepCalls) 10 < valueOf (chosenL a keepCalls) 10))))] [[], [0], [1], [2], [2, 3], [2, 4], [2, 5], [2, 6], [2, 7], [8], [8], [8, 10], [8, 11], [8, 12], [8, 9, 13], [2, 8, 14], [2, 15]] [16] rfl rfl rfl ⟨fun _ _ _ _ h => h, fun _ _ _ _ h => h, fun _ _ _ _ h => h, fun _ _ _ _ h => h, fun _ _ _ _ h => h, fun _ _ _ _ h => h, fun _ _ _ _ h => h, fun _ _ _ _ h => h, fun _ _ _ _ h => h, fun _ _ _ _ h => h, fun _ _ _ _ h => h, fun _ _ _ _ h => h, fun _ _ _ _ h => h, fun _ _ _ _ h => h, fun _ _ _ _ h => h, fun _ _ _ _ h => h, fun _ _ _ _ h => h, trivial⟩ ⟨?_, ?_, ?_, ?_, ?_, ?_, ?_, ?_, ?_, ?_, ?_, ?_, ?_, ?_, ?_, ?_, ?_, trivial⟩ ?_
      · intro W74 hW75
        refine gather_nil ?_
        refine opg_none rfl ?_
        exact op_move rfl rfl ⟨told rfl rfl rfl, (Below.refl _ _)⟩
      · intro W74 hW75
        rintro _ rfl
        refine gather_nil ?_
        refine opg_none rfl ?_
        exact op_gtr rfl rfl rfl ⟨told rfl rfl rfl, (Below.refl _ _)⟩
      · intro W74 hW75
        rintro _ rfl
        refine gather_nil ?_
        refine opg_none rfl ?_
        exact op_move rfl rfl ⟨told rfl rfl rfl, (Below.refl _ _)⟩
      · intro W74 hW75
        rintro _ rfl
        refine gather_nil ?_
        refine opg_t1 rfl rfl (fun hg78 => ?_) (fun h => by rw [h, cond_false])
        exact op_move rfl rfl ⟨told rfl rfl (by rw [hg78, cond_true]), (Below.refl _ _)⟩
      · intro W74 hW75
        rintro _ rfl
        intro v79 (hv80 : v79 = bif (decide (0 < valueOf (chosenL b keepCalls) 10)) then (.slice (some ⟨b67, 0, none⟩) 6 6) else undef)
        refine gather_nil ?_
        refine opg_t1 rfl rfl (fun hg81 => ?_) (fun h => by rw [h, cond_false])
        have hd82 := of_decide_eq_true hg81
        obtain rfl : v79 = .slice (some ⟨b67, 0, none⟩) 6 6 := by rw [hv80, hg81, cond_true]
        exact op_indexAddr (b := b67) (o := 0) (j := 2) rfl rfl und22 sz46 rfl rfl (by omega) rfl ⟨told rfl rfl (by rw [hg81, cond_true]), (Below.refl _ _)⟩
      · intro W74 hW75
        rintro _ rfl
        intro v83 (hv84 : v83 = bif (decide (0 < valueOf (chosenL b keepCalls) 10)) then (.pointer (some ⟨b67, 4, none⟩)) else undef)
        refine gather_nil ?_
        refine opg_t1 rfl rfl (fun hg85 => ?_) (fun h => by rw [h, cond_false])
        obtain rfl : v83 = .pointer (some ⟨b67, 4, none⟩) := by rw [hv84, hg85, cond_true]
        exact op_fieldAddr rfl fa46_1 rfl ⟨told rfl rfl (by rw [hg85, cond_true]), (Below.refl _ _)⟩
      · intro W74 hW75
        rintro _ rfl
        intro v86 (hv87 : v86 = bif (decide (0 < valueOf (chosenL b keepCalls) 10)) then (.pointer (some ⟨b67, 4 + 1, none⟩)) else undef)
        refine gather_nil ?_
        refine opg_t1 rfl rfl (fun hg88 => ?_) (fun h => by rw [h, cond_false])
        have hd89 := of_decide_eq_true hg88
        obtain rfl : v86 = .pointer (some ⟨b67, 4 + 1, none⟩) := by rw [hv87, hg88, cond_true]
        have hb90 : W74.heap[b67]? = some (.cells #[.int .i64 8, .int .i64 (if (fun x => x) (valueOf (chosenL a keepCalls) 8) < (fun x => x) (valueOf (chosenL b keepCalls) 8) then (valueOf (chosenL b keepCalls) 8) else (valueOf (chosenL a keepCalls) 8)), .int .i64 9, .int .i64 (if strengthI (valueOf (chosenL a keepCalls) 9) < strengthI (valueOf (chosenL b keepCalls) 9) then (valueOf (chosenL b keepCalls) 9) else (valueOf (chosenL a keepCalls) 9)), .int .i64 10, .int .i64 (valueOf (chosenL a keepCalls) 10), .int .i64 11, .int .i64 (valueOf (chosenL a keepCalls) 11), .int .i64 12, .int .i64 (valueOf (chosenL a keepCalls) 12), .int .i64 13, .int .i64 (valueOf (chosenL a keepCalls) 13)] 37 (0, 0)) := (blk_ext (blk_ext hb69 hE73) hW75)
        exact op_load1 (v := .int .i64 (valueOf (chosenL a keepCalls) 10)) rfl agg3 (cell_blk hb90 rfl) rfl ⟨told rfl rfl (by rw [hg88, cond_true]), (Below.refl _ _)⟩
      · intro W74 hW75
        rintro _ rfl
        intro v91 (hv92 : v91 = bif (decide (0 < valueOf (chosenL b keepCalls) 10)) then (.int .i64 (valueOf (chosenL a keepCalls) 10)) else undef)
        refine gather_nil ?_
        refine opg_t1 rfl rfl (fun hg93 => ?_) (fun h => by rw [h, cond_false])
        have hd94 := of_decide_eq_true hg93
        obtain rfl : v91 = .int .i64 (valueOf (chosenL a keepCalls) 10) := by rw [hv92, hg93, cond_true]
        exact op_eql rfl rfl rfl ⟨told rfl rfl (by rw [hg93, cond_true]), (Below.refl _ _)⟩
      · intro W74 hW75
        rintro _ rfl
        intro v95 (hv96 : v95 = bif (decide (0 < valueOf (chosenL b keepCalls) 10)) then (.bool (decide (valueOf (chosenL a keepCalls) 10 = 0))) else undef)
        refine gather_nil ?_
        refine opg_t1 rfl rfl (fun hg97 => ?_) (fun h => by rw [h, cond_false])
        obtain rfl : v95 = .bool (decide (valueOf (chosenL a keepCalls) 10 = 0)) := by rw [hv96, hg97, cond_true]
        exact op_move rfl rfl ⟨told rfl rfl (by rw [hg97, cond_true]), (Below.refl _ _)⟩
      · intro W74 hW75
        intro v98 (hv99 : v98 = bif (decide (0 < valueOf (chosenL b keepCalls) 10)) then (.bool (decide (valueOf (chosenL a keepCalls) 10 = 0))) else undef)
        refine gather_nil ?_
        refine opg_f rfl rfl hv99 (fun hg100 => ?_) (fun h => by rw [h, cond_false])
        obtain rfl : v98 = .bool (decide (valueOf (chosenL a keepCalls) 10 = 0)) := by rw [hv99, (and_l hg100), cond_true]
        exact op_move rfl rfl ⟨told rfl rfl (by rw [hg100, cond_true]), (Below.refl _ _)⟩
      · intro W74 hW75
        intro v101 (hv102 : v101 = bif (decide (0 < valueOf (chosenL b keepCalls) 10)) then (.bool (decide (valueOf (chosenL a keepCalls) 10 = 0))) else undef)
        refine gather_nil ?_
        refine opg_f rfl rfl hv102 (fun hg103 => ?_) (fun h => by rw [h, cond_false])
        obtain rfl : v101 = .bool (decide (valueOf (chosenL a keepCalls) 10 = 0)) := by rw [hv102, (and_l hg103), cond_true]
        exact op_move rfl rfl ⟨told rfl rfl (by rw [hg103, cond_true]), (Below.refl _ _)⟩
      · intro W74 hW75
        intro v104 (hv105 : v104 = bif (decide (0 < valueOf (chosenL b keepCalls) 10)) then (.bool (decide (valueOf (chosenL a keepCalls) 10 = 0))) else undef)
        intro v106 (hv107 : v106 = bif ((decide (0 < valueOf (chosenL b keepCalls) 10)) && (!(decide (valueOf (chosenL a keepCalls) 10 = 0)))) then (.slice (some ⟨b67, 0, none⟩) 6 6) else undef)
        refine gather_nil ?_
        refine opg_f rfl rfl hv105 (fun hg108 => ?_) (fun h => by rw [h, cond_false])
        have hd109 := of_decide_eq_true (and_l hg108)
        have hd110 := of_decide_eq_false (not_t (and_r hg108))
        obtain rfl : v104 = .bool (decide (valueOf (chosenL a keepCalls) 10 = 0)) := by rw [hv105, (and_l hg108), cond_true]
        obtain rfl : v106 = .slice (some ⟨b67, 0, none⟩) 6 6 := by rw [hv107, hg108, cond_true]
        exact op_indexAddr (b := b67) (o := 0) (j := 2) rfl rfl und22 sz46 rfl rfl (by omega) rfl ⟨told rfl rfl (by rw [hg108, cond_true]), (Below.refl _ _)⟩
      · intro W74 hW75
        intro v111 (hv112 : v111 = bif (decide (0 < valueOf (chosenL b keepCalls) 10)) then (.bool (decide (valueOf (chosenL a keepCalls) 10 = 0))) else undef)
        intro v113 (hv114 : v113 = bif ((decide (0 < valueOf (chosenL b keepCalls) 10)) && (!(decide (valueOf (chosenL a keepCalls) 10 = 0)))) then (.pointer (some ⟨b67, 4, none⟩)) else undef)
        refine gather_nil ?_
        refine opg_f rfl rfl hv112 (fun hg115 => ?_) (fun h => by rw [h, cond_false])
        obtain rfl : v111 = .bool (decide (valueOf (chosenL a keepCalls) 10 = 0)) := by rw [hv112, (and_l hg115), cond_true]
        obtain rfl : v113 = .pointer (some ⟨b67, 4, none⟩) := by rw [hv114, hg115, cond_true]
        exact op_fieldAddr rfl fa46_1 rfl ⟨told rfl rfl (by rw [hg115, cond_true]), (Below.refl _ _)⟩
      · intro W74 hW75
        intro v116 (hv117 : v116 = bif (decide (0 < valueOf (chosenL b keepCalls) 10)) then (.bool (decide (valueOf (chosenL a keepCalls) 10 = 0))) else undef)
        intro v118 (hv119 : v118 = bif ((decide (0 < valueOf (chosenL b keepCalls) 10)) && (!(decide (valueOf (chosenL a keepCalls) 10 = 0)))) then (.pointer (some ⟨b67, 4 + 1, none⟩)) else undef)
        refine gather_nil ?_
        refine opg_f rfl rfl hv117 (fun hg120 => ?_) (fun h => by rw [h, cond_false])
        have hd121 := of_decide_eq_true (and_l hg120)
        have hd122 := of_decide_eq_false (not_t (and_r hg120))
        obtain rfl : v116 = .bool (decide (valueOf (chosenL a keepCalls) 10 = 0)) := by rw [hv117, (and_l hg120), cond_true]
        obtain rfl : v118 = .pointer (some ⟨b67, 4 + 1, none⟩) := by rw [hv119, hg120, cond_true]
        have hb123 : W74.heap[b67]? = some (.cells #[.int .i64 8, .int .i64 (if (fun x => x) (valueOf (chosenL a keepCalls) 8) < (fun x => x) (valueOf (chosenL b keepCalls) 8) then (valueOf (chosenL b keepCalls) 8) else (valueOf (chosenL a keepCalls) 8)), .int .i64 9, .int .i64 (if strengthI (valueOf (chosenL a keepCalls) 9) < strengthI (valueOf (chosenL b keepCalls) 9) then (valueOf (chosenL b keepCalls) 9) else (valueOf (chosenL a keepCalls) 9)), .int .i64 10, .int .i64 (valueOf (chosenL a keepCalls) 10), .int .i64 11, .int .i64 (valueOf (chosenL a keepCalls) 11), .int .i64 12, .int .i64 (valueOf (chosenL a keepCalls) 12), .int .i64 13, .int .i64 (valueOf (chosenL a keepCalls) 13)] 37 (0, 0)) := (blk_ext (blk_ext hb69 hE73) hW75)
        exact op_load1 (v := .int .i64 (valueOf (chosenL a keepCalls) 10)) rfl agg3 (cell_blk hb123 rfl) rfl ⟨told rfl rfl (by rw [hg120, cond_true]), (Below.refl _ _)⟩
      · intro W74 hW75
        intro v124 (hv125 : v124 = bif (decide (0 < valueOf (chosenL b keepCalls) 10)) then (.bool (decide (valueOf (chosenL a keepCalls) 10 = 0))) else undef)
        intro v126 (hv127 : v126 = bif ((decide (0 < valueOf (chosenL b keepCalls) 10)) && (!(decide (valueOf (chosenL a keepCalls) 10 = 0)))) then (.int .i64 (valueOf (chosenL b keepCalls) 10)) else undef)
        intro v128 (hv129 : v128 = bif ((decide (0 < valueOf (chosenL b keepCalls) 10)) && (!(decide (valueOf (chosenL a keepCalls) 10 = 0)))) then (.int .i64 (valueOf (chosenL a keepCalls) 10)) else undef)
        refine gather_nil ?_
        refine opg_f rfl rfl hv125 (fun hg130 => ?_) (fun h => by rw [h, cond_false])
        have hd131 := of_decide_eq_true (and_l hg130)
        have hd132 := of_decide_eq_false (not_t (and_r hg130))
        obtain rfl : v124 = .bool (decide (valueOf (chosenL a keepCalls) 10 = 0)) := by rw [hv125, (and_l hg130), cond_true]
        obtain rfl : v126 = .int .i64 (valueOf (chosenL b keepCalls) 10) := by rw [hv127, hg130, cond_true]
        obtain rfl : v128 = .int .i64 (valueOf (chosenL a keepCalls) 10) := by rw [hv129, hg130, cond_true]
        exact op_lss rfl rfl rfl ⟨told rfl rfl (by rw [hg130, cond_true]), (Below.refl _ _)⟩
      · intro W74 hW75
        rintro _ rfl
        intro v133 (hv134 : v133 = bif (decide (0 < valueOf (chosenL b keepCalls) 10)) then (.bool (decide (valueOf (chosenL a keepCalls) 10 = 0))) else undef)
        intro v135 (hv136 : v135 = bif ((decide (0 < valueOf (chosenL b keepCalls) 10)) && (!(decide (valueOf (chosenL a keepCalls) 10 = 0)))) then (.bool (decide (valueOf (chosenL b keepCalls) 10 < valueOf (chosenL a keepCalls) 10))) else undef)
        refine gather_nil ?_
        refine opg_t1 rfl rfl (fun hg137 => ?_) (fun h => by rw [h, cond_false])
        obtain rfl : v133 = .bool (decide (valueOf (chosenL a keepCalls) 10 = 0)) := by rw [hv134, hg137, cond_true]
        exact op_or rfl rfl rfl (fun h => by rw [hv136, (and_i hg137 (not_i h)), cond_true]) rfl ⟨told rfl rfl (by rw [hg137, cond_true]), (Below.refl _ _)⟩
      · intro W74 hW75
        rintro _ rfl
        intro v138 (hv139 : v138 = bif (decide (0 < valueOf (chosenL b keepCalls) 10)) then (.bool ((decide (valueOf (chosenL a keepCalls) 10 = 0)) || (decide (valueOf (chosenL b keepCalls) 10 < valueOf (chosenL a keepCalls) 10)))) else undef)
        refine gather_nil ?_
        refine opg_none rfl ?_
        exact op_and rfl rfl rfl (fun h => by rw [hv139, h, cond_true]) rfl ⟨told rfl rfl rfl, (Below.refl _ _)⟩
      intro W140 hW141
      rintro _ rfl
      refine gather_nil ?_
      refine (then_norm ?_)
      refine wc_cond (b := (decide (0 < valueOf (chosenL b keepCalls) 10)) && ((decide (valueOf (chosenL a keepCalls) 10 = 0)) || (decide (valueOf (chosenL b keepCalls) 10 < valueOf (chosenL a keepCalls) 10)))) rfl (fun hc142 => ?_) (fun hc142 => ?_)
      · refine wc_region ?_
        refine wl_op rfl (op_move rfl rfl ?_)
        refine wl_op rfl (op_move rfl rfl ?_)
        refine wl_op rfl (op_indexAddr (b := b67) (o := 0) (j := 2) rfl rfl und22 sz46 rfl rfl (by omega) rfl ?_)
        refine wl_op rfl (op_fieldAddr rfl fa46_1 rfl ?_)
        have hb143 : W140.heap[b67]? = some (.cells #[.int .i64 8, .int .i64 (if (fun x => x) (valueOf (chosenL a keepCalls) 8) < (fun x => x) (valueOf (chosenL b keepCalls) 8) then (valueOf (chosenL b keepCalls) 8) else (valueOf (chosenL a keepCalls) 8)), .int .i64 9, .int .i64 (if strengthI (valueOf (chosenL a keepCalls) 9) < strengthI (valueOf (chosenL b keepCalls) 9) then (valueOf (chosenL b keepCalls) 9) else (valueOf (chosenL a keepCalls) 9)), .int .i64 10, .int .i64 (valueOf (chosenL a keepCalls) 10), .int .i64 11, .int .i64 (valueOf (chosenL a keepCalls) 11), .int .i64 12, .int .i64 (valueOf (chosenL a keepCalls) 12), .int .i64 13, .int .i64 (valueOf (chosenL a keepCalls) 13)] 37 (0, 0)) := (blk_ext (blk_ext hb69 hE73) hW141)
        refine wl_op rfl (op_store rfl rfl sz3 hb143 rfl rfl ?_)
        intro W144 hP145 hb146
        have hb146 : W144.heap[b67]? = some (.cells #[.int .i64 8, .int .i64 (if (fun x => x) (valueOf (chosenL a keepCalls) 8) < (fun x => x) (valueOf (chosenL b keepCalls) 8) then (valueOf (chosenL b keepCalls) 8) else (valueOf (chosenL a keepCalls) 8)), .int .i64 9, .int .i64 (if strengthI (valueOf (chosenL a keepCalls) 9) < strengthI (valueOf (chosenL b keepCalls) 9) then (valueOf (chosenL b keepCalls) 9) else (valueOf (chosenL a keepCalls) 9)), .int .i64 10, .int .i64 (valueOf (chosenL b keepCalls) 10), .int .i64 11, .int .i64 (valueOf (chosenL a keepCalls) 11), .int .i64 12, .int .i64 (valueOf (chosenL a keepCalls) 12), .int .i64 13, .int .i64 (valueOf (chosenL a keepCalls) 13)] 37 (0, 0)) := hb146
        refine (wl_done (then_norm ?_))
        have hl : limitOf (agC a) (agC b) = valueOf (agC b) 10 := by unfold limitOf; rw [if_pos (lim_t hc142)]
        have hB147 : Below W64.heap.size W64 W144 := (hP145.below (below_step (below_step (below_new (Below.refl _ _) hN68) hE73) hW141) (le_new (Below.refl _ _) hN68))
        exact ⟨⟨rfl, rfl, rfl, rfl, rfl, rfl, trivial⟩, hB147, (by rw [hl]; exact hb146)⟩
      · refine wc_skip ?_
        refine (then_norm ?_)
        have hl : limitOf (agC a) (agC b) = valueOf (agC a) 10 := by unfold limitOf; rw [if_neg (lim_f hc142)]
        have hb148 : W140.heap[b67]? = some (.cells #[.int .i64 8, .int .i64 (if (fun x => x) (valueOf (chosenL a keepCalls) 8) < (fun x => x) (valueOf (chosenL b keepCalls) 8) then (valueOf (chosenL b keepCalls) 8) else (valueOf (chosenL a keepCalls) 8)), .int .i64 9, .int .i64 (if strengthI (valueOf (chosenL a keepCalls) 9) < strengthI (valueOf (chosenL b keepCalls) 9) then (valueOf (chosenL b keepCalls) 9) else (valueOf (chosenL a keepCalls) 9)), .int .i64 10, .int .i64 (valueOf (chosenL a keepCalls) 10), .int .i64 11, .int .i64 (valueOf (chosenL a keepCalls) 11), .int .i64 12, .int .i64 (valueOf (chosenL a keepCalls) 12), .int .i64 13, .int .i64 (valueOf (chosenL a keepCalls) 13)] 37 (0, 0)) := (blk_ext (blk_ext hb69 hE73) hW141)
        have hB149 : Below W64.heap.size W64 W140 := (below_step (below_step (below_new (Below.refl _ _) hN68) hE73) hW141)
        exact ⟨⟨rfl, rfl, rfl, rfl, rfl, rfl, trivial⟩, hB149, (by rw [hl]; exact hb148)⟩
    · rintro l' W70 ⟨hsub, hE150, hb151⟩
      refine WC.sub _ hsub ?_
      refine wc_seq ?_
      refine wc_seq ?_
      refine wc_draw mixed [(4, .slice none 0 0), (5, .int .i64 0), (6, .int .i64 0), (8, .int .i64 (chosenE a)), (9, .slice A120 n121 c122), (11, .slice (some ⟨b67, 0, none⟩) 6 6)] ⟨rfl, rfl, rfl, rfl, rfl, rfl, trivial⟩ [fun v _ => v = .slice (some ⟨b67, 0, none⟩) 6 6, fun v _ => v = .pointer (some ⟨b67, 6, none⟩), fun v _ => v = .pointer (some ⟨b67, 6 + 1, none⟩), fun v _ => v = .int .i64 (valueOf (chosenL a keepCalls) 11), fun v _ => v = .slice A120 n121 c122, fun v _ => v = .int .i64 (valueOf (chosenL b keepCalls) 11), fun v _ => v = .bool (decide (valueOf (chosenL b keepCalls) 11 < valueOf (chosenL a keepCalls) 11))] [[], [0], [1], [2], [], [4], [3, 5]] [6] rfl rfl rfl ⟨fun _ _ _ _ h => h, fun _ _ _ _ h => h, fun _ _ _ _ h => h, fun _ _ _ _ h => h, fun _ _ _ _ h => h, fun _ _ _ _ h => h, fun _ _ _ _ h => h, trivial⟩ ⟨?_, ?_, ?_, ?_, ?_, ?_, ?_, trivial⟩ ?_
      · intro W152 hW153
        refine gather_nil ?_
        refine opg_none rfl ?_
        exact op_move rfl rfl ⟨told rfl rfl rfl, (Below.refl _ _)⟩
      · intro W152 hW153
        rintro _ rfl
        refine gather_nil ?_
        refine opg_none rfl ?_
        exact op_indexAddr (b := b67) (o := 0) (j := 3) rfl rfl und22 sz46 rfl rfl (by omega) rfl ⟨told rfl rfl rfl, (Below.refl _ _)⟩
      · intro W152 hW153
        rintro _ rfl
        refine gather_nil ?_
        refine opg_none rfl ?_
        exact op_fieldAddr rfl fa46_1 rfl ⟨told rfl rfl rfl, (Below.refl _ _)⟩
      · intro W152 hW153
        rintro _ rfl
        refine gather_nil ?_
        refine opg_none rfl ?_
        have hb156 : W152.heap[b67]? = some (.cells #[.int .i64 8, .int .i64 (if (fun x => x) (valueOf (chosenL a keepCalls) 8) < (fun x => x) (valueOf (chosenL b keepCalls) 8) then (valueOf (chosenL b keepCalls) 8) else (valueOf (chosenL a keepCalls) 8)), .int .i64 9, .int .i64 (if strengthI (valueOf (chosenL a keepCalls) 9) < strengthI (valueOf (chosenL b keepCalls) 9) then (valueOf (chosenL b keepCalls) 9) else (valueOf (chosenL a keepCalls) 9)), .int .i64 10, .int .i64 (limitOf (agC a) (agC b)), .int .i64 11, .int .i64 (valueOf (chosenL a keepCalls) 11), .int .i64 12, .int .i64 (valueOf (chosenL a keepCalls) 12), .int .i64 13, .int .i64 (valueOf (chosenL a keepCalls) 13)] 37 (0, 0)) := (blk_ext hb151 hW153)
        exact op_load1 (v := .int .i64 (valueOf (chosenL a keepCalls) 11)) rfl agg3 (cell_blk hb156 rfl) rfl ⟨told rfl rfl rfl, (Below.refl _ _)⟩
      · intro W152 hW153
        refine gather_nil ?_
        refine opg_none rfl ?_
        exact op_move rfl rfl ⟨told rfl rfl rfl, (Below.refl _ _)⟩
      · intro W152 hW153
        rintro _ rfl
        refine gather_nil ?_
        refine opg_none rfl ?_
        have hB157 : Below W24.heap.size W24 W152 := (below_step (below_step (below_step (below_step (below_step (below_step (below_step (below_step hB49 hE51) hE53) hE56) hE59) hE62) hE65) hE150) hW153)
        refine op_call ent40 rfl (value_spec (hp23.ext (flat_lifts _) hB157) (asc_chosen hvb _) (by omega) (by omega)) rfl ?_
        rintro _ W158 ⟨rfl, hE159⟩
        exact ⟨told rfl rfl rfl, hE159⟩
      · intro W152 hW153
        rintro _ rfl
        rintro _ rfl
        refine gather_nil ?_
        refine opg_none rfl ?_
        exact op_gtr rfl rfl rfl ⟨told rfl rfl rfl, (Below.refl _ _)⟩
      intro W160 hW161
      rintro _ rfl
      refine gather_nil ?_
      refine (then_norm ?_)
      refine wc_cond (b := decide (valueOf (chosenL b keepCalls) 11 < valueOf (chosenL a keepCalls) 11)) rfl (fun hc162 => ?_) (fun hc162 => ?_)
      · have hc162r := hc162
        have hc162 := of_decide_eq_true hc162
        refine wc_seq ?_
        refine wc_region ?_
        refine wl_op rfl (op_assign rfl rfl ?_)
        refine wl_op rfl (op_assign rfl rfl ?_)
        refine wl_op rfl (op_assign rfl rfl ?_)
        refine (wl_done (then_norm ?_))
        refine wc_ret ?_
        refine (then_ret ?_)
        have hB163 : Below w.heap.size w W160 := (below_step (below_step (below_step (below_step (below_step (below_step (below_step (below_step (below_step (below_step (below_step (below_step (below_step (below_step hB19 hE25) hW35) hE40) hE43) hE45) hE48) hE51) hE53) hE56) hE59) hE62) hE65) hE150) hW161)
        have hag := agree_route hva hvb hc162
        refine ⟨[_, _, _], ⟨rfl, rfl, rfl, trivial⟩, ⟨none, 0, 0, ?_, (by rw [hag]; exact rd_nil _ _ _), hB163⟩⟩
        rw [hag]
        rfl
      · have hc162r := hc162
        have hc162 := of_decide_eq_false hc162
        refine wc_skip ?_
        refine (then_norm ?_)
        refine wc_join (fun l' w' => Sub [(4, .slice none 0 0), (5, .int .i64 0), (6, .int .i64 0), (8, .int .i64 (chosenE a)), (9, .slice A120 n121 c122), (11, .slice (some ⟨b67, 0, none⟩) 6 6)] l' ∧ Below W64.heap.size W64 w' ∧ w'.heap[b67]? = some (.cells #[.int .i64 8, .int .i64 (if (fun x => x) (valueOf (chosenL a keepCalls) 8) < (fun x => x) (valueOf (chosenL b keepCalls) 8) then (valueOf (chosenL b keepCalls) 8) else (valueOf (chosenL a keepCalls) 8)), .int .i64 9, .int .i64 (if strengthI (valueOf (chosenL a keepCalls) 9) < strengthI (valueOf (chosenL b keepCalls) 9) then (valueOf (chosenL b keepCalls) 9) else (valueOf (chosenL a keepCalls) 9)), .int .i64 10, .int .i64 (limitOf (agC a) (agC b)), .int .i64 11, .int .i64 (valueOf (chosenL a keepCalls) 11), .int .i64 12, .int .i64 (prioOf (agC a) (agC b)), .int .i64 13, .int .i64 (valueOf (chosenL a keepCalls) 13)] 37 (0, 0))) ?_ ?_
        · refine wc_seq ?_
          refine wc_region ?_
          refine wl_op rfl (op_move rfl rfl ?_)
          have hB165 : Below W24.heap.size W24 W160 := (below_step (below_step (below_step (below_step (below_step (below_step (below_step (below_step hB49 hE51) hE53) hE56) hE59) hE62) hE65) hE150) hW161)
          refine wl_op rfl (op_call ent45 rfl (ContainsFunc_spec (hp23.ext (flat_lifts _) hB165) ent46 (fun W a b hm hW => Agree2_spec) (keep := fun p => decide (p.kind = 12))) rfl ?_)
          rintro _ W166 ⟨rfl, hE167⟩
          refine (wl_done (then_norm ?_))
          refine wc_cond (b := (chosenL b keepCalls).any (fun p => decide (p.kind = 12))) rfl (fun hc168 => ?_) (fun hc168 => ?_)
          · refine wc_draw_tail 8 mixed [(4, .slice none 0 0), (5, .int .i64 0), (6, .int .i64 0), (8, .int .i64 (chosenE a)), (9, .slice A120 n121 c122), (11, .slice (some ⟨b67, 0, none⟩) 6 6)] ⟨rfl, rfl, rfl, rfl, rfl, rfl, trivial⟩ [fun v _ => v = .slice (some ⟨b67, 0, none⟩) 6 6, fun v _ => v = .slice (some ⟨b67, 0, none⟩) 6 6, fun v _ => v = .pointer (some ⟨b67, 8, none⟩), fun v _ => v = .pointer (some ⟨b67, 8 + 1, none⟩), fun v _ => v = .int .i64 (valueOf (chosenL a keepCalls) 12), fun v _ => v = .slice A120 n121 c122, fun v _ => v = .int .i64 (valueOf (chosenL b keepCalls) 12), fun v _ => v = .int .i64 (if valueOf (chosenL b keepCalls) 12 < valueOf (chosenL a keepCalls) 12 then valueOf (chosenL b keepCalls) 12 else valueOf (chosenL a keepCalls) 12)] [[], [], [1], [2], [3], [], [5], [4, 6]] [0, 7] rfl rfl rfl rfl rfl rfl ⟨fun _ _ _ _ h => h, fun _ _ _ _ h => h, fun _ _ _ _ h => h, fun _ _ _ _ h => h, fun _ _ _ _ h => h, fun _ _ _ _ h => h, fun _ _ _ _ h => h, fun _ _ _ _ h => h, trivial⟩ ⟨?_, ?_, ?_, ?_, ?_, ?_, ?_, ?_, trivial⟩ ?_
            · intro W169 hW170
              refine gather_nil ?_
              refine opg_none rfl ?_
              exact op_move rfl rfl ⟨told rfl rfl rfl, (Below.refl _ _)⟩
            · intro W169 hW170
              refine gather_nil ?_
              refine opg_none rfl ?_
              exact op_move rfl rfl ⟨told rfl rfl rfl, (Below.refl _ _)⟩
            · intro W169 hW170
              rintro _ rfl
              refine gather_nil ?_
              refine opg_none rfl ?_
              exact op_indexAddr (b := b67) (o := 0) (j := 4) rfl rfl und22 sz46 rfl rfl (by omega) rfl ⟨told rfl rfl rfl, (Below.refl _ _)⟩
            · intro W169 hW170
              rintro _ rfl
              refine gather_nil ?_
              refine opg_none rfl ?_
              exact op_fieldAddr rfl fa46_1 rfl ⟨told rfl rfl rfl, (Below.refl _ _)⟩
            · intro W169 hW170
              rintro _ rfl
              refine gather_nil ?_
              refine opg_none rfl ?_
              have hb173 : W169.heap[b67]? = some (.cells #[.int .i64 8, .int .i64 (if (fun x => x) (valueOf (chosenL a keepCalls) 8) < (fun x => x) (valueOf (chosenL b keepCalls) 8) then (valueOf (chosenL b keepCalls) 8) else (valueOf (chosenL a keepCalls) 8)), .int .i64 9, .int .i64 (if strengthI (valueOf (chosenL a keepCalls) 9) < strengthI (valueOf (chosenL b keepCalls) 9) then (valueOf (chosenL b keepCalls) 9) else (valueOf (chosenL a keepCalls) 9)), .int .i64 10, .int .i64 (limitOf (agC a) (agC b)), .int .i64 11, .int .i64 (valueOf (chosenL a keepCalls) 11), .int .i64 12, .int .i64 (valueOf (chosenL a keepCalls) 12), .int .i64 13, .int .i64 (valueOf (chosenL a keepCalls) 13)] 37 (0, 0)) := (blk_ext (blk_ext (blk_ext hb151 hW161) hE167) hW170)
              exact op_load1 (v := .int .i64 (valueOf (chosenL a keepCalls) 12)) rfl agg3 (cell_blk hb173 rfl) rfl ⟨told rfl rfl rfl, (Below.refl _ _)⟩
            · intro W169 hW170
              refine gather_nil ?_
              refine opg_none rfl ?_
              exact op_move rfl rfl ⟨told rfl rfl rfl, (Below.refl _ _)⟩
            · intro W169 hW170
              rintro _ rfl
              refine gather_nil ?_
              refine opg_none rfl ?_
              have hB174 : Below W24.heap.size W24 W169 := (below_step (below_step hB165 hE167) hW170)
              refine op_call ent40 rfl (value_spec (hp23.ext (flat_lifts _) hB174) (asc_chosen hvb _) (by omega) (by omega)) rfl ?_
              rintro _ W175 ⟨rfl, hE176⟩
              exact ⟨told rfl rfl rfl, hE176⟩
            · intro W169 hW170
              rintro _ rfl
              rintro _ rfl
              refine gather_nil ?_
              refine opg_none rfl ?_
              exact op_min rfl rfl rfl rfl ⟨told rfl rfl rfl, (Below.refl _ _)⟩
            intro W177 hW178
            rintro _ rfl
            rintro _ rfl
            refine gather_nil ?_
            refine wl_op rfl (op_indexAddr (b := b67) (o := 0) (j := 4) rfl rfl und22 sz46 rfl rfl (by omega) rfl ?_)
            refine wl_op rfl (op_fieldAddr rfl fa46_1 rfl ?_)
            have hb179 : W177.heap[b67]? = some (.cells #[.int .i64 8, .int .i64 (if (fun x => x) (valueOf (chosenL a keepCalls) 8) < (fun x => x) (valueOf (chosenL b keepCalls) 8) then (valueOf (chosenL b keepCalls) 8) else (valueOf (chosenL a keepCalls) 8)), .int .i64 9, .int .i64 (if strengthI (valueOf (chosenL a keepCalls) 9) < strengthI (valueOf (chosenL b keepCalls) 9) then (valueOf (chosenL b keepCalls) 9) else (valueOf (chosenL a keepCalls) 9)), .int .i64 10, .int .i64 (limitOf (agC a) (agC b)), .int .i64 11, .int .i64 (valueOf (chosenL a keepCalls) 11), .int .i64 12, .int .i64 (valueOf (chosenL a keepCalls) 12), .int .i64 13, .int .i64 (valueOf (chosenL a keepCalls) 13)] 37 (0, 0)) := (blk_ext (blk_ext (blk_ext hb151 hW161) hE167) hW178)
            refine wl_op rfl (op_store rfl rfl sz3 hb179 rfl rfl ?_)
            intro W180 hP181 hb182
            have hb182 : W180.heap[b67]? = some (.cells #[.int .i64 8, .int .i64 (if (fun x => x) (valueOf (chosenL a keepCalls) 8) < (fun x => x) (valueOf (chosenL b keepCalls) 8) then (valueOf (chosenL b keepCalls) 8) else (valueOf (chosenL a keepCalls) 8)), .int .i64 9, .int .i64 (if strengthI (valueOf (chosenL a keepCalls) 9) < strengthI (valueOf (chosenL b keepCalls) 9) then (valueOf (chosenL b keepCalls) 9) else (valueOf (chosenL a keepCalls) 9)), .int .i64 10, .int .i64 (limitOf (agC a) (agC b)), .int .i64 11, .int .i64 (valueOf (chosenL a keepCalls) 11), .int .i64 12, .int .i64 (if valueOf (chosenL b keepCalls) 12 < valueOf (chosenL a keepCalls) 12 then valueOf (chosenL b keepCalls) 12 else valueOf (chosenL a keepCalls) 12), .int .i64 13, .int .i64 (valueOf (chosenL a keepCalls) 13)] 37 (0, 0)) := hb182
            refine (wl_done (then_norm ?_))
            have hl : prioOf (agC a) (agC b) = (if valueOf (agC b) 12 < valueOf (agC a) 12 then valueOf (agC b) 12 else valueOf (agC a) 12) := by unfold prioOf; rw [if_pos hc168]
            have hB183 : Below W64.heap.size W64 W180 := (hP181.below (below_step (below_step (below_step (below_step (Below.refl _ _) hE150) hW161) hE167) hW178) (le_new (Below.refl _ _) hN68))
            exact ⟨⟨rfl, rfl, rfl, rfl, rfl, rfl, trivial⟩, hB183, (by rw [hl]; exact hb182)⟩
          · refine wc_skip ?_
            refine (then_norm ?_)
            have hl : prioOf (agC a) (agC b) = valueOf (agC a) 12 := by unfold prioOf; rw [if_neg (fun h => by rw [show hasPrio (agC b) = false from hc168] at h; cases h)]
            have hb184 : W166.heap[b67]? = some (.cells #[.int .i64 8, .int .i64 (if (fun x => x) (valueOf (chosenL a keepCalls) 8) < (fun x => x) (valueOf (chosenL b keepCalls) 8) then (valueOf (chosenL b keepCalls) 8) else (valueOf (chosenL a keepCalls) 8)), .int .i64 9, .int .i64 (if strengthI (valueOf (chosenL a keepCalls) 9) < strengthI (valueOf (chosenL b keepCalls) 9) then (valueOf (chosenL b keepCalls) 9) else (valueOf (chosenL a keepCalls) 9)), .int .i64 10, .int .i64 (limitOf (agC a) (agC b)), .int .i64 11, .int .i64 (valueOf (chosenL a keepCalls) 11), .int .i64 12, .int .i64 (valueOf (chosenL a keepCalls) 12), .int .i64 13, .int .i64 (valueOf (chosenL a keepCalls) 13)] 37 (0, 0)) := (blk_ext (blk_ext hb151 hW161) hE167)
            have hB185 : Below W64.heap.size W64 W166 := (below_step (below_step (below_step (Below.refl _ _) hE150) hW161) hE167)
            exact ⟨⟨rfl, rfl, rfl, rfl, rfl, rfl, trivial⟩, hB185, (by rw [hl]; exact hb184)⟩
        · rintro l' W164 ⟨hsub, hE186, hb187⟩
          refine WC.sub _ hsub ?_
          refine wc_join (fun l' w' => Sub [(4, .slice none 0 0), (5, .int .i64 0), (6, .int .i64 0), (8, .int .i64 (chosenE a)), (11, .slice (some ⟨b67, 0, none⟩) 6 6)] l' ∧ Below W64.heap.size W64 w' ∧ w'.heap[b67]? = some (.cells #[.int .i64 8, .int .i64 (if (fun x => x) (valueOf (chosenL a keepCalls) 8) < (fun x => x) (valueOf (chosenL b keepCalls) 8) then (valueOf (chosenL b keepCalls) 8) else (valueOf (chosenL a keepCalls) 8)), .int .i64 9, .int .i64 (if strengthI (valueOf (chosenL a keepCalls) 9) < strengthI (valueOf (chosenL b keepCalls) 9) then (valueOf (chosenL b keepCalls) 9) else (valueOf (chosenL a keepCalls) 9)), .int .i64 10, .int .i64 (limitOf (agC a) (agC b)), .int .i64 11, .int .i64 (valueOf (chosenL a keepCalls) 11), .int .i64 12, .int .i64 (prioOf (agC a) (agC b)), .int .i64 13, .int .i64 (orderOf (agC a) (agC b))] 37 (0, 0))) ?_ ?_
          · refine wc_seq ?_
            refine wc_region ?_
            refine wl_op rfl (op_move rfl rfl ?_)
            refine wl_op rfl (op_indexAddr (b := b67) (o := 0) (j := 5) rfl rfl und22 sz46 rfl rfl (by omega) rfl ?_)
            refine wl_op rfl (op_fieldAddr rfl fa46_1 rfl ?_)
            refine wl_op rfl (op_load1 (v := .int .i64 (valueOf (chosenL a keepCalls) 13)) rfl agg3 (cell_blk hb187 rfl) rfl ?_)
            refine wl_op rfl (op_eql rfl rfl rfl ?_)
            refine (wl_done (then_norm ?_))
            refine wc_cond (b := decide (valueOf (chosenL a keepCalls) 13 = 1)) rfl (fun hc189 => ?_) (fun hc189 => ?_)
            · have hc189r := hc189
              have hc189 := of_decide_eq_true hc189
              refine wc_region ?_
              refine wl_op rfl (op_move rfl rfl ?_)
              refine wl_op rfl (op_move rfl rfl ?_)
              have hB190 : Below W24.heap.size W24 W164 := (below_step (below_step (below_step (below_step (below_step (below_step (below_step hB49 hE51) hE53) hE56) hE59) hE62) hE65) hE186)
              refine wl_op rfl (op_call ent40 rfl (value_spec (hp23.ext (flat_lifts _) hB190) (asc_chosen hvb _) (by omega) (by omega)) rfl ?_)
              rintro _ W191 ⟨rfl, hE192⟩
              refine wl_op rfl (op_indexAddr (b := b67) (o := 0) (j := 5) rfl rfl und22 sz46 rfl rfl (by omega) rfl ?_)
              refine wl_op rfl (op_fieldAddr rfl fa46_1 rfl ?_)
              have hb193 : W191.heap[b67]? = some (.cells #[.int .i64 8, .int .i64 (if (fun x => x) (valueOf (chosenL a keepCalls) 8) < (fun x => x) (valueOf (chosenL b keepCalls) 8) then (valueOf (chosenL b keepCalls) 8) else (valueOf (chosenL a keepCalls) 8)), .int .i64 9, .int .i64 (if strengthI (valueOf (chosenL a keepCalls) 9) < strengthI (valueOf (chosenL b keepCalls) 9) then (valueOf (chosenL b keepCalls) 9) else (valueOf (chosenL a keepCalls) 9)), .int .i64 10, .int .i64 (limitOf (agC a) (agC b)), .int .i64 11, .int .i64 (valueOf (chosenL a keepCalls) 11), .int .i64 12, .int .i64 (prioOf (agC a) (agC b)), .int .i64 13, .int .i64 (valueOf (chosenL a keepCalls) 13)] 37 (0, 0)) := (blk_ext hb187 hE192)
              refine wl_op rfl (op_store rfl rfl sz3 hb193 rfl rfl ?_)
              intro W194 hP195 hb196
              have hb196 : W194.heap[b67]? = some (.cells #[.int .i64 8, .int .i64 (if (fun x => x) (valueOf (chosenL a keepCalls) 8) < (fun x => x) (valueOf (chosenL b keepCalls) 8) then (valueOf (chosenL b keepCalls) 8) else (valueOf (chosenL a keepCalls) 8)), .int .i64 9, .int .i64 (if strengthI (valueOf (chosenL a keepCalls) 9) < strengthI (valueOf (chosenL b keepCalls) 9) then (valueOf (chosenL b keepCalls) 9) else (valueOf (chosenL a keepCalls) 9)), .int .i64 10, .int .i64 (limitOf (agC a) (agC b)), .int .i64 11, .int .i64 (valueOf (chosenL a keepCalls) 11), .int .i64 12, .int .i64 (prioOf (agC a) (agC b)), .int .i64 13, .int .i64 (valueOf (chosenL b keepCalls) 13)] 37 (0, 0)) := hb196
              refine (wl_done (then_norm ?_))
              have hl : orderOf (agC a) (agC b) = valueOf (agC b) 13 := by unfold orderOf; rw [if_pos hc189]
              have hB197 : Below W64.heap.size W64 W194 := (hP195.below (below_step (below_step (Below.refl _ _) hE186) hE192) (le_new (Below.refl _ _) hN68))
              exact ⟨⟨rfl, rfl, rfl, rfl, rfl, trivial⟩, hB197, (by rw [hl]; exact hb196)⟩
            · have hc189r := hc189
              have hc189 := of_decide_eq_false hc189
              refine wc_skip ?_
              refine (then_norm ?_)
              have hl : orderOf (agC a) (agC b) = valueOf (agC a) 13 := by unfold orderOf; rw [if_neg hc189]
              have hB198 : Below W64.heap.size W64 W164 := (below_step (Below.refl _ _) hE186)
              exact ⟨⟨rfl, rfl, rfl, rfl, rfl, trivial⟩, hB198, (by rw [hl]; exact hb187)⟩
          · rintro l' W188 ⟨hsub, hE199, hb200⟩
            refine WC.sub _ hsub ?_
            refine wc_seq ?_
            refine wc_seq ?_
            refine wc_region ?_
            refine wl_op rfl (op_move rfl rfl ?_)
            refine wl_op rfl (op_call ent8 rfl (Clashes_spec (rd_of_blk (enc := encP) [(⟨8, if (fun x => x) (valueOf (chosenL a keepCalls) 8) < (fun x => x) (valueOf (chosenL b keepCalls) 8) then (valueOf (chosenL b keepCalls) 8) else (valueOf (chosenL a keepCalls) 8)⟩ : Pol), (⟨9, if strengthI (valueOf (chosenL a keepCalls) 9) < strengthI (valueOf (chosenL b keepCalls) 9) then (valueOf (chosenL b keepCalls) 9) else (valueOf (chosenL a keepCalls) 9)⟩ : Pol), (⟨10, limitOf (agC a) (agC b)⟩ : Pol), (⟨11, valueOf (chosenL a keepCalls) 11⟩ : Pol), (⟨12, prioOf (agC a) (agC b)⟩ : Pol), (⟨13, orderOf (agC a) (agC b)⟩ : Pol)] hb200 (fun _ => rfl) rfl rfl rfl)) rfl ?_)
            rintro _ W205 ⟨A1201, n1202, c1203, rfl, hp204, hE206⟩
            refine wl_op rfl (op_move rfl rfl ?_)
            refine wl_op rfl (op_extract (v := .slice A1201 n1202 c1203) rfl rfl rfl ?_)
            refine wl_op rfl (op_extract (v := .int .i64 (chosenE [(⟨8, if (fun x => x) (valueOf (chosenL a keepCalls) 8) < (fun x => x) (valueOf (chosenL b keepCalls) 8) then (valueOf (chosenL b keepCalls) 8) else (valueOf (chosenL a keepCalls) 8)⟩ : Pol), (⟨9, if strengthI (valueOf (chosenL a keepCalls) 9) < strengthI (valueOf (chosenL b keepCalls) 9) then (valueOf (chosenL b keepCalls) 9) else (valueOf (chosenL a keepCalls) 9)⟩ : Pol), (⟨10, limitOf (agC a) (agC b)⟩ : Pol), (⟨11, valueOf (chosenL a keepCalls) 11⟩ : Pol), (⟨12, prioOf (agC a) (agC b)⟩ : Pol), (⟨13, orderOf (agC a) (agC b)⟩ : Pol)])) rfl rfl rfl ?_)
            refine wl_op rfl (op_assign rfl rfl ?_)
            refine wl_op rfl (op_assign rfl rfl ?_)
            refine (wl_done (then_norm ?_))
            refine WC.sub [(4, .slice none 0 0), (5, .int .i64 0), (6, .int .i64 0), (8, .int .i64 (chosenE a)), (11, .slice (some ⟨b67, 0, none⟩) 6 6), (13, .slice A1201 n1202 c1203)] ⟨rfl, rfl, rfl, rfl, rfl, rfl, trivial⟩ ?_
            refine wc_seq ?_
            refine wc_region ?_
            refine wl_op rfl (op_move rfl rfl ?_)
            refine wl_op rfl (op_len_slice rfl rfl und25 rfl rfl ?_)
            refine wl_op rfl (op_gtr rfl rfl rfl ?_)
            refine (wl_done (then_norm ?_))
            refine wc_cond (b := decide (0 < ((n1202 : Nat) : Int))) rfl (fun hc207 => ?_) (fun hc207 => ?_)
            · have hc207r := hc207
              have hc207 := of_decide_eq_true hc207
              refine wc_seq ?_
              obtain ⟨bs210, os211, hA212, hc213⟩ := hp204.flat
              have hln214 := hp204.len
              have hbd215 := hp204.bd
              obtain ⟨x_hp204_0, hx_hp204_0⟩ : ∃ x, (clashL [(⟨8, if (fun x => x) (valueOf (chosenL a keepCalls) 8) < (fun x => x) (valueOf (chosenL b keepCalls) 8) then (valueOf (chosenL b keepCalls) 8) else (valueOf (chosenL a keepCalls) 8)⟩ : Pol), (⟨9, if strengthI (valueOf (chosenL a keepCalls) 9) < strengthI (valueOf (chosenL b keepCalls) 9) then (valueOf (chosenL b keepCalls) 9) else (valueOf (chosenL a keepCalls) 9)⟩ : Pol), (⟨10, limitOf (agC a) (agC b)⟩ : Pol), (⟨11, valueOf (chosenL a keepCalls) 11⟩ : Pol), (⟨12, prioOf (agC a) (agC b)⟩ : Pol), (⟨13, orderOf (agC a) (agC b)⟩ : Pol)])[0]? = some x := ⟨_, List.getElem?_eq_getElem (by have := hp204.len; omega)⟩
              refine wc_draw mixed [(8, .int .i64 (chosenE a)), (11, .slice (some ⟨b67, 0, none⟩) 6 6), (13, .slice A1201 n1202 c1203)] ⟨rfl, rfl, rfl, trivial⟩ [fun v _ => v = .slice A1201 n1202 c1203, fun v _ => v = .pointer (some ⟨bs210, os211 + 0 * 2, none⟩), fun v _ => v = .pointer (some ⟨bs210, os211 + 0 * 2 + 0 * 1, none⟩), fun v _ => v = .int .i64 x_hp204_0.1, fun v _ => v = .slice none 0 0, fun v _ => v = .int .i64 x_hp204_0.1, fun v _ => v = .int .i64 9] [[], [0], [1], [2], [], [3], []] [4, 5, 6] rfl rfl rfl ⟨fun _ _ _ _ h => h, fun _ _ _ _ h => h, fun _ _ _ _ h => h, fun _ _ _ _ h => h, fun _ _ _ _ h => h, fun _ _ _ _ h => h, fun _ _ _ _ h => h, trivial⟩ ⟨?_, ?_, ?_, ?_, ?_, ?_, ?_, trivial⟩ ?_
              · intro W208 hW209
                refine gather_nil ?_
                refine opg_none rfl ?_
                exact op_move rfl rfl ⟨told rfl rfl rfl, (Below.refl _ _)⟩
              · intro W208 hW209
                rintro _ rfl
                refine gather_nil ?_
                refine opg_none rfl ?_
                exact op_indexAddr (j := 0) rfl rfl und25 sz29 (hA212 (by omega)) rfl (by omega) rfl ⟨told rfl rfl rfl, (Below.refl _ _)⟩
              · intro W208 hW209
                rintro _ rfl
                refine gather_nil ?_
                refine opg_none rfl ?_
                exact op_indexArr (j := 0) rfl rfl und29 sz3 rfl (by omega) rfl ⟨told rfl rfl rfl, (Below.refl _ _)⟩
              · intro W208 hW209
                rintro _ rfl
                refine gather_nil ?_
                refine opg_none rfl ?_
                have hB217 : Below W205.heap.size W205 W208 := (below_step (Below.refl _ _) hW209)
                exact op_load1 (v := .int .i64 x_hp204_0.1) rfl agg3 (((hc213 0 x_hp204_0 hx_hp204_0).ext hB217).at (i := 0) rfl) rfl ⟨told rfl rfl rfl, (Below.refl _ _)⟩
              · intro W208 hW209
                refine gather_nil ?_
                refine opg_none rfl ?_
                exact op_assign rfl rfl ⟨told rfl rfl rfl, (Below.refl _ _)⟩
              · intro W208 hW209
                rintro _ rfl
                refine gather_nil ?_
                refine opg_none rfl ?_
                exact op_assign rfl rfl ⟨told rfl rfl rfl, (Below.refl _ _)⟩
              · intro W208 hW209
                refine gather_nil ?_
                refine opg_none rfl ?_
                exact op_assign rfl rfl ⟨told rfl rfl rfl, (Below.refl _ _)⟩
              intro W218 hW219
              rintro _ rfl
              rintro _ rfl
              rintro _ rfl
              refine gather_nil ?_
              refine (then_norm ?_)
              refine wc_ret ?_
              refine (then_ret ?_)
              have hB220 : Below w.heap.size w W218 := (below_step (below_step (below_step (below_step (below_step (below_step (below_step (below_step (below_step (below_step (below_step (below_step (below_step (below_step (below_step hB19 hE25) hW35) hE40) hE43) hE45) hE48) hE51) hE53) hE56) hE59) hE62) hE65) hE199) hE206) hW219)
              have hag := agree_clash hva hvb hc162 hx_hp204_0
              refine ⟨[_, _, _], ⟨rfl, rfl, rfl, trivial⟩, ⟨none, 0, 0, ?_, (by rw [hag]; exact rd_nil _ _ _), hB220⟩⟩
              rw [hag]
              rfl
            · have hc207r := hc207
              have hc207 := of_decide_eq_false hc207
              have hcl0 : (clashL (agreed (agC a) (agC b))).length = 0 := (show (clashL (agreed (agC a) (agC b))).length = _ from hp204.len).trans (by omega)
              refine wc_skip ?_
              refine (then_norm ?_)
              refine wc_seq ?_
              refine wc_region ?_
              refine wl_op rfl (op_move rfl rfl ?_)
              have hb221 : W205.heap[b67]? = some (.cells #[.int .i64 8, .int .i64 (if (fun x => x) (valueOf (chosenL a keepCalls) 8) < (fun x => x) (valueOf (chosenL b keepCalls) 8) then (valueOf (chosenL b keepCalls) 8) else (valueOf (chosenL a keepCalls) 8)), .int .i64 9, .int .i64 (if strengthI (valueOf (chosenL a keepCalls) 9) < strengthI (valueOf (chosenL b keepCalls) 9) then (valueOf (chosenL b keepCalls) 9) else (valueOf (chosenL a keepCalls) 9)), .int .i64 10, .int .i64 (limitOf (agC a) (agC b)), .int .i64 11, .int .i64 (valueOf (chosenL a keepCalls) 11), .int .i64 12, .int .i64 (prioOf (agC a) (agC b)), .int .i64 13, .int .i64 (orderOf (agC a) (agC b))] 37 (0, 0)) := (blk_ext hb200 hE206)
              refine wl_op rfl (op_call ent21 rfl (Plain_spec (rd_of_blk (enc := encP) [(⟨8, if (fun x => x) (valueOf (chosenL a keepCalls) 8) < (fun x => x) (valueOf (chosenL b keepCalls) 8) then (valueOf (chosenL b keepCalls) 8) else (valueOf (chosenL a keepCalls) 8)⟩ : Pol), (⟨9, if strengthI (valueOf (chosenL a keepCalls) 9) < strengthI (valueOf (chosenL b keepCalls) 9) then (valueOf (chosenL b keepCalls) 9) else (valueOf (chosenL a keepCalls) 9)⟩ : Pol), (⟨10, limitOf (agC a) (agC b)⟩ : Pol), (⟨11, valueOf (chosenL a keepCalls) 11⟩ : Pol), (⟨12, prioOf (agC a) (agC b)⟩ : Pol), (⟨13, orderOf (agC a) (agC b)⟩ : Pol)] hb221 (fun _ => rfl) rfl rfl rfl) (by omega)) rfl ?_)
              rintro _ W226 ⟨A1222, n1223, c1224, rfl, hp225, hE227⟩
              refine wl_op rfl (op_move rfl rfl ?_)
              refine wl_op rfl (op_extract (v := .slice A1222 n1223 c1224) rfl rfl rfl ?_)
              refine wl_op rfl (op_extract (v := .int .i64 (chosenE [(⟨8, if (fun x => x) (valueOf (chosenL a keepCalls) 8) < (fun x => x) (valueOf (chosenL b keepCalls) 8) then (valueOf (chosenL b keepCalls) 8) else (valueOf (chosenL a keepCalls) 8)⟩ : Pol), (⟨9, if strengthI (valueOf (chosenL a keepCalls) 9) < strengthI (valueOf (chosenL b keepCalls) 9) then (valueOf (chosenL b keepCalls) 9) else (valueOf (chosenL a keepCalls) 9)⟩ : Pol), (⟨10, limitOf (agC a) (agC b)⟩ : Pol), (⟨11, valueOf (chosenL a keepCalls) 11⟩ : Pol), (⟨12, prioOf (agC a) (agC b)⟩ : Pol), (⟨13, orderOf (agC a) (agC b)⟩ : Pol)])) rfl rfl rfl ?_)
              refine wl_op rfl (op_assign rfl rfl ?_)
              refine wl_op rfl (op_assign rfl rfl ?_)
              refine (wl_done (then_norm ?_))
              refine WC.sub [(4, .slice none 0 0), (5, .int .i64 0), (6, .int .i64 0), (8, .int .i64 (chosenE [(⟨8, if (fun x => x) (valueOf (chosenL a keepCalls) 8) < (fun x => x) (valueOf (chosenL b keepCalls) 8) then (valueOf (chosenL b keepCalls) 8) else (valueOf (chosenL a keepCalls) 8)⟩ : Pol), (⟨9, if strengthI (valueOf (chosenL a keepCalls) 9) < strengthI (valueOf (chosenL b keepCalls) 9) then (valueOf (chosenL b keepCalls) 9) else (valueOf (chosenL a keepCalls) 9)⟩ : Pol), (⟨10, limitOf (agC a) (agC b)⟩ : Pol), (⟨11, valueOf (chosenL a keepCalls) 11⟩ : Pol), (⟨12, prioOf (agC a) (agC b)⟩ : Pol), (⟨13, orderOf (agC a) (agC b)⟩ : Pol)])), (15, .slice A1222 n1223 c1224)] ⟨rfl, rfl, rfl, rfl, rfl, trivial⟩ ?_
              refine wc_seq ?_
              refine wc_region ?_
              refine wl_op rfl (op_move rfl rfl ?_)
              refine wl_op rfl (op_move rfl rfl ?_)
              refine wl_op rfl (op_assign rfl rfl ?_)
              refine wl_op rfl (op_assign rfl rfl ?_)
              refine wl_op rfl (op_assign rfl rfl ?_)
              refine (wl_done (then_norm ?_))
              refine wc_ret ?_
              have hB228 : Below w.heap.size w W226 := (below_step (below_step (below_step (below_step (below_step (below_step (below_step (below_step (below_step (below_step (below_step (below_step (below_step (below_step (below_step hB19 hE25) hW35) hE40) hE43) hE45) hE48) hE51) hE53) hE56) hE59) hE62) hE65) hE199) hE206) hE227)
              have hag := agree_fine hva hvb hc162 hcl0
              refine ⟨[_, _, _], ⟨rfl, rfl, rfl, trivial⟩, ⟨A1222, n1223, c1224, ?_, (by rw [hag]; exact hp225), hB228⟩⟩
              rw [hag]
              rfl

end Go.Eng



set_option linter.unusedVariables false
set_option maxRecDepth 100000
namespace Go.Eng
open Go.RowKit Go.Shelf Go.Proofs Pol

end Go.Eng



set_option linter.unusedVariables false
set_option maxRecDepth 100000
namespace Go.Eng
open Go.RowKit Go.Shelf Go.Proofs Pol

end Go.Eng



set_option linter.unusedVariables false
set_option maxRecDepth 100000
namespace Go.Eng
open Go.RowKit Go.Shelf Go.Proofs Pol

end Go.Eng



set_option linter.unusedVariables false
set_option maxRecDepth 100000
namespace Go.Eng
open Go.RowKit Go.Shelf Go.Proofs Pol

theorem eq46 {a0 b0 : Int} {a1 b1 : Int} : EqT Tryz.prog 37 [.int .i64 a0, .int .i64 a1] [.int .i64 b0, .int .i64 b1] := ⟨by kernel_rfl, fun w => run_eqFlat (fs := (Tryz.prog.fieldsOf 37).toList) (by kernel_rfl) (by kernel_rfl) (by kernel_rfl) (by kernel_rfl)⟩

structure Hdr where
  A : Option Addr
  n : Nat
  c : Nat
end Go.Eng



set_option linter.unusedVariables false
set_option maxRecDepth 100000
namespace Go.Eng
open Go.RowKit Go.Shelf Go.Proofs Pol

theorem ent10 : Enters Tryz.prog 13 := enters_of Tryz.func13 (by kernel_rfl) rfl
theorem agg29 : AggT Tryz.prog 40 true := fun w => by kernel_rfl
theorem eq29 {a0 b0 : Int} {a1 b1 : Int} : EqT Tryz.prog 40 [.int .i64 a0, .int .i64 a1] [.int .i64 b0, .int .i64 b1] := ⟨by kernel_rfl, fun w => run_eqArr (e := 3) (n := 2) (by kernel_rfl) (by kernel_rfl) (by kernel_rfl) (by kernel_rfl) (by kernel_rfl) (by kernel_rfl)⟩

def exQ : List (Int × Int) := [(5, 6)]
def exP : List Pol := [⟨10, 20⟩]
theorem clashL_ex : clashL [⟨5, 2⟩] = exQ := by decide
theorem chosenE_ex : chosenE [⟨5, 2⟩] = 0 := by decide
theorem agree_ex : agree [⟨10, 50⟩] [⟨10, 20⟩] = (exP, 0, 0) := by decide
theorem agree_ex1 : (agree [⟨10, 50⟩] [⟨10, 20⟩]).1 = exP := by rw [agree_ex]
theorem exQ_len : exQ.length = 1 := rfl
theorem exP_len : exP.length = 1 := rfl
theorem awake_ok {n1 n2 : Nat} {x : Int × Int} {y : Pol} (h1 : n1 = 1) (h2 : n2 = 1) (hx : 0 < exQ.length → exQ[0]? = some x) (hy : 0 < exP.length → exP[0]? = some y) :
    (decide (chosenE [⟨5, 2⟩] = 0) && decide ((n1 : Int) = 1) && (decide (x.1 = 5) && decide (x.2 = 6)) && decide ((agree [⟨10, 50⟩] [⟨10, 20⟩]).2.2 = 0) && decide ((n2 : Int) = 1) && (decide (y.kind = 10) && decide (y.val = 20))) = true := by
  have h3 := hx (by decide); have h4 := hy (by decide)
  cases h3; cases h4; subst h1; subst h2; rw [chosenE_ex, agree_ex]; rfl

theorem awake_spec {w : World} : Ret Tryz.prog 5 #[] w (fun v w' => v = .bool true ∧ Below w.heap.size w w') := by
  refine ret_of (args := []) Tryz.func5 rfl Tryz.ntmps5 rfl (rs := [.tmp 0]) rfl ?_
  refine wc_seq ?_
  refine wc_region ?_
  refine wl_op rfl (op_assign rfl rfl ?_)
  refine (wl_done (then_norm ?_))
  refine wc_seq ?_
  refine wc_region ?_
  refine wl_op rfl (op_build (v := .agg #[.int .i64 5, .int .i64 2]) rfl (fun w => by kernel_rfl) rfl ?_)
  refine wl_op rfl (op_buildSlice (cs := #[.int .i64 5, .int .i64 2]) (e := 37) rfl (fun w => by kernel_rfl) rfl ?_)
  intro W1 b2 hN3
  have hb4 : W1.heap[b2]? = some (.cells #[.int .i64 5, .int .i64 2] 37 (0, 0)) := hN3.blk
  refine wl_op rfl (op_call ent8 rfl (Clashes_spec (rd_of_blk (enc := encP) [(⟨5, 2⟩ : Pol)] hb4 (fun _ => rfl) rfl rfl rfl)) rfl ?_)
  rintro _ W9 ⟨A15, n16, c17, rfl, hp8, hE10⟩
  rw [clashL_ex] at hp8
  have hl1 := hp8.len.symm.trans exQ_len
  refine wl_op rfl (op_move rfl rfl ?_)
  refine wl_op rfl (op_extract (v := .slice A15 n16 c17) rfl rfl rfl ?_)
  refine wl_op rfl (op_extract (v := .int .i64 (chosenE [(⟨5, 2⟩ : Pol)])) rfl rfl rfl ?_)
  refine wl_op rfl (op_assign rfl rfl ?_)
  refine wl_op rfl (op_assign rfl rfl ?_)
  refine (wl_done (then_norm ?_))
  refine WC.sub [(0, .bool false), (1, .slice A15 n16 c17), (2, .int .i64 (chosenE [(⟨5, 2⟩ : Pol)]))] ⟨rfl, rfl, rfl, trivial⟩ ?_
  refine wc_seq ?_
  refine wc_region ?_
  refine wl_op rfl (op_build (v := .agg #[.int .i64 10, .int .i64 50]) rfl (fun w => by kernel_rfl) rfl ?_)
  refine wl_op rfl (op_buildSlice (cs := #[.int .i64 10, .int .i64 50]) (e := 37) rfl (fun w => by kernel_rfl) rfl ?_)
  intro W11 b12 hN13
  have hb14 : W11.heap[b12]? = some (.cells #[.int .i64 10, .int .i64 50] 37 (0, 0)) := hN13.blk
  refine wl_op rfl (op_build (v := .agg #[.int .i64 10, .int .i64 20]) rfl (fun w => by kernel_rfl) rfl ?_)
  refine wl_op rfl (op_buildSlice (cs := #[.int .i64 10, .int .i64 20]) (e := 37) rfl (fun w => by kernel_rfl) rfl ?_)
  intro W15 b16 hN17
  have hb18 : W15.heap[b16]? = some (.cells #[.int .i64 10, .int .i64 20] 37 (0, 0)) := hN17.blk
  have hb19 : W15.heap[b12]? = some (.cells #[.int .i64 10, .int .i64 50] 37 (0, 0)) := (blk_ext hb14 hN17.ext)
  refine wl_op rfl (op_call ent10 rfl (Agree_spec (rd_of_blk (enc := encP) [(⟨10, 50⟩ : Pol)] hb19 (fun _ => rfl) rfl rfl rfl) (rd_of_blk (enc := encP) [(⟨10, 20⟩ : Pol)] hb18 (fun _ => rfl) rfl rfl rfl) (by omega) (by omega)) rfl ?_)
  rintro _ W24 ⟨A120, n121, c122, rfl, hp23, hE25⟩
  rw [agree_ex1] at hp23
  have hl2 := hp23.len.symm.trans exP_len
  refine wl_op rfl (op_move rfl rfl ?_)
  refine wl_op rfl (op_extract (v := .slice A120 n121 c122) rfl rfl rfl ?_)
  refine wl_op rfl (op_extract (v := .int .i64 ((agree [(⟨10, 50⟩ : Pol)] [(⟨10, 20⟩ : Pol)]).2.1)) rfl rfl rfl ?_)
  refine wl_op rfl (op_extract (v := .int .i64 ((agree [(⟨10, 50⟩ : Pol)] [(⟨10, 20⟩ : Pol)]).2.2)) rfl rfl rfl ?_)
  refine wl_op rfl (op_assign rfl rfl ?_)
  refine wl_op rfl (op_assign rfl rfl ?_)
  refine wl_op rfl (op_assign rfl rfl ?_)
  refine (wl_done (then_norm ?_))
  refine WC.sub [(0, .bool false), (1, .slice A15 n16 c17), (2, .int .i64 (chosenE [(⟨5, 2⟩ : Pol)])), (3, .slice A120 n121 c122), (5, .int .i64 ((agree [(⟨10, 50⟩ : Pol)] [(⟨10, 20⟩ : Pol)]).2.2))] ⟨rfl, rfl, rfl, rfl, rfl, trivial⟩ ?_
  refine wc_seq ?_
  obtain ⟨bs28, os29, hA30, hc31⟩ := hp8.flat
  have hln32 := hp8.len
  have hbd33 := hp8.bd
  obtain ⟨x_exQ_0, hx_exQ_0⟩ : ∃ x, (0 < exQ.length → exQ[0]? = some x) := by
    by_cases h : 0 < exQ.length
    · exact ⟨_, fun _ => List.getElem?_eq_getElem h⟩
    · exact ⟨((0, 0) : Int × Int), fun h1 => absurd h1 h⟩
  obtain ⟨bs35, os36, hA37, hc38⟩ := hp23.flat
  have hln39 := hp23.len
  have hbd40 := hp23.bd
  obtain ⟨x_exP_0, hx_exP_0⟩ : ∃ x, (0 < exP.length → exP[0]? = some x) := by
    by_cases h : 0 < exP.length
    · exact ⟨_, fun _ => List.getElem?_eq_getElem h⟩
    · exact ⟨(⟨0, 0⟩ : Pol), fun h1 => absurd h1 h⟩
  refine wc_text [(1, .slice A15 n16 c17), (2, .int .i64 (chosenE [(⟨5, 2⟩ : Pol)])), (3, .slice A120 n121 c122), (5, .int .i64 ((agree [(⟨10, 50⟩ : Pol)] [(⟨10, 20⟩ : Pol)]).2.2))] ⟨rfl, rfl, rfl, rfl, trivial⟩ [fun v _ => v = .int .i64 (chosenE [(⟨5, 2⟩ : Pol)]), fun v _ => v = .bool (decide (chosenE [(⟨5, 2⟩ : Pol)] = 0)), fun v _ => v = .bool (decide (chosenE [(⟨5, 2⟩ : Pol)] = 0)), fun v _ => v = (bif (decide (chosenE [(⟨5, 2⟩ : Pol)] = 0)) then (.slice A15 n16 c17) else undef), fun v _ => v = (bif (decide (chosenE [(⟨5, 2⟩ : Pol)] = 0)) then (.int .i64 ((n16 : Nat) : Int)) else undef), fun v _ => v = (bif (decide (chosenE [(⟨5, 2⟩ : Pol)] = 0)) then (.bool (decide (((n16 : Nat) : Int) = 1))) else undef), fun v _ => v = .bool ((decide (chosenE [(⟨5, 2⟩ : Pol)] = 0)) && (decide (((n16 : Nat) : Int) = 1))), fun v _ => v = .bool ((decide (chosenE [(⟨5, 2⟩ : Pol)] = 0)) && (decide (((n16 : Nat) : Int) = 1))), fun v _ => v = (bif ((decide (chosenE [(⟨5, 2⟩ : Pol)] = 0)) && (decide (((n16 : Nat) : Int) = 1))) then (.slice A15 n16 c17) else undef), fun v _ => v = (bif ((decide (chosenE [(⟨5, 2⟩ : Pol)] = 0)) && (decide (((n16 : Nat) : Int) = 1))) then (.pointer (some ⟨bs28, os29 + 0 * 2, none⟩)) else undef), fun v _ => v = (bif ((decide (chosenE [(⟨5, 2⟩ : Pol)] = 0)) && (decide (((n16 : Nat) : Int) = 1))) then (.agg #[.int .i64 x_exQ_0.1, .int .i64 x_exQ_0.2]) else undef), fun v _ => v = (bif ((decide (chosenE [(⟨5, 2⟩ : Pol)] = 0)) && (decide (((n16 : Nat) : Int) = 1))) then (.agg #[.int .i64 5, .int .i64 6]) else undef), fun v _ => v = (bif ((decide (chosenE [(⟨5, 2⟩ : Pol)] = 0)) && (decide (((n16 : Nat) : Int) = 1))) then (.bool ((decide (x_exQ_0.1 = 5)) && (decide (x_exQ_0.2 = 6)))) else undef), fun v _ => v = .bool (((decide (chosenE [(⟨5, 2⟩ : Pol)] = 0)) && (decide (((n16 : Nat) : Int) = 1))) && ((decide (x_exQ_0.1 = 5)) && (decide (x_exQ_0.2 = 6)))), fun v _ => v = .bool (((decide (chosenE [(⟨5, 2⟩ : Pol)] = 0)) && (decide (((n16 : Nat) : Int) = 1))) && ((decide (x_exQ_0.1 = 5)) && (decide (x_exQ_0.2 = 6)))), fun v _ => v = (bif (((decide (chosenE [(⟨5, 2⟩ : Pol)] = 0)) && (decide (((n16 : Nat) : Int) = 1))) && ((decide (x_exQ_0.1 = 5)) && (decide (x_exQ_0.2 = 6)))) then (.int .i64 ((agree [(⟨10, 50⟩ : Pol)] [(⟨10, 20⟩ : Pol)]).2.2)) else undef), fun v _ => v = (bif (((decide (chosenE [(⟨5, 2⟩ : Pol)] = 0)) && (decide (((n16 : Nat) : Int) = 1))) && ((decide (x_exQ_0.1 = 5)) && (decide (x_exQ_0.2 = 6)))) then (.bool (decide ((agree [(⟨10, 50⟩ : Pol)] [(⟨10, 20⟩ : Pol)]).2.2 = 0))) else undef), fun v _ => v = .bool ((((decide (chosenE [(⟨5, 2⟩ : Pol)] = 0)) && (decide (((n16 : Nat) : Int) = 1))) && ((decide (x_exQ_0.1 = 5)) && (decide (x_exQ_0.2 = 6)))) && (decide ((agree [(⟨10, 50⟩ : Pol)] [(⟨10, 20⟩ : Pol)]).2.2 = 0))), fun v _ => v = .bool ((((decide (chosenE [(⟨5, 2⟩ : Pol)] = 0)) && (decide (((n16 : Nat) : Int) = 1))) && ((decide (x_exQ_0.1 = 5)) && (decide (x_exQ_0.2 = 6)))) && (decide ((agree [(⟨10, 50⟩ : Pol)] [(⟨10, 20⟩ : Pol)]).2.2 = 0))), fun v _ => v = (bif ((((decide (chosenE [(⟨5, 2⟩ : Pol)] = 0)) && (decide (((n16 : Nat) : Int) = 1))) && ((decide (x_exQ_0.1 = 5)) && (decide (x_exQ_0.2 = 6)))) && (decide ((agree [(⟨10, 50⟩ : Pol)] [(⟨10, 20⟩ : Pol)]).2.2 = 0))) then (.slice A120 n121 c122) else undef), fun v _ => v = (bif ((((decide (chosenE [(⟨5, 2⟩ : Pol)] = 0)) && (decide (((n16 : Nat) : Int) = 1))) && ((decide (x_exQ_0.1 = 5)) && (decide (x_exQ_0.2 = 6)))) && (decide ((agree [(⟨10, 50⟩ : Pol)] [(⟨10, 20⟩ : Pol)]).2.2 = 0))) then (.int .i64 ((n121 : Nat) : Int)) else undef), fun v _ => v = (bif ((((decide (chosenE [(⟨5, 2⟩ : Pol)] = 0)) && (decide (((n16 : Nat) : Int) = 1))) && ((decide (x_exQ_0.1 = 5)) && (decide (x_exQ_0.2 = 6)))) && (decide ((agree [(⟨10, 50⟩ : Pol)] [(⟨10, 20⟩ : Pol)]).2.2 = 0))) then (.bool (decide (((n121 : Nat) : Int) = 1))) else undef), fun v _ => v = .bool (((((decide (chosenE [(⟨5, 2⟩ : Pol)] = 0)) && (decide (((n16 : Nat) : Int) = 1))) && ((decide (x_exQ_0.1 = 5)) && (decide (x_exQ_0.2 = 6)))) && (decide ((agree [(⟨10, 50⟩ : Pol)] [(⟨10, 20⟩ : Pol)]).2.2 = 0))) && (decide (((n121 : Nat) : Int) = 1))), fun v _ => v = .bool (((((decide (chosenE [(⟨5, 2⟩ : Pol)] = 0)) && (decide (((n16 : Nat) : Int) = 1))) && ((decide (x_exQ_0.1 = 5)) && (decide (x_exQ_0.2 = 6)))) && (decide ((agree [(⟨10, 50⟩ : Pol)] [(⟨10, 20⟩ : Pol)]).2.2 = 0))) && (decide (((n121 : Nat) : Int) = 1))), fun v _ => v = (bif (((((decide (chosenE [(⟨5, 2⟩ : Pol)] = 0)) && (decide (((n16 : Nat) : Int) = 1))) && ((decide (x_exQ_0.1 = 5)) && (decide (x_exQ_0.2 = 6)))) && (decide ((agree [(⟨10, 50⟩ : Pol)] [(⟨10, 20⟩ : Pol)]).2.2 = 0))) && (decide (((n121 : Nat) : Int) = 1))) then (.slice A120 n121 c122) else undef), fun v _ => v = (bif (((((decide (chosenE [(⟨5, 2⟩ : Pol)] = 0)) && (decide (((n16 : Nat) : Int) = 1))) && ((decide (x_exQ_0.1 = 5)) && (decide (x_exQ_0.2 = 6)))) && (decide ((agree [(⟨10, 50⟩ : Pol)] [(⟨10, 20⟩ : Pol)]).2.2 = 0))) && (decide (((n121 : Nat) : Int) = 1))) then (.pointer (some ⟨bs35, os36 + 0 * 2, none⟩)) else undef), fun v _ => v = (bif (((((decide (chosenE [(⟨5, 2⟩ : Pol)] = 0)) && (decide (((n16 : Nat) : Int) = 1))) && ((decide (x_exQ_0.1 = 5)) && (decide (x_exQ_0.2 = 6)))) && (decide ((agree [(⟨10, 50⟩ : Pol)] [(⟨10, 20⟩ : Pol)]).2.2 = 0))) && (decide (((n121 : Nat) : Int) = 1))) then (.agg #[.int .i64 x_exP_0.kind, .int .i64 x_exP_0.val]) else undef), fun v _ => v = (bif (((((decide (chosenE [(⟨5, 2⟩ : Pol)] = 0)) && (decide (((n16 : Nat) : Int) = 1))) && ((decide (x_exQ_0.1 = 5)) && (decide (x_exQ_0.2 = 6)))) && (decide ((agree [(⟨10, 50⟩ : Pol)] [(⟨10, 20⟩ : Pol)]).2.2 = 0))) && (decide (((n121 : Nat) : Int) = 1))) then (.agg #[.int .i64 10, .int .i64 20]) else undef), fun v _ => v = (bif (((((decide (chosenE [(⟨5, 2⟩ : Pol)] = 0)) && (decide (((n16 : Nat) : Int) = 1))) && ((decide (x_exQ_0.1 = 5)) && (decide (x_exQ_0.2 = 6)))) && (decide ((agree [(⟨10, 50⟩ : Pol)] [(⟨10, 20⟩ : Pol)]).2.2 = 0))) && (decide (((n121 : Nat) : Int) = 1))) then (.bool ((decide (x_exP_0.kind = 10)) && (decide (x_exP_0.val = 20)))) else undef), fun v _ => v = .bool ((((((decide (chosenE [(⟨5, 2⟩ : Pol)] = 0)) && (decide (((n16 : Nat) : Int) = 1))) && ((decide (x_exQ_0.1 = 5)) && (decide (x_exQ_0.2 = 6)))) && (decide ((agree [(⟨10, 50⟩ : Pol)] [(⟨10, 20⟩ : Pol)]).2.2 = 0))) && (decide (((n121 : Nat) : Int) = 1))) && ((decide (x_exP_0.kind = 10)) && (decide (x_exP_0.val = 20)))), fun v _ => v = .bool ((((((decide (chosenE [(⟨5, 2⟩ : Pol)] = 0)) && (decide (((n16 : Nat) : Int) = 1))) && ((decide (x_exQ_0.1 = 5)) && (decide (x_exQ_0.2 = 6)))) && (decide ((agree [(⟨10, 50⟩ : Pol)] [(⟨10, 20⟩ : Pol)]).2.2 = 0))) && (decide (((n121 : Nat) : Int) = 1))) && ((decide (x_exP_0.kind = 10)) && (decide (x_exP_0.val = 20))))] [[], [0], [1], [2], [2, 3], [2, 4], [2, 5], [6], [7], [7, 8], [7, 9], [7], [7, 10, 11], [7, 12], [13], [14], [14, 15], [14, 16], [17], [18], [18, 19], [18, 20], [18, 21], [22], [23], [23, 24], [23, 25], [23], [23, 26, 27], [23, 28], [29]] [30] rfl rfl rfl ⟨fun _ _ _ _ h => h, fun _ _ _ _ h => h, fun _ _ _ _ h => h, fun _ _ _ _ h => h, fun _ _ _ _ h => h, fun _ _ _ _ h => h, fun _ _ _ _ h => h, fun _ _ _ _ h => h, fun _ _ _ _ h => h, fun _ _ _ _ h => h, fun _ _ _ _ h => h, fun _ _ _ _ h => h, fun _ _ _ _ h => h, fun _ _ _ _ h => h, fun _ _ _ _ h => h, fun _ _ _ _ h => h, fun _ _ _ _ h => h, fun _ _ _ _ h => h, fun _ _ _ _ h => h, fun _ _ _ _ h => h, fun _ _ _ _ h => h, fun _ _ _ _ h => h, fun _ _ _ _ h => h, fun _ _ _ _ h => h, fun _ _ _ _ h => h, fun _ _ _ _ h => h, fun _ _ _ _ h => h, fun _ _ _ _ h => h, fun _ _ _ _ h => h, fun _ _ _ _ h => h, fun _ _ _ _ h => h, trivial⟩ ⟨?_, ?_, ?_, ?_, ?_, ?_, ?_, ?_, ?_, ?_, ?_, ?_, ?_, ?_, ?_, ?_, ?_, ?_, ?_, ?_, ?_, ?_, ?_, ?_, ?_, ?_, ?_, ?_, ?_, ?_, ?_, trivial⟩ ?_
  · intro W26 hW27
    refine gather_nil ?_
    refine opg_none rfl ?_
    exact op_move rfl rfl ⟨told rfl rfl rfl, (Below.refl _ _)⟩
  · intro W26 hW27
    rintro _ rfl
    refine gather_nil ?_
    refine opg_none rfl ?_
    exact op_eql rfl rfl rfl ⟨told rfl rfl rfl, (Below.refl _ _)⟩
  · intro W26 hW27
    rintro _ rfl
    refine gather_nil ?_
    refine opg_none rfl ?_
    exact op_move rfl rfl ⟨told rfl rfl rfl, (Below.refl _ _)⟩
  · intro W26 hW27
    rintro _ rfl
    refine gather_nil ?_
    refine opg_t1 rfl rfl (fun hg42 => ?_) (fun h => by rw [h, cond_false])
    exact op_move rfl rfl ⟨told rfl rfl (by rw [hg42, cond_true]), (Below.refl _ _)⟩
  · intro W26 hW27
    rintro _ rfl
    intro v43 (hv44 : v43 = bif (decide (chosenE [(⟨5, 2⟩ : Pol)] = 0)) then (.slice A15 n16 c17) else undef)
    refine gather_nil ?_
    refine opg_t1 rfl rfl (fun hg45 => ?_) (fun h => by rw [h, cond_false])
    have hd46 := of_decide_eq_true hg45
    obtain rfl : v43 = .slice A15 n16 c17 := by rw [hv44, hg45, cond_true]
    exact op_len_slice rfl rfl und25 rfl rfl ⟨told rfl rfl (by rw [hg45, cond_true]), (Below.refl _ _)⟩
  · intro W26 hW27
    rintro _ rfl
    intro v47 (hv48 : v47 = bif (decide (chosenE [(⟨5, 2⟩ : Pol)] = 0)) then (.int .i64 ((n16 : Nat) : Int)) else undef)
    refine gather_nil ?_
    refine opg_t1 rfl rfl (fun hg49 => ?_) (fun h => by rw [h, cond_false])
    have hd50 := of_decide_eq_true hg49
    obtain rfl : v47 = .int .i64 ((n16 : Nat) : Int) := by rw [hv48, hg49, cond_true]
    exact op_eql rfl rfl rfl ⟨told rfl rfl (by rw [hg49, cond_true]), (Below.refl _ _)⟩
  · intro W26 hW27
    rintro _ rfl
    intro v51 (hv52 : v51 = bif (decide (chosenE [(⟨5, 2⟩ : Pol)] = 0)) then (.bool (decide (((n16 : Nat) : Int) = 1))) else undef)
    refine gather_nil ?_
    refine opg_none rfl ?_
    exact op_and rfl rfl rfl (fun h => by rw [hv52, h, cond_true]) rfl ⟨told rfl rfl rfl, (Below.refl _ _)⟩
  · intro W26 hW27
    rintro _ rfl
    refine gather_nil ?_
    refine opg_none rfl ?_
    exact op_move rfl rfl ⟨told rfl rfl rfl, (Below.refl _ _)⟩
  · intro W26 hW27
    rintro _ rfl
    refine gather_nil ?_
    refine opg_t1 rfl rfl (fun hg53 => ?_) (fun h => by rw [h, cond_false])
    exact op_move rfl rfl ⟨told rfl rfl (by rw [hg53, cond_true]), (Below.refl _ _)⟩
  · intro W26 hW27
    rintro _ rfl
    intro v54 (hv55 : v54 = bif ((decide (chosenE [(⟨5, 2⟩ : Pol)] = 0)) && (decide (((n16 : Nat) : Int) = 1))) then (.slice A15 n16 c17) else undef)
    refine gather_nil ?_
    refine opg_t1 rfl rfl (fun hg56 => ?_) (fun h => by rw [h, cond_false])
    obtain rfl : v54 = .slice A15 n16 c17 := by rw [hv55, hg56, cond_true]
    exact op_indexAddr (j := 0) rfl rfl und25 sz29 (hA30 (by omega)) rfl (by omega) rfl ⟨told rfl rfl (by rw [hg56, cond_true]), (Below.refl _ _)⟩
  · intro W26 hW27
    rintro _ rfl
    intro v57 (hv58 : v57 = bif ((decide (chosenE [(⟨5, 2⟩ : Pol)] = 0)) && (decide (((n16 : Nat) : Int) = 1))) then (.pointer (some ⟨bs28, os29 + 0 * 2, none⟩)) else undef)
    refine gather_nil ?_
    refine opg_t1 rfl rfl (fun hg59 => ?_) (fun h => by rw [h, cond_false])
    obtain rfl : v57 = .pointer (some ⟨bs28, os29 + 0 * 2, none⟩) := by rw [hv58, hg59, cond_true]
    have hB60 : Below W9.heap.size W9 W26 := (below_step (below_step (below_new (below_new (Below.refl _ _) hN13) hN17) hE25) hW27)
    exact op_loadN (vs := [.int .i64 x_exQ_0.1, .int .i64 x_exQ_0.2]) rfl agg29 sz29 rfl ((hc31 0 x_exQ_0 (hx_exQ_0 (by have := hp8.len; omega))).ext hB60) rfl ⟨told rfl rfl (by rw [hg59, cond_true]), (Below.refl _ _)⟩
  · intro W26 hW27
    rintro _ rfl
    refine gather_nil ?_
    refine opg_t1 rfl rfl (fun hg61 => ?_) (fun h => by rw [h, cond_false])
    exact op_build (v := .agg #[.int .i64 5, .int .i64 6]) rfl (fun w => by kernel_rfl) rfl ⟨told rfl rfl (by rw [hg61, cond_true]), (Below.refl _ _)⟩
  · intro W26 hW27
    rintro _ rfl
    intro v62 (hv63 : v62 = bif ((decide (chosenE [(⟨5, 2⟩ : Pol)] = 0)) && (decide (((n16 : Nat) : Int) = 1))) then (.agg #[.int .i64 x_exQ_0.1, .int .i64 x_exQ_0.2]) else undef)
    intro v64 (hv65 : v64 = bif ((decide (chosenE [(⟨5, 2⟩ : Pol)] = 0)) && (decide (((n16 : Nat) : Int) = 1))) then (.agg #[.int .i64 5, .int .i64 6]) else undef)
    refine gather_nil ?_
    refine opg_t1 rfl rfl (fun hg66 => ?_) (fun h => by rw [h, cond_false])
    obtain rfl : v62 = .agg #[.int .i64 x_exQ_0.1, .int .i64 x_exQ_0.2] := by rw [hv63, hg66, cond_true]
    obtain rfl : v64 = .agg #[.int .i64 5, .int .i64 6] := by rw [hv65, hg66, cond_true]
    exact op_eqlA (X := [.int .i64 x_exQ_0.1, .int .i64 x_exQ_0.2]) (Y := [.int .i64 5, .int .i64 6]) (b := (decide (x_exQ_0.1 = 5)) && (decide (x_exQ_0.2 = 6))) rfl rfl eq29 rfl rfl ⟨told rfl rfl (by rw [hg66, cond_true]), (Below.refl _ _)⟩
  · intro W26 hW27
    rintro _ rfl
    intro v67 (hv68 : v67 = bif ((decide (chosenE [(⟨5, 2⟩ : Pol)] = 0)) && (decide (((n16 : Nat) : Int) = 1))) then (.bool ((decide (x_exQ_0.1 = 5)) && (decide (x_exQ_0.2 = 6)))) else undef)
    refine gather_nil ?_
    refine opg_none rfl ?_
    exact op_and rfl rfl rfl (fun h => by rw [hv68, h, cond_true]) rfl ⟨told rfl rfl rfl, (Below.refl _ _)⟩
  · intro W26 hW27
    rintro _ rfl
    refine gather_nil ?_
    refine opg_none rfl ?_
    exact op_move rfl rfl ⟨told rfl rfl rfl, (Below.refl _ _)⟩
  · intro W26 hW27
    rintro _ rfl
    refine gather_nil ?_
    refine opg_t1 rfl rfl (fun hg69 => ?_) (fun h => by rw [h, cond_false])
    exact op_move rfl rfl ⟨told rfl rfl (by rw [hg69, cond_true]), (Below.refl _ _)⟩
  · intro W26 hW27
    rintro _ rfl
    intro v70 (hv71 : v70 = bif (((decide (chosenE [(⟨5, 2⟩ : Pol)] = 0)) && (decide (((n16 : Nat) : Int) = 1))) && ((decide (x_exQ_0.1 = 5)) && (decide (x_exQ_0.2 = 6)))) then (.int .i64 ((agree [(⟨10, 50⟩ : Pol)] [(⟨10, 20⟩ : Pol)]).2.2)) else undef)
    refine gather_nil ?_
    refine opg_t1 rfl rfl (fun hg72 => ?_) (fun h => by rw [h, cond_false])
    obtain rfl : v70 = .int .i64 ((agree [(⟨10, 50⟩ : Pol)] [(⟨10, 20⟩ : Pol)]).2.2) := by rw [hv71, hg72, cond_true]
    exact op_eql rfl rfl rfl ⟨told rfl rfl (by rw [hg72, cond_true]), (Below.refl _ _)⟩
  · intro W26 hW27
    rintro _ rfl
    intro v73 (hv74 : v73 = bif (((decide (chosenE [(⟨5, 2⟩ : Pol)] = 0)) && (decide (((n16 : Nat) : Int) = 1))) && ((decide (x_exQ_0.1 = 5)) && (decide (x_exQ_0.2 = 6)))) then (.bool (decide ((agree [(⟨10, 50⟩ : Pol)] [(⟨10, 20⟩ : Pol)]).2.2 = 0))) else undef)
    refine gather_nil ?_
    refine opg_none rfl ?_
    exact op_and rfl rfl rfl (fun h => by rw [hv74, h, cond_true]) rfl ⟨told rfl rfl rfl, (Below.refl _ _)⟩
  · intro W26 hW27
    rintro _ rfl
    refine gather_nil ?_
    refine opg_none rfl ?_
    exact op_move rfl rfl ⟨told rfl rfl rfl, (Below.refl _ _)⟩
  · intro W26 hW27
    rintro _ rfl
    refine gather_nil ?_
    refine opg_t1 rfl rfl (fun hg75 => ?_) (fun h => by rw [h, cond_false])
    exact op_move rfl rfl ⟨told rfl rfl (by rw [hg75, cond_true]), (Below.refl _ _)⟩
  · intro W26 hW27
    rintro _ rfl
    intro v76 (hv77 : v76 = bif ((((decide (chosenE [(⟨5, 2⟩ : Pol)] = 0)) && (decide (((n16 : Nat) : Int) = 1))) && ((decide (x_exQ_0.1 = 5)) && (decide (x_exQ_0.2 = 6)))) && (decide ((agree [(⟨10, 50⟩ : Pol)] [(⟨10, 20⟩ : Pol)]).2.2 = 0))) then (.slice A120 n121 c122) else undef)
    refine gather_nil ?_
    refine opg_t1 rfl rfl (fun hg78 => ?_) (fun h => by rw [h, cond_false])
    obtain rfl : v76 = .slice A120 n121 c122 := by rw [hv77, hg78, cond_true]
    exact op_len_slice rfl rfl und22 rfl rfl ⟨told rfl rfl (by rw [hg78, cond_true]), (Below.refl _ _)⟩
  · intro W26 hW27
    rintro _ rfl
    intro v79 (hv80 : v79 = bif ((((decide (chosenE [(⟨5, 2⟩ : Pol)] = 0)) && (decide (((n16 : Nat) : Int) = 1))) && ((decide (x_exQ_0.1 = 5)) && (decide (x_exQ_0.2 = 6)))) && (decide ((agree [(⟨10, 50⟩ : Pol)] [(⟨10, 20⟩ : Pol)]).2.2 = 0))) then (.int .i64 ((n121 : Nat) : Int)) else undef)
    refine gather_nil ?_
    refine opg_t1 rfl rfl (fun hg81 => ?_) (fun h => by rw [h, cond_false])
    obtain rfl : v79 = .int .i64 ((n121 : Nat) : Int) := by rw [hv80, hg81, cond_true]
    exact op_eql rfl rfl rfl ⟨told rfl rfl (by rw [hg81, cond_true]), (Below.refl _ _)⟩
  · intro W26 hW27
    rintro _ rfl
    intro v82 (hv83 : v82 = bif ((((decide (chosenE [(⟨5, 2⟩ : Pol)] = 0)) && (decide (((n16 : Nat) : Int) = 1))) && ((decide (x_exQ_0.1 = 5)) && (decide (x_exQ_0.2 = 6)))) && (decide ((agree [(⟨10, 50⟩ : Pol)] [(⟨10, 20⟩ : Pol)]).2.2 = 0))) then (.bool (decide (((n121 : Nat) : Int) = 1))) else undef)
    refine gather_nil ?_
    refine opg_none rfl ?_
    exact op_and rfl rfl rfl (fun h => by rw [hv83, h, cond_true]) rfl ⟨told rfl rfl rfl, (Below.refl _ _)⟩
  · intro W26 hW27
    rintro _ rfl
    refine gather_nil ?_
    refine opg_none rfl ?_
    exact op_move rfl rfl ⟨told rfl rfl rfl, (Below.refl _ _)⟩
  · intro W26 hW27
    rintro _ rfl
    refine gather_nil ?_
    refine opg_t1 rfl rfl (fun hg84 => ?_) (fun h => by rw [h, cond_false])
    exact op_move rfl rfl ⟨told rfl rfl (by rw [hg84, cond_true]), (Below.refl _ _)⟩
  · intro W26 hW27
    rintro _ rfl
    intro v85 (hv86 : v85 = bif (((((decide (chosenE [(⟨5, 2⟩ : Pol)] = 0)) && (decide (((n16 : Nat) : Int) = 1))) && ((decide (x_exQ_0.1 = 5)) && (decide (x_exQ_0.2 = 6)))) && (decide ((agree [(⟨10, 50⟩ : Pol)] [(⟨10, 20⟩ : Pol)]).2.2 = 0))) && (decide (((n121 : Nat) : Int) = 1))) then (.slice A120 n121 c122) else undef)
    refine gather_nil ?_
    refine opg_t1 rfl rfl (fun hg87 => ?_) (fun h => by rw [h, cond_false])
    obtain rfl : v85 = .slice A120 n121 c122 := by rw [hv86, hg87, cond_true]
    exact op_indexAddr (j := 0) rfl rfl und22 sz46 (hA37 (by omega)) rfl (by omega) rfl ⟨told rfl rfl (by rw [hg87, cond_true]), (Below.refl _ _)⟩
  · intro W26 hW27
    rintro _ rfl
    intro v88 (hv89 : v88 = bif (((((decide (chosenE [(⟨5, 2⟩ : Pol)] = 0)) && (decide (((n16 : Nat) : Int) = 1))) && ((decide (x_exQ_0.1 = 5)) && (decide (x_exQ_0.2 = 6)))) && (decide ((agree [(⟨10, 50⟩ : Pol)] [(⟨10, 20⟩ : Pol)]).2.2 = 0))) && (decide (((n121 : Nat) : Int) = 1))) then (.pointer (some ⟨bs35, os36 + 0 * 2, none⟩)) else undef)
    refine gather_nil ?_
    refine opg_t1 rfl rfl (fun hg90 => ?_) (fun h => by rw [h, cond_false])
    obtain rfl : v88 = .pointer (some ⟨bs35, os36 + 0 * 2, none⟩) := by rw [hv89, hg90, cond_true]
    have hB91 : Below W24.heap.size W24 W26 := (below_step (Below.refl _ _) hW27)
    exact op_loadN (vs := [.int .i64 x_exP_0.kind, .int .i64 x_exP_0.val]) rfl agg46 sz46 rfl ((hc38 0 x_exP_0 (hx_exP_0 (by have := hp23.len; omega))).ext hB91) rfl ⟨told rfl rfl (by rw [hg90, cond_true]), (Below.refl _ _)⟩
  · intro W26 hW27
    rintro _ rfl
    refine gather_nil ?_
    refine opg_t1 rfl rfl (fun hg92 => ?_) (fun h => by rw [h, cond_false])
    exact op_build (v := .agg #[.int .i64 10, .int .i64 20]) rfl (fun w => by kernel_rfl) rfl ⟨told rfl rfl (by rw [hg92, cond_true]), (Below.refl _ _)⟩
  · intro W26 hW27
    rintro _ rfl
    intro v93 (hv94 : v93 = bif (((((decide (chosenE [(⟨5, 2⟩ : Pol)] = 0)) && (decide (((n16 : Nat) : Int) = 1))) && ((decide (x_exQ_0.1 = 5)) && (decide (x_exQ_0.2 = 6)))) && (decide ((agree [(⟨10, 50⟩ : Pol)] [(⟨10, 20⟩ : Pol)]).2.2 = 0))) && (decide (((n121 : Nat) : Int) = 1))) then (.agg #[.int .i64 x_exP_0.kind, .int .i64 x_exP_0.val]) else undef)
    intro v95 (hv96 : v95 = bif (((((decide (chosenE [(⟨5, 2⟩ : Pol)] = 0)) && (decide (((n16 : Nat) : Int) = 1))) && ((decide (x_exQ_0.1 = 5)) && (decide (x_exQ_0.2 = 6)))) && (decide ((agree [(⟨10, 50⟩ : Pol)] [(⟨10, 20⟩ : Pol)]).2.2 = 0))) && (decide (((n121 : Nat) : Int) = 1))) then (.agg #[.int .i64 10, .int .i64 20]) else undef)
    refine gather_nil ?_
    refine opg_t1 rfl rfl (fun hg97 => ?_) (fun h => by rw [h, cond_false])
    obtain rfl : v93 = .agg #[.int .i64 x_exP_0.kind, .int .i64 x_exP_0.val] := by rw [hv94, hg97, cond_true]
    obtain rfl : v95 = .agg #[.int .i64 10, .int .i64 20] := by rw [hv96, hg97, cond_true]
    exact op_eqlA (X := [.int .i64 x_exP_0.kind, .int .i64 x_exP_0.val]) (Y := [.int .i64 10, .int .i64 20]) (b := (decide (x_exP_0.kind = 10)) && (decide (x_exP_0.val = 20))) rfl rfl eq46 rfl rfl ⟨told rfl rfl (by rw [hg97, cond_true]), (Below.refl _ _)⟩
  · intro W26 hW27
    rintro _ rfl
    intro v98 (hv99 : v98 = bif (((((decide (chosenE [(⟨5, 2⟩ : Pol)] = 0)) && (decide (((n16 : Nat) : Int) = 1))) && ((decide (x_exQ_0.1 = 5)) && (decide (x_exQ_0.2 = 6)))) && (decide ((agree [(⟨10, 50⟩ : Pol)] [(⟨10, 20⟩ : Pol)]).2.2 = 0))) && (decide (((n121 : Nat) : Int) = 1))) then (.bool ((decide (x_exP_0.kind = 10)) && (decide (x_exP_0.val = 20)))) else undef)
    refine gather_nil ?_
    refine opg_none rfl ?_
    exact op_and rfl rfl rfl (fun h => by rw [hv99, h, cond_true]) rfl ⟨told rfl rfl rfl, (Below.refl _ _)⟩
  · intro W26 hW27
    rintro _ rfl
    refine gather_nil ?_
    refine opg_none rfl ?_
    exact op_assign rfl rfl ⟨told rfl rfl rfl, (Below.refl _ _)⟩
  intro W100 hW101
  rintro _ rfl
  refine gather_nil ?_
  refine (then_norm ?_)
  refine wc_ret ?_
  have hB102 : Below w.heap.size w W100 := (below_step (below_step (below_new (below_new (below_step (below_new (Below.refl _ _) hN3) hE10) hN13) hN17) hE25) hW101)
  refine ⟨[_], ⟨rfl, trivial⟩, ⟨?_, hB102⟩⟩
  exact congrArg Value.bool (awake_ok hl1 hl2 hx_exQ_0 hx_exP_0)

end Go.Eng


