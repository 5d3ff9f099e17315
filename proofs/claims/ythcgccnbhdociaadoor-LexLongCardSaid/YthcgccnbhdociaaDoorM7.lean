/- The chapter's functions, walked by the abstract machine: plain lemmas, no condition. -/
import Derived.Test.YthcgccnbhdociaaDoorRows
import Derived.Shelf.Unicode.Decode
import Derived.Shelf.Unicode.DecodeSlow
import Derived.Shelf.Unicode.DecodeAny
import Derived.Shelf.Strings.Search3
import Derived.Shelf.Strconv.Itoa3
import Derived.Shelf.Strconv.Atoi
import Derived.Shelf.Pu.ParseUintPublic10
import Derived.Lib.LaidU8T
import Derived.Test.YthcgccnbhdociaaDoorM6
import Derived.Test.YthcgccnbhdociaaDoorM4

namespace Go.Proofs.YthcgccnbhdociaaDoor
open Go Go.Shelf
def Tryd.lays197_ren : Go.Shelf.Ren := ⟨fun | 197 => 34 | 260 => 60 | n => n, fun | 9 => 9 | 21 => 21 | 3 => 3 | 4 => 4 | 5 => 5 | 105 => 55 | 119 => 89 | 0 => 0 | 46 => 90 | 139 => 93 | 138 => 92 | n => n, fun | 3 => 0 | 4 => 1 | n => n⟩
theorem Tryd.lays197 : Go.Proofs.Lays.n197 Tryd.prog Tryd.lays197_ren := {
  mixed := by kernel_rfl,
  f197 := Tryd.func34.trans (congrArg some (by kernel_rfl)),
  f260 := Tryd.func60.trans (congrArg some (by kernel_rfl)),
  t0 := Tryd.underlying0,
  a0 := Tryd.isAgg0,
  z0 := Tryd.sizeOf0,
  v0 := Tryd.zeroValue0,
  t3 := Tryd.underlying3,
  a3 := Tryd.isAgg3,
  z3 := Tryd.sizeOf3,
  v3 := Tryd.zeroValue3,
  t4 := Tryd.underlying4,
  a4 := Tryd.isAgg4,
  z4 := Tryd.sizeOf4,
  v4 := Tryd.zeroValue4,
  t5 := Tryd.underlying5,
  a5 := Tryd.isAgg5,
  z5 := Tryd.sizeOf5,
  v5 := Tryd.zeroValue5,
  t9 := Tryd.underlying9,
  a9 := Tryd.isAgg9,
  z9 := Tryd.sizeOf9,
  v9 := Tryd.zeroValue9,
  t21 := Tryd.underlying21,
  a21 := Tryd.isAgg21,
  z21 := Tryd.sizeOf21,
  v21 := Tryd.zeroValue21,
  t46 := Tryd.underlying90,
  a46 := Tryd.isAgg90,
  z46 := Tryd.sizeOf90,
  v46 := Tryd.zeroValue90,
  t105 := Tryd.underlying55,
  a105 := Tryd.isAgg55,
  z105 := Tryd.sizeOf55,
  v105 := Tryd.zeroValue55,
  t119 := Tryd.underlying89,
  a119 := Tryd.isAgg89,
  z119 := Tryd.sizeOf89,
  t138 := Tryd.underlying92,
  a138 := Tryd.isAgg92,
  z138 := Tryd.sizeOf92,
  v138 := Tryd.zeroValue92,
  t139 := Tryd.underlying93,
  a139 := Tryd.isAgg93,
  z139 := Tryd.sizeOf93,
  v139 := Tryd.zeroValue93,
  g3 := by kernel_rfl,
  g4 := by kernel_rfl }
def Tryd.lays144_ren : Go.Shelf.Ren := ⟨fun | 144 => 63 | 143 => 80 | 219 => 89 | 217 => 42 | 225 => 103 | 224 => 104 | 267 => 105 | 266 => 72 | 314 => 114 | n => n, fun | 9 => 9 | 4 => 4 | 3 => 3 | 5 => 5 | 46 => 90 | 146 => 125 | 51 => 116 | n => n, fun | 1 => 2 | n => n⟩
theorem Tryd.lays144 : Go.Proofs.Lays.n144 Tryd.prog Tryd.lays144_ren := {
  mixed := by kernel_rfl,
  f143 := Tryd.func80.trans (congrArg some (by kernel_rfl)),
  f144 := Tryd.func63.trans (congrArg some (by kernel_rfl)),
  f217 := Tryd.func42.trans (congrArg some (by kernel_rfl)),
  f219 := Tryd.func89.trans (congrArg some (by kernel_rfl)),
  f224 := Tryd.func104.trans (congrArg some (by kernel_rfl)),
  f225 := Tryd.func103.trans (congrArg some (by kernel_rfl)),
  f266 := Tryd.func72.trans (congrArg some (by kernel_rfl)),
  f267 := Tryd.func105.trans (congrArg some (by kernel_rfl)),
  f314 := Tryd.func114.trans (congrArg some (by kernel_rfl)),
  t3 := Tryd.underlying3,
  a3 := Tryd.isAgg3,
  z3 := Tryd.sizeOf3,
  v3 := Tryd.zeroValue3,
  t4 := Tryd.underlying4,
  a4 := Tryd.isAgg4,
  z4 := Tryd.sizeOf4,
  v4 := Tryd.zeroValue4,
  t5 := Tryd.underlying5,
  a5 := Tryd.isAgg5,
  z5 := Tryd.sizeOf5,
  v5 := Tryd.zeroValue5,
  t9 := Tryd.underlying9,
  a9 := Tryd.isAgg9,
  z9 := Tryd.sizeOf9,
  v9 := Tryd.zeroValue9,
  t46 := Tryd.underlying90,
  a46 := Tryd.isAgg90,
  z46 := Tryd.sizeOf90,
  v46 := Tryd.zeroValue90,
  t51 := Tryd.underlying116,
  a51 := Tryd.isAgg116,
  z51 := Tryd.sizeOf116,
  v51 := Tryd.zeroValue116,
  t146 := Tryd.underlying125,
  a146 := Tryd.isAgg125,
  z146 := Tryd.sizeOf125,
  v146 := Tryd.zeroValue125,
  g1 := by kernel_rfl }
def Tryd.lays172_ren : Go.Shelf.Ren := ⟨fun | 172 => 87 | 244 => 102 | 245 => 86 | 247 => 113 | 279 => 98 | 280 => 99 | 281 => 100 | 282 => 101 | 287 => 85 | 316 => 111 | 171 => 37 | 205 => 112 | 321 => 96 | 322 => 97 | 243 => 65 | 246 => 82 | 283 => 90 | 284 => 91 | 285 => 92 | 286 => 93 | 129 => 107 | 317 => 106 | 318 => 108 | 319 => 109 | 320 => 110 | 337 => 115 | 338 => 116 | n => n, fun | 9 => 9 | 3 => 3 | 75 => 81 | 76 => 82 | 4 => 4 | 5 => 5 | 167 => 109 | 37 => 43 | 0 => 0 | 85 => 123 | 2 => 2 | 168 => 111 | 53 => 85 | 175 => 86 | 46 => 90 | 210 => 121 | 127 => 98 | 145 => 130 | 143 => 128 | 21 => 21 | 171 => 101 | 173 => 104 | 212 => 115 | 51 => 116 | 20 => 20 | 213 => 117 | 232 => 131 | 233 => 132 | 80 => 84 | n => n, fun | 15 => 4 | 16 => 5 | 17 => 3 | 18 => 6 | 19 => 7 | n => n⟩
theorem Tryd.lays172 : Go.Proofs.Lays.n172 Tryd.prog Tryd.lays172_ren := {
  mixed := by kernel_rfl,
  f129 := Tryd.func107.trans (congrArg some (by kernel_rfl)),
  f171 := Tryd.func37.trans (congrArg some (by kernel_rfl)),
  f172 := Tryd.func87.trans (congrArg some (by kernel_rfl)),
  f205 := Tryd.func112.trans (congrArg some (by kernel_rfl)),
  f243 := Tryd.func65.trans (congrArg some (by kernel_rfl)),
  f244 := Tryd.func102.trans (congrArg some (by kernel_rfl)),
  f245 := Tryd.func86.trans (congrArg some (by kernel_rfl)),
  f246 := Tryd.func82.trans (congrArg some (by kernel_rfl)),
  f247 := Tryd.func113.trans (congrArg some (by kernel_rfl)),
  f279 := Tryd.func98.trans (congrArg some (by kernel_rfl)),
  f280 := Tryd.func99.trans (congrArg some (by kernel_rfl)),
  f281 := Tryd.func100.trans (congrArg some (by kernel_rfl)),
  f282 := Tryd.func101.trans (congrArg some (by kernel_rfl)),
  f283 := Tryd.func90.trans (congrArg some (by kernel_rfl)),
  f284 := Tryd.func91.trans (congrArg some (by kernel_rfl)),
  f285 := Tryd.func92.trans (congrArg some (by kernel_rfl)),
  f286 := Tryd.func93.trans (congrArg some (by kernel_rfl)),
  f287 := Tryd.func85.trans (congrArg some (by kernel_rfl)),
  f316 := Tryd.func111.trans (congrArg some (by kernel_rfl)),
  f317 := Tryd.func106.trans (congrArg some (by kernel_rfl)),
  f318 := Tryd.func108.trans (congrArg some (by kernel_rfl)),
  f319 := Tryd.func109.trans (congrArg some (by kernel_rfl)),
  f320 := Tryd.func110.trans (congrArg some (by kernel_rfl)),
  f321 := Tryd.func96.trans (congrArg some (by kernel_rfl)),
  f322 := Tryd.func97.trans (congrArg some (by kernel_rfl)),
  f337 := Tryd.func115.trans (congrArg some (by kernel_rfl)),
  f338 := Tryd.func116.trans (congrArg some (by kernel_rfl)),
  t0 := Tryd.underlying0,
  a0 := Tryd.isAgg0,
  z0 := Tryd.sizeOf0,
  v0 := Tryd.zeroValue0,
  t2 := Tryd.underlying2,
  a2 := Tryd.isAgg2,
  z2 := Tryd.sizeOf2,
  v2 := Tryd.zeroValue2,
  t3 := Tryd.underlying3,
  a3 := Tryd.isAgg3,
  z3 := Tryd.sizeOf3,
  v3 := Tryd.zeroValue3,
  t4 := Tryd.underlying4,
  a4 := Tryd.isAgg4,
  z4 := Tryd.sizeOf4,
  v4 := Tryd.zeroValue4,
  t5 := Tryd.underlying5,
  a5 := Tryd.isAgg5,
  z5 := Tryd.sizeOf5,
  v5 := Tryd.zeroValue5,
  t9 := Tryd.underlying9,
  a9 := Tryd.isAgg9,
  z9 := Tryd.sizeOf9,
  v9 := Tryd.zeroValue9,
  t20 := Tryd.underlying20,
  a20 := Tryd.isAgg20,
  z20 := Tryd.sizeOf20,
  v20 := Tryd.zeroValue20,
  t21 := Tryd.underlying21,
  a21 := Tryd.isAgg21,
  z21 := Tryd.sizeOf21,
  v21 := Tryd.zeroValue21,
  t37 := Tryd.underlying43,
  a37 := Tryd.isAgg43,
  z37 := Tryd.sizeOf43,
  v37 := Tryd.zeroValue43,
  t46 := Tryd.underlying90,
  a46 := Tryd.isAgg90,
  z46 := Tryd.sizeOf90,
  v46 := Tryd.zeroValue90,
  t51 := Tryd.underlying116,
  a51 := Tryd.isAgg116,
  z51 := Tryd.sizeOf116,
  v51 := Tryd.zeroValue116,
  t53 := Tryd.underlying85,
  a53 := Tryd.isAgg85,
  z53 := Tryd.sizeOf85,
  v53 := Tryd.zeroValue85,
  t75 := Tryd.underlying81,
  a75 := Tryd.isAgg81,
  z75 := Tryd.sizeOf81,
  v75 := Tryd.zeroValue81,
  t76 := Tryd.underlying82,
  a76 := Tryd.isAgg82,
  z76 := Tryd.sizeOf82,
  v76 := Tryd.zeroValue82,
  t85 := Tryd.underlying123,
  a85 := Tryd.isAgg123,
  z85 := Tryd.sizeOf123,
  v85 := Tryd.zeroValue123,
  t127 := Tryd.underlying98,
  a127 := Tryd.isAgg98,
  z127 := Tryd.sizeOf98,
  v127 := Tryd.zeroValue98,
  t143 := Tryd.underlying128,
  a143 := Tryd.isAgg128,
  z143 := Tryd.sizeOf128,
  v143 := Tryd.zeroValue128,
  t145 := Tryd.underlying130,
  a145 := Tryd.isAgg130,
  z145 := Tryd.sizeOf130,
  v145 := Tryd.zeroValue130,
  t167 := Tryd.underlying109,
  a167 := Tryd.isAgg109,
  z167 := Tryd.sizeOf109,
  v167 := Tryd.zeroValue109,
  t168 := Tryd.underlying111,
  a168 := Tryd.isAgg111,
  z168 := Tryd.sizeOf111,
  v168 := Tryd.zeroValue111,
  t171 := Tryd.underlying101,
  a171 := Tryd.isAgg101,
  z171 := Tryd.sizeOf101,
  v171 := Tryd.zeroValue101,
  t173 := Tryd.underlying104,
  a173 := Tryd.isAgg104,
  z173 := Tryd.sizeOf104,
  v173 := Tryd.zeroValue104,
  t175 := Tryd.underlying86,
  a175 := Tryd.isAgg86,
  z175 := Tryd.sizeOf86,
  v175 := Tryd.zeroValue86,
  t210 := Tryd.underlying121,
  a210 := Tryd.isAgg121,
  z210 := Tryd.sizeOf121,
  v210 := Tryd.zeroValue121,
  t212 := Tryd.underlying115,
  a212 := Tryd.isAgg115,
  z212 := Tryd.sizeOf115,
  v212 := Tryd.zeroValue115,
  t213 := Tryd.underlying117,
  a213 := Tryd.isAgg117,
  z213 := Tryd.sizeOf117,
  t232 := Tryd.underlying131,
  a232 := Tryd.isAgg131,
  z232 := Tryd.sizeOf131,
  v232 := Tryd.zeroValue131,
  t233 := Tryd.underlying132,
  a233 := Tryd.isAgg132,
  z233 := Tryd.sizeOf132,
  v233 := Tryd.zeroValue132,
  g15 := by kernel_rfl,
  g16 := by kernel_rfl,
  g17 := by kernel_rfl,
  g18 := by kernel_rfl,
  g19 := by kernel_rfl }
def Tryd.lays171_ren : Go.Shelf.Ren := ⟨fun | 171 => 37 | 243 => 65 | 246 => 82 | 283 => 90 | 284 => 91 | 285 => 92 | 286 => 93 | 129 => 107 | 317 => 106 | 318 => 108 | 319 => 109 | 320 => 110 | 337 => 115 | 338 => 116 | n => n, fun | 3 => 3 | 9 => 9 | 2 => 2 | 4 => 4 | 171 => 101 | 0 => 0 | 53 => 85 | 37 => 43 | 5 => 5 | 173 => 104 | 212 => 115 | 51 => 116 | 20 => 20 | 213 => 117 | 46 => 90 | 232 => 131 | 233 => 132 | n => n, fun | 17 => 3 | 18 => 6 | 19 => 7 | n => n⟩
theorem Tryd.lays171 : Go.Proofs.LaysM.n171 Tryd.prog Tryd.lays171_ren := {
  mixed := by kernel_rfl,
  f129 := Tryd.func107.trans (congrArg some (by kernel_rfl)),
  f171 := Tryd.func37.trans (congrArg some (by kernel_rfl)),
  f243 := Tryd.func65.trans (congrArg some (by kernel_rfl)),
  f246 := Tryd.func82.trans (congrArg some (by kernel_rfl)),
  f283 := Tryd.func90.trans (congrArg some (by kernel_rfl)),
  f284 := Tryd.func91.trans (congrArg some (by kernel_rfl)),
  f285 := Tryd.func92.trans (congrArg some (by kernel_rfl)),
  f286 := Tryd.func93.trans (congrArg some (by kernel_rfl)),
  f317 := Tryd.func106.trans (congrArg some (by kernel_rfl)),
  f318 := Tryd.func108.trans (congrArg some (by kernel_rfl)),
  f319 := Tryd.func109.trans (congrArg some (by kernel_rfl)),
  f320 := Tryd.func110.trans (congrArg some (by kernel_rfl)),
  f337 := Tryd.func115.trans (congrArg some (by kernel_rfl)),
  f338 := Tryd.func116.trans (congrArg some (by kernel_rfl)),
  t0 := Tryd.underlying0,
  a0 := Tryd.isAgg0,
  z0 := Tryd.sizeOf0,
  v0 := Tryd.zeroValue0,
  t2 := Tryd.underlying2,
  a2 := Tryd.isAgg2,
  z2 := Tryd.sizeOf2,
  v2 := Tryd.zeroValue2,
  t3 := Tryd.underlying3,
  a3 := Tryd.isAgg3,
  z3 := Tryd.sizeOf3,
  v3 := Tryd.zeroValue3,
  t4 := Tryd.underlying4,
  a4 := Tryd.isAgg4,
  z4 := Tryd.sizeOf4,
  v4 := Tryd.zeroValue4,
  t5 := Tryd.underlying5,
  a5 := Tryd.isAgg5,
  z5 := Tryd.sizeOf5,
  v5 := Tryd.zeroValue5,
  t9 := Tryd.underlying9,
  a9 := Tryd.isAgg9,
  z9 := Tryd.sizeOf9,
  v9 := Tryd.zeroValue9,
  t20 := Tryd.underlying20,
  a20 := Tryd.isAgg20,
  z20 := Tryd.sizeOf20,
  v20 := Tryd.zeroValue20,
  t37 := Tryd.underlying43,
  a37 := Tryd.isAgg43,
  z37 := Tryd.sizeOf43,
  v37 := Tryd.zeroValue43,
  t46 := Tryd.underlying90,
  a46 := Tryd.isAgg90,
  z46 := Tryd.sizeOf90,
  v46 := Tryd.zeroValue90,
  t51 := Tryd.underlying116,
  a51 := Tryd.isAgg116,
  z51 := Tryd.sizeOf116,
  v51 := Tryd.zeroValue116,
  t53 := Tryd.underlying85,
  a53 := Tryd.isAgg85,
  z53 := Tryd.sizeOf85,
  v53 := Tryd.zeroValue85,
  t171 := Tryd.underlying101,
  a171 := Tryd.isAgg101,
  z171 := Tryd.sizeOf101,
  v171 := Tryd.zeroValue101,
  t173 := Tryd.underlying104,
  a173 := Tryd.isAgg104,
  z173 := Tryd.sizeOf104,
  v173 := Tryd.zeroValue104,
  t212 := Tryd.underlying115,
  a212 := Tryd.isAgg115,
  z212 := Tryd.sizeOf115,
  v212 := Tryd.zeroValue115,
  t213 := Tryd.underlying117,
  a213 := Tryd.isAgg117,
  z213 := Tryd.sizeOf117,
  t232 := Tryd.underlying131,
  a232 := Tryd.isAgg131,
  z232 := Tryd.sizeOf131,
  v232 := Tryd.zeroValue131,
  t233 := Tryd.underlying132,
  a233 := Tryd.isAgg132,
  z233 := Tryd.sizeOf132,
  v233 := Tryd.zeroValue132,
  g17 := by kernel_rfl,
  g18 := by kernel_rfl,
  g19 := by kernel_rfl,
  i0 := by kernel_rfl,
  i2 := by kernel_rfl,
  i3 := by kernel_rfl,
  i4 := by kernel_rfl,
  i5 := by kernel_rfl,
  i9 := by kernel_rfl,
  i20 := by kernel_rfl,
  i37 := by kernel_rfl,
  i46 := by kernel_rfl,
  i51 := by kernel_rfl,
  i53 := by kernel_rfl,
  i171 := by kernel_rfl,
  i173 := by kernel_rfl,
  i212 := by kernel_rfl,
  i232 := by kernel_rfl,
  i233 := by kernel_rfl,
  m17 := by kernel_rfl,
  m18 := by kernel_rfl,
  m19 := by kernel_rfl }
def Tryd.laysPu14_ren : Go.Shelf.Ren := ⟨fun | 14 => 74 | 16 => 85 | 17 => 86 | 19 => 96 | 20 => 97 | 21 => 98 | 22 => 99 | 23 => 100 | 24 => 101 | 25 => 111 | 27 => 37 | 26 => 112 | 28 => 65 | 29 => 82 | 30 => 90 | 31 => 91 | 32 => 92 | 33 => 93 | 35 => 107 | 34 => 106 | 36 => 108 | 37 => 109 | 38 => 110 | 39 => 115 | 40 => 116 | n => n, fun | 9 => 9 | 3 => 3 | 22 => 85 | 24 => 81 | 25 => 86 | 4 => 4 | 34 => 109 | 5 => 5 | 36 => 90 | 37 => 43 | 0 => 0 | 39 => 111 | 21 => 21 | 44 => 121 | 47 => 98 | 50 => 130 | 48 => 128 | 2 => 2 | 52 => 101 | 55 => 104 | 59 => 115 | 60 => 116 | 20 => 20 | 61 => 117 | 65 => 131 | 66 => 132 | 67 => 84 | n => n, fun | 0 => 4 | 1 => 5 | 2 => 3 | 3 => 6 | 4 => 7 | n => n⟩
theorem Tryd.laysPu14 : Go.Proofs.LaysPu.n14 Tryd.prog Tryd.laysPu14_ren := {
  mixed := by kernel_rfl,
  f14 := Tryd.func74.trans (congrArg some (by kernel_rfl)),
  f16 := Tryd.func85.trans (congrArg some (by kernel_rfl)),
  f17 := Tryd.func86.trans (congrArg some (by kernel_rfl)),
  f19 := Tryd.func96.trans (congrArg some (by kernel_rfl)),
  f20 := Tryd.func97.trans (congrArg some (by kernel_rfl)),
  f21 := Tryd.func98.trans (congrArg some (by kernel_rfl)),
  f22 := Tryd.func99.trans (congrArg some (by kernel_rfl)),
  f23 := Tryd.func100.trans (congrArg some (by kernel_rfl)),
  f24 := Tryd.func101.trans (congrArg some (by kernel_rfl)),
  f25 := Tryd.func111.trans (congrArg some (by kernel_rfl)),
  f26 := Tryd.func112.trans (congrArg some (by kernel_rfl)),
  f27 := Tryd.func37.trans (congrArg some (by kernel_rfl)),
  f28 := Tryd.func65.trans (congrArg some (by kernel_rfl)),
  f29 := Tryd.func82.trans (congrArg some (by kernel_rfl)),
  f30 := Tryd.func90.trans (congrArg some (by kernel_rfl)),
  f31 := Tryd.func91.trans (congrArg some (by kernel_rfl)),
  f32 := Tryd.func92.trans (congrArg some (by kernel_rfl)),
  f33 := Tryd.func93.trans (congrArg some (by kernel_rfl)),
  f34 := Tryd.func106.trans (congrArg some (by kernel_rfl)),
  f35 := Tryd.func107.trans (congrArg some (by kernel_rfl)),
  f36 := Tryd.func108.trans (congrArg some (by kernel_rfl)),
  f37 := Tryd.func109.trans (congrArg some (by kernel_rfl)),
  f38 := Tryd.func110.trans (congrArg some (by kernel_rfl)),
  f39 := Tryd.func115.trans (congrArg some (by kernel_rfl)),
  f40 := Tryd.func116.trans (congrArg some (by kernel_rfl)),
  t0 := Tryd.underlying0,
  a0 := Tryd.isAgg0,
  z0 := Tryd.sizeOf0,
  v0 := Tryd.zeroValue0,
  i0 := by kernel_rfl,
  t2 := Tryd.underlying2,
  a2 := Tryd.isAgg2,
  z2 := Tryd.sizeOf2,
  v2 := Tryd.zeroValue2,
  i2 := by kernel_rfl,
  t3 := Tryd.underlying3,
  a3 := Tryd.isAgg3,
  z3 := Tryd.sizeOf3,
  v3 := Tryd.zeroValue3,
  i3 := by kernel_rfl,
  t4 := Tryd.underlying4,
  a4 := Tryd.isAgg4,
  z4 := Tryd.sizeOf4,
  v4 := Tryd.zeroValue4,
  i4 := by kernel_rfl,
  t5 := Tryd.underlying5,
  a5 := Tryd.isAgg5,
  z5 := Tryd.sizeOf5,
  v5 := Tryd.zeroValue5,
  i5 := by kernel_rfl,
  t9 := Tryd.underlying9,
  a9 := Tryd.isAgg9,
  z9 := Tryd.sizeOf9,
  v9 := Tryd.zeroValue9,
  i9 := by kernel_rfl,
  t20 := Tryd.underlying20,
  a20 := Tryd.isAgg20,
  z20 := Tryd.sizeOf20,
  v20 := Tryd.zeroValue20,
  i20 := by kernel_rfl,
  t21 := Tryd.underlying21,
  a21 := Tryd.isAgg21,
  z21 := Tryd.sizeOf21,
  v21 := Tryd.zeroValue21,
  i21 := by kernel_rfl,
  t22 := Tryd.underlying85,
  a22 := Tryd.isAgg85,
  z22 := Tryd.sizeOf85,
  v22 := Tryd.zeroValue85,
  i22 := by kernel_rfl,
  t24 := Tryd.underlying81,
  a24 := Tryd.isAgg81,
  z24 := Tryd.sizeOf81,
  v24 := Tryd.zeroValue81,
  i24 := by kernel_rfl,
  t25 := Tryd.underlying86,
  a25 := Tryd.isAgg86,
  z25 := Tryd.sizeOf86,
  v25 := Tryd.zeroValue86,
  i25 := by kernel_rfl,
  t34 := Tryd.underlying109,
  a34 := Tryd.isAgg109,
  z34 := Tryd.sizeOf109,
  v34 := Tryd.zeroValue109,
  i34 := by kernel_rfl,
  c34 := by kernel_rfl,
  t36 := Tryd.underlying90,
  a36 := Tryd.isAgg90,
  z36 := Tryd.sizeOf90,
  v36 := Tryd.zeroValue90,
  i36 := by kernel_rfl,
  t37 := Tryd.underlying43,
  a37 := Tryd.isAgg43,
  z37 := Tryd.sizeOf43,
  v37 := Tryd.zeroValue43,
  i37 := by kernel_rfl,
  t39 := Tryd.underlying111,
  a39 := Tryd.isAgg111,
  z39 := Tryd.sizeOf111,
  v39 := Tryd.zeroValue111,
  i39 := by kernel_rfl,
  t44 := Tryd.underlying121,
  a44 := Tryd.isAgg121,
  z44 := Tryd.sizeOf121,
  v44 := Tryd.zeroValue121,
  i44 := by kernel_rfl,
  t47 := Tryd.underlying98,
  a47 := Tryd.isAgg98,
  z47 := Tryd.sizeOf98,
  v47 := Tryd.zeroValue98,
  i47 := by kernel_rfl,
  t48 := Tryd.underlying128,
  a48 := Tryd.isAgg128,
  z48 := Tryd.sizeOf128,
  v48 := Tryd.zeroValue128,
  i48 := by kernel_rfl,
  t50 := Tryd.underlying130,
  a50 := Tryd.isAgg130,
  z50 := Tryd.sizeOf130,
  v50 := Tryd.zeroValue130,
  i50 := by kernel_rfl,
  t52 := Tryd.underlying101,
  a52 := Tryd.isAgg101,
  z52 := Tryd.sizeOf101,
  v52 := Tryd.zeroValue101,
  i52 := by kernel_rfl,
  t55 := Tryd.underlying104,
  a55 := Tryd.isAgg104,
  z55 := Tryd.sizeOf104,
  v55 := Tryd.zeroValue104,
  i55 := by kernel_rfl,
  t59 := Tryd.underlying115,
  a59 := Tryd.isAgg115,
  z59 := Tryd.sizeOf115,
  v59 := Tryd.zeroValue115,
  i59 := by kernel_rfl,
  t60 := Tryd.underlying116,
  a60 := Tryd.isAgg116,
  z60 := Tryd.sizeOf116,
  v60 := Tryd.zeroValue116,
  i60 := by kernel_rfl,
  t61 := Tryd.underlying117,
  a61 := Tryd.isAgg117,
  z61 := Tryd.sizeOf117,
  t65 := Tryd.underlying131,
  a65 := Tryd.isAgg131,
  z65 := Tryd.sizeOf131,
  v65 := Tryd.zeroValue131,
  i65 := by kernel_rfl,
  t66 := Tryd.underlying132,
  a66 := Tryd.isAgg132,
  z66 := Tryd.sizeOf132,
  v66 := Tryd.zeroValue132,
  i66 := by kernel_rfl,
  t67 := Tryd.underlying84,
  a67 := Tryd.isAgg84,
  z67 := Tryd.sizeOf84,
  v67 := Tryd.zeroValue84,
  i67 := by kernel_rfl,
  g0 := by kernel_rfl,
  m0 := by kernel_rfl,
  g1 := by kernel_rfl,
  m1 := by kernel_rfl,
  g2 := by kernel_rfl,
  m2 := by kernel_rfl,
  g3 := by kernel_rfl,
  m3 := by kernel_rfl,
  g4 := by kernel_rfl,
  m4 := by kernel_rfl }
def Tryd.lays260_ren : Go.Shelf.Ren := ⟨fun | 260 => 60 | n => n, fun | 9 => 9 | 21 => 21 | 3 => 3 | 4 => 4 | 5 => 5 | 119 => 89 | 0 => 0 | 46 => 90 | 139 => 93 | 138 => 92 | n => n, fun | 3 => 0 | 4 => 1 | n => n⟩
theorem Tryd.lays260 : Go.Proofs.Lays.n260 Tryd.prog Tryd.lays260_ren := {
  mixed := by kernel_rfl,
  f260 := Tryd.func60.trans (congrArg some (by kernel_rfl)),
  t0 := Tryd.underlying0,
  a0 := Tryd.isAgg0,
  z0 := Tryd.sizeOf0,
  v0 := Tryd.zeroValue0,
  t3 := Tryd.underlying3,
  a3 := Tryd.isAgg3,
  z3 := Tryd.sizeOf3,
  v3 := Tryd.zeroValue3,
  t4 := Tryd.underlying4,
  a4 := Tryd.isAgg4,
  z4 := Tryd.sizeOf4,
  v4 := Tryd.zeroValue4,
  t5 := Tryd.underlying5,
  a5 := Tryd.isAgg5,
  z5 := Tryd.sizeOf5,
  v5 := Tryd.zeroValue5,
  t9 := Tryd.underlying9,
  a9 := Tryd.isAgg9,
  z9 := Tryd.sizeOf9,
  v9 := Tryd.zeroValue9,
  t21 := Tryd.underlying21,
  a21 := Tryd.isAgg21,
  z21 := Tryd.sizeOf21,
  v21 := Tryd.zeroValue21,
  t46 := Tryd.underlying90,
  a46 := Tryd.isAgg90,
  z46 := Tryd.sizeOf90,
  v46 := Tryd.zeroValue90,
  t119 := Tryd.underlying89,
  a119 := Tryd.isAgg89,
  z119 := Tryd.sizeOf89,
  t138 := Tryd.underlying92,
  a138 := Tryd.isAgg92,
  z138 := Tryd.sizeOf92,
  v138 := Tryd.zeroValue92,
  t139 := Tryd.underlying93,
  a139 := Tryd.isAgg93,
  z139 := Tryd.sizeOf93,
  v139 := Tryd.zeroValue93,
  g3 := by kernel_rfl,
  g4 := by kernel_rfl }
end Go.Proofs.YthcgccnbhdociaaDoor

namespace Go.Proofs.YthcgccnbhdociaaDoor
open Go Am Go.RowKit
set_option linter.unusedSectionVars false
set_option linter.unusedSimpArgs false
set_option linter.unusedVariables false

section
open Go.Shelf
theorem decode_kit (s : ByteArray) (w : World) (hT : Lib.Utf8Tabs 0 1 w) :
    Calls Tryd.prog 34 #[.string s] w fun e w' => e = .returned (.tuple #[.int .i32 (Lib.decodeGo s).1, .int .i64 (Lib.decodeGo s).2]) ∧ Below w.heap.size w w' := Any.utf8_DecodeRuneInString Tryd.lays197 s w hT
theorem contains_kit (s sub : ByteArray) (m : Int) (w : World) (hs : s.size < 4294967281) (hm : w.cell? ⟨2, 0, none⟩ = some (.int .i64 m)) :
    Calls Tryd.prog 63 #[.string s, .string sub] w fun e w' => e = .returned (.bool (Lib.contains s.data.toList sub.data.toList)) ∧ w' = w := Any.strings_Contains Tryd.lays144 s sub m w hs hm
theorem atoi_kit (s : ByteArray) (n : Int) (hl : s.size ≤ 18) (h : Lib.atoi s.data.toList = some n) (w : World) :
    Calls Tryd.prog 87 #[.string s] w fun e w' => e = .returned (.tuple #[.int .i64 n, .nilIface]) ∧ Below w.heap.size w w' := (Any.strconv_Atoi Tryd.lays172 s n hl h w).mono fun e w' q => ⟨q.1, by obtain ⟨t, rfl⟩ := q.2; exact Lib.bytesWorld_below _ _ _⟩
theorem itoa_kit (n : Int) (h0 : -9223372036854775808 ≤ n) (h1 : n ≤ 9223372036854775807) (w : World)
    (htab : Lib.TabIs Tryd.prog w "internal/strconv.uint64pow10" .u64 Lib.pow10Tab) :
    Calls Tryd.prog 37 #[.int .i64 n] w fun e w' => e = .returned (.string ⟨(Lib.itoa n).toArray⟩) ∧ Below w.heap.size w w' := (Any.strconv_Itoa Tryd.lays171 n h0 h1 w htab).mono fun e w' q => ⟨q.1, by obtain ⟨k, os, rfl⟩ := q.2; exact ⟨rfl, rfl, rfl, by show w.heap.size ≤ (w.heap ++ os).size; rw [Array.size_append]; omega, fun j hj => Array.getElem?_append_left hj⟩⟩
theorem parse_ok_kit (s : ByteArray) (hmax : s.size ≤ 9223372036854775806) (u : Nat) (h : Lib.parseUintB 64 s.data.toList = .ok u) (w : World) :
    Calls Tryd.prog 74 #[.string s, .int .i64 10, .int .i64 64] w fun e w' => e = .returned (.tuple #[.int .u64 u, .nilIface]) ∧ Below w.heap.size w w' := (Any.strconv_ParseUint_10_at64_ok Tryd.laysPu14 s hmax u h w).mono fun e w' q => ⟨q.1, by
      rcases q.2 with rfl | rfl
      · exact Below.refl _ _
      · exact Lib.bytesWorld_below _ _ _⟩
theorem parse_range_kit (s : ByteArray) (hlim : s.size ≤ 281474976710656) (h : Lib.parseUintB 64 s.data.toList = .range) (w : World) (he : ErrAt w 5) :
    Calls Tryd.prog 74 #[.string s, .int .i64 10, .int .i64 64] w fun e w' => (∃ p, e = .returned (.tuple #[.int .u64 18446744073709551615, .iface (Tryd.laysPu14_ren.t 39) p])) ∧ Below w.heap.size w w' := by
  obtain ⟨ev, h1, h2⟩ := he
  refine (Any.strconv_ParseUint_10_at64_range Tryd.laysPu14 s hlim h ev w h1 h2).mono fun e w' q => ?_
  obtain ⟨N, h3, _, _, h6⟩ := q
  exact ⟨⟨_, h3⟩, h6⟩
end

/-- a contract of the kit, as the machine takes it -/
theorem kit_calls {f : FuncId} {args : List V} {v : V} {h : Heap} (hfn : ∃ fn, Tryd.prog.funcs[f]? = some fn ∧ fn.body.isSome = true) (H : ∀ E xs w, LibOk w → RelL E args xs → Calls Tryd.prog f xs.toArray w fun e w' => ∃ x, e = .returned x ∧ Rel E v x ∧ Below w.heap.size w w') : CallsV Tryd.prog f args h v h := by
  refine .inl ⟨hfn, fun w0 E w xs hx s => ?_⟩
  refine (H E xs w (Lay.keep s.laid s.frame) hx).mono fun e w' q => ?_
  obtain ⟨x, rfl, hv, hb⟩ := q
  exact ⟨E, x, rfl, fun _ _ q => q, hv, s.below hb⟩

theorem decode_calls (s : List UInt8) (h : Heap) : CallsV Tryd.prog 34 [.str s] h (.tuple [.int .i32 (Lib.decodeGo ⟨⟨s⟩⟩).1, .int .i64 (Lib.decodeGo ⟨⟨s⟩⟩).2]) h := by
  refine kit_calls ⟨_, Tryd.func34, by kernel_rfl⟩ fun E xs w hl hx => ?_
  obtain ⟨y, ys, rfl, q1, rfl⟩ := hx
  simp only [Rel] at q1
  subst q1
  refine (decode_kit ⟨⟨s⟩⟩ w hl.utf8).mono fun e w' q => ?_
  obtain ⟨rfl, hb⟩ := q
  refine ⟨_, rfl, ?_, hb⟩
  simp only [Rel]
  exact ⟨_, rfl, _, _, rfl, rfl, _, _, rfl, rfl, rfl⟩
theorem contains_calls (s sub : List UInt8) (hs : s.length ≤ 100000) (h : Heap) : CallsV Tryd.prog 63 [.str s, .str sub] h (.bool (Lib.contains s sub)) h := by
  refine kit_calls ⟨_, Tryd.func63, by kernel_rfl⟩ fun E xs w hl hx => ?_
  obtain ⟨y, ys, rfl, q1, z, zs, rfl, q2, rfl⟩ := hx
  simp only [Rel] at q1 q2
  subst q1 q2
  obtain ⟨m, hm⟩ := hl.maxLen
  refine (contains_kit ⟨⟨s⟩⟩ ⟨⟨sub⟩⟩ m w (by show s.length < 4294967281; omega) hm).mono fun e w' q => ?_
  obtain ⟨rfl, rfl⟩ := q
  refine ⟨_, rfl, ?_, Below.refl _ _⟩
  simp only [Rel]
theorem atoi_calls (s : List UInt8) (n : Int) (hl : s.length ≤ 18) (h : Lib.atoi s = some n) (hp : Heap) : CallsV Tryd.prog 87 [.str s] hp (.tuple [.int .i64 n, .nilIface]) hp := by
  refine kit_calls ⟨_, Tryd.func87, by kernel_rfl⟩ fun E xs w hlb hx => ?_
  obtain ⟨y, ys, rfl, q1, rfl⟩ := hx
  simp only [Rel] at q1
  subst q1
  refine (atoi_kit ⟨⟨s⟩⟩ n hl h w).mono fun e w' q => ?_
  obtain ⟨rfl, hb⟩ := q
  refine ⟨_, rfl, ?_, hb⟩
  simp only [Rel]
  exact ⟨_, rfl, _, _, rfl, rfl, _, _, rfl, rfl, rfl⟩
theorem itoa_calls (n : Int) (h0 : -9223372036854775808 ≤ n) (h1 : n ≤ 9223372036854775807) (hp : Heap) : CallsV Tryd.prog 37 [.int .i64 n] hp (.str (Lib.itoa n)) hp := by
  refine kit_calls ⟨_, Tryd.func37, by kernel_rfl⟩ fun E xs w hlb hx => ?_
  obtain ⟨y, ys, rfl, q1, rfl⟩ := hx
  simp only [Rel] at q1
  subst q1
  refine (itoa_kit n h0 h1 w hlb.pow10).mono fun e w' q => ?_
  obtain ⟨rfl, hb⟩ := q
  refine ⟨_, rfl, ?_, hb⟩
  simp only [Rel]
theorem parse_ok (s : List UInt8) (u : Nat) (hl : s.length ≤ 100000) (h : Lib.parseUintB 64 s = .ok u) (hp : Heap) : CallsV Tryd.prog 74 [.str s, .int .i64 10, .int .i64 64] hp (.tuple [.int .u64 u, .nilIface]) hp := by
  refine kit_calls ⟨_, Tryd.func74, by kernel_rfl⟩ fun E xs w hlb hx => ?_
  obtain ⟨y, ys, rfl, q1, z, zs, rfl, q2, t, ts, rfl, q3, rfl⟩ := hx
  simp only [Rel] at q1 q2 q3
  subst q1 q2 q3
  refine (parse_ok_kit ⟨⟨s⟩⟩ (by show s.length ≤ 9223372036854775806; omega) u h w).mono fun e w' q => ?_
  obtain ⟨rfl, hb⟩ := q
  refine ⟨_, rfl, ?_, hb⟩
  simp only [Rel]
  exact ⟨_, rfl, _, _, rfl, rfl, _, _, rfl, rfl, rfl⟩
def errT : TypeId := Tryd.laysPu14_ren.t 39
theorem parse_range (s : List UInt8) (hl : s.length ≤ 100000) (h : Lib.parseUintB 64 s = .range) (hp : Heap) : CallsV Tryd.prog 74 [.str s, .int .i64 10, .int .i64 64] hp (.tuple [.int .u64 18446744073709551615, .iface errT .bad]) hp := by
  refine kit_calls ⟨_, Tryd.func74, by kernel_rfl⟩ fun E xs w hlb hx => ?_
  obtain ⟨y, ys, rfl, q1, z, zs, rfl, q2, t, ts, rfl, q3, rfl⟩ := hx
  simp only [Rel] at q1 q2 q3
  subst q1 q2 q3
  refine (parse_range_kit ⟨⟨s⟩⟩ (by show s.length ≤ 281474976710656; omega) h w hlb.errRange).mono fun e w' q => ?_
  obtain ⟨⟨p, rfl⟩, hb⟩ := q
  refine ⟨_, rfl, ?_, hb⟩
  simp only [Rel]
  exact ⟨_, rfl, _, _, rfl, rfl, _, _, rfl, ⟨p, rfl, trivial⟩, rfl⟩
end Go.Proofs.YthcgccnbhdociaaDoor

namespace Go.Proofs.YthcgccnbhdociaaDoor
open Go Am
set_option linter.unusedSectionVars false
set_option linter.unusedSimpArgs false
set_option linter.unusedVariables false

/-! What Lex says, in plain Lean. -/
/-- how wide the character is that begins there; 0: none does -/
def cw (s : List UInt8) (i : Nat) : Nat := if decodeL s i = (65533, 1) then 0 else (decodeL s i).2
def rightF : Nat → List UInt8 → Nat → Nat
  | 0, s, _ => s.length
  | f + 1, s, a => if a < s.length then (if cw s a = 0 then a else rightF f s (a + cw s a)) else s.length
def rightA (s : List UInt8) (a : Nat) : Nat := rightF (s.length - a) s a
def rightM (s : List UInt8) : Nat := rightA s 0
theorem rightF_stable (s : List UInt8) : ∀ (f g a : Nat), s.length - a ≤ f → s.length - a ≤ g → rightF f s a = rightF g s a
  | 0, g, a, h1, h2 => by
    cases g with
    | zero => rfl
    | succ g => simp only [rightF]; rw [if_neg (by omega)]
  | f + 1, 0, a, h1, h2 => by simp only [rightF]; rw [if_neg (by omega)]
  | f + 1, g + 1, a, h1, h2 => by
    simp only [rightF]
    by_cases ha : a < s.length
    · rw [if_pos ha, if_pos ha]
      by_cases hc : cw s a = 0
      · rw [if_pos hc, if_pos hc]
      · rw [if_neg hc, if_neg hc]
        exact rightF_stable s f g _ (by omega) (by omega)
    · rw [if_neg ha, if_neg ha]
theorem rightA_end {s : List UInt8} {a : Nat} (h : s.length ≤ a) : rightA s a = s.length := by
  unfold rightA
  rw [show s.length - a = 0 from by omega]
  rfl
theorem rightA_bad {s : List UInt8} {a : Nat} (h : a < s.length) (hc : cw s a = 0) : rightA s a = a := by
  unfold rightA
  rw [show s.length - a = s.length - a - 1 + 1 from by omega, rightF, if_pos h, if_pos hc]
theorem rightA_step {s : List UInt8} {a : Nat} (h : a < s.length) (hc : cw s a ≠ 0) : rightA s a = rightA s (a + cw s a) := by
  unfold rightA
  rw [show s.length - a = s.length - a - 1 + 1 from by omega, rightF, if_pos h, if_neg hc]
  exact rightF_stable s _ _ _ (by omega) (by omega)
theorem rightA_le {s : List UInt8} : ∀ (f a : Nat), rightF f s a ≤ s.length
  | 0, a => Nat.le_refl _
  | f + 1, a => by
    simp only [rightF]
    split
    · split
      · omega
      · exact rightA_le f _
    · omega

def dig (c : UInt8) : Bool := digitB c.toNat
def ltr (c : UInt8) : Bool := letterB c.toNat
def valM (l : List UInt8) : Nat := l.foldl (fun n c => 10 * n + (c.toNat - 48)) 0
/-- a word: its kind, its number, its text, how many bytes it takes; or what is wrong -/
abbrev Res := Except Int (Int × Int × List UInt8 × Nat)
def numM (r : List UInt8) : Res :=
  let t := r.takeWhile dig
  if 2147483647 < valM t then .error 254 else .ok (1, (if 1073741823 < (valM t : Int) then (valM t : Int) - 2147483648 else valM t), [], t.length)
def escM : List UInt8 → Option (UInt8 × Nat)
  | [] => none
  | c :: r => if c = 110 then some (10, 1) else if c = 116 then some (9, 1) else if c = 34 then some (34, 1) else if c = 92 then some (92, 1) else
    if 2 ≤ r.length ∧ dig c ∧ dig (r[0]?.getD 0) ∧ dig (r[1]?.getD 0) ∧ valM (c :: r.take 2) < 256 then some ((valM (c :: r.take 2)).toUInt8, 3) else none
def textF : Nat → List UInt8 → Option (List UInt8 × Nat)
  | 0, _ => none
  | _ + 1, [] => none
  | f + 1, c :: r => if c = 34 then some ([], 1) else if c = 92 then (match escM r with
      | none => none
      | some (b, n) => (textF f (r.drop n)).map fun q => (b :: q.1, q.2 + n + 1))
    else if c < 32 ∨ c = 127 then none else (textF f r).map fun q => (c :: q.1, q.2 + 1)
def textM (r : List UInt8) : Option (List UInt8 × Nat) := textF r.length r
def strM (r : List UInt8) : Res :=
  match textM r with
  | none => .error 252
  | some (b, n) => if 4096 < b.length then .error 255 else .ok (2, 0, b, n + 1)
def keyList : List (List UInt8) := [[97, 110, 100], [98, 101, 103, 105, 110], [101, 108, 115, 101], [101, 110, 100], [101, 120, 99, 101, 112, 116, 105, 111, 110], [102, 97, 108, 115, 101], [102, 117, 110], [105, 102], [105, 110], [108, 101, 116], [109, 97, 116, 99, 104], [109, 111, 100], [111, 102], [114, 97, 105, 115, 101], [114, 101, 99], [116, 104, 101, 110], [116, 114, 117, 101], [116, 114, 121], [116, 121, 112, 101], [119, 105, 116, 104]]
def signList : List (List UInt8) := [[59, 59], [58, 61], [45, 62], [60, 61], [59], [40], [41], [44], [61], [60], [43], [45], [42], [47], [124], [33], [95]]
def keyB (t : List UInt8) : Bool := keyList.contains t
def nameM (kind : Int) (r : List UInt8) : Res :=
  let t := r.takeWhile ltr
  if kind = 3 ∧ t = [95] then .ok (7, 0, t, t.length) else if kind = 3 ∧ keyB t then .ok (6, 0, t, t.length) else if 64 < t.length then .error 255 else .ok (kind, 0, t, t.length)
def signM (r : List UInt8) : Res :=
  match signList.find? (·.isPrefixOf r) with
  | some t => .ok (7, 0, t, t.length)
  | none => .error 251
def headSmall : List UInt8 → Bool
  | d :: _ => smallB d.toNat
  | [] => false
def nextM : List UInt8 → Res
  | [] => .error 0
  | c :: r => if dig c then numM (c :: r) else if c = 34 then strM r else if smallB c.toNat || c = 95 then nameM 3 (c :: r) else if greatB c.toNat then nameM 4 (c :: r) else
    if c = 39 ∧ headSmall r then (nameM 5 r).map fun q => (q.1, q.2.1, q.2.2.1, q.2.2.2 + 1) else signM (c :: r)
structure Wd where
  kind : Int
  num : Int
  pos : Nat
  text : List UInt8
deriving DecidableEq
def blank (c : UInt8) : Bool := c = 9 || c = 10 || c = 13 || c = 32
def consOk (w : Wd) : Except (Int × Nat) (List Wd) → Except (Int × Nat) (List Wd)
  | .ok ws => .ok (w :: ws)
  | .error e => .error e
def lexF : Nat → List UInt8 → Nat → Except (Int × Nat) (List Wd)
  | 0, _, _ => .ok []
  | _ + 1, [], _ => .ok []
  | f + 1, c :: r, p => if blank c then lexF f r (p + 1) else if ([40, 42] : List UInt8).isPrefixOf (c :: r) then (match noteM (c :: r) 0 with
      | none => .error (253, p)
      | some n => lexF f ((c :: r).drop n) (p + n))
    else match nextM (c :: r) with
      | .error e => .error (e, p)
      | .ok q => consOk ⟨q.1, q.2.1, p, q.2.2.1⟩ (lexF f ((c :: r).drop q.2.2.2) (p + q.2.2.2))
def lexR (r : List UInt8) (p : Nat) : Except (Int × Nat) (List Wd) := lexF r.length r p
def lexM (s : List UInt8) : Except (Int × Nat) (List Wd) :=
  if 65536 < s.length then .error (3, 0) else if rightM s < s.length then .error (250, rightM s) else lexR s 0

/-! Steps. -/
theorem take_pos {p : UInt8 → Bool} {c : UInt8} {r : List UInt8} (h : p c = true) : 1 ≤ ((c :: r).takeWhile p).length := by
  simp only [List.takeWhile_cons, h, if_true, List.length_cons]
  omega
theorem sign_pos {t : List UInt8} (h : t ∈ signList) : 1 ≤ t.length := by
  revert t
  decide
theorem small_ltr {c : UInt8} (h : smallB c.toNat = true) : ltr c = true := by unfold ltr letterB; rw [h]; simp
theorem great_ltr {c : UInt8} (h : greatB c.toNat = true) : ltr c = true := by unfold ltr letterB; rw [h]; simp
theorem under_ltr {c : UInt8} (h : c = 95) : ltr c = true := by subst h; decide
theorem nameM_pos {k : Int} {r : List UInt8} {q : Int × Int × List UInt8 × Nat} (h : nameM k r = .ok q) : q.2.2.2 = (r.takeWhile ltr).length := by
  unfold nameM at h
  simp only at h
  split at h
  · cases h; rfl
  · split at h
    · cases h; rfl
    · split at h
      · cases h
      · cases h; rfl
theorem nextM_pos {r : List UInt8} {q : Int × Int × List UInt8 × Nat} (h : nextM r = .ok q) : 1 ≤ q.2.2.2 := by
  match r, h with
  | c :: r, h =>
    simp only [nextM] at h
    split at h
    · rename_i hd
      unfold numM at h
      simp only at h
      split at h
      · cases h
      · cases h
        exact take_pos hd
    · split at h
      · unfold strM at h
        split at h
        · cases h
        · split at h
          · cases h
          · cases h; simp only; omega
      · split at h
        · rename_i hs
          rw [nameM_pos h]
          simp only [Bool.or_eq_true, decide_eq_true_eq] at hs
          exact take_pos (hs.elim small_ltr under_ltr)
        · split at h
          · rename_i hs
            rw [nameM_pos h]
            exact take_pos (great_ltr hs)
          · split at h
            · cases hn : nameM 5 r with
              | error e => rw [hn] at h; cases h
              | ok q' => rw [hn] at h; cases h; simp only; omega
            · unfold signM at h
              split at h
              · rename_i t ht
                cases h
                exact sign_pos (List.mem_of_find?_eq_some ht)
              · cases h
theorem noteM_pos : ∀ {r : List UInt8} {d : Int} {n : Nat}, noteM r d = some n → 2 ≤ n
  | [], d, n, h => by simp [noteM] at h
  | [_], d, n, h => by simp [noteM] at h
  | x :: y :: r, d, n, h => by
    rw [noteM] at h
    split at h
    · cases hq : noteM r (d + 1) with
      | none => rw [hq] at h; cases h
      | some m => rw [hq] at h; cases h; simp only; omega
    · split at h
      · split at h
        · cases h; omega
        · cases hq : noteM r (d - 1) with
          | none => rw [hq] at h; cases h
          | some m => rw [hq] at h; cases h; simp only; omega
      · cases hq : noteM (y :: r) d with
        | none => rw [hq] at h; cases h
        | some m => rw [hq] at h; cases h; have := noteM_pos hq; simp only; omega
theorem lexF_stable : ∀ (f g : Nat) (r : List UInt8) (p : Nat), r.length ≤ f → r.length ≤ g → lexF f r p = lexF g r p
  | 0, g, r, p, h1, h2 => by
    have : r = [] := List.length_eq_zero_iff.1 (by omega)
    subst this
    cases g <;> rfl
  | f + 1, 0, r, p, h1, h2 => by
    have : r = [] := List.length_eq_zero_iff.1 (by omega)
    subst this
    rfl
  | f + 1, g + 1, [], p, h1, h2 => rfl
  | f + 1, g + 1, c :: r, p, h1, h2 => by
    simp only [List.length_cons] at h1 h2
    simp only [lexF]
    split
    · exact lexF_stable f g _ _ (by omega) (by omega)
    · split
      · split
        · rfl
        · rename_i n hn
          have := noteM_pos hn
          exact lexF_stable f g _ _ (by rw [List.length_drop, List.length_cons]; omega) (by rw [List.length_drop, List.length_cons]; omega)
      · split
        · rfl
        · rename_i q hq
          have := nextM_pos hq
          rw [lexF_stable f g _ _ (by rw [List.length_drop, List.length_cons]; omega) (by rw [List.length_drop, List.length_cons]; omega)]
theorem lexR_cons (c : UInt8) (r : List UInt8) (p : Nat) : lexR (c :: r) p = if blank c then lexR r (p + 1) else if ([40, 42] : List UInt8).isPrefixOf (c :: r) then (match noteM (c :: r) 0 with
      | none => .error (253, p)
      | some n => lexR ((c :: r).drop n) (p + n))
    else match nextM (c :: r) with
      | .error e => .error (e, p)
      | .ok q => consOk ⟨q.1, q.2.1, p, q.2.2.1⟩ (lexR ((c :: r).drop q.2.2.2) (p + q.2.2.2)) := by
  unfold lexR
  simp only [List.length_cons, lexF]
  split
  · rfl
  · split
    · split
      · rfl
      · rename_i n hn
        have := noteM_pos hn
        exact lexF_stable _ _ _ _ (by rw [List.length_drop, List.length_cons]; omega) (Nat.le_refl _)
    · split
      · rfl
      · rename_i q hq
        have := nextM_pos hq
        rw [lexF_stable _ _ _ _ (by rw [List.length_drop, List.length_cons]; omega) (Nat.le_refl _)]
theorem textF_stable : ∀ (f g : Nat) (r : List UInt8), r.length ≤ f → r.length ≤ g → textF f r = textF g r
  | 0, g, r, h1, h2 => by
    have : r = [] := List.length_eq_zero_iff.1 (by omega)
    subst this
    cases g <;> rfl
  | f + 1, 0, r, h1, h2 => by
    have : r = [] := List.length_eq_zero_iff.1 (by omega)
    subst this
    rfl
  | f + 1, g + 1, [], h1, h2 => rfl
  | f + 1, g + 1, c :: r, h1, h2 => by
    simp only [List.length_cons] at h1 h2
    simp only [textF]
    split
    · rfl
    · split
      · split
        · rfl
        · rw [textF_stable f g _ (by rw [List.length_drop]; omega) (by rw [List.length_drop]; omega)]
      · split
        · rfl
        · rw [textF_stable f g _ (by omega) (by omega)]
theorem textM_nil : textM [] = none := rfl
theorem textM_cons (c : UInt8) (r : List UInt8) : textM (c :: r) = if c = 34 then some ([], 1) else if c = 92 then (match escM r with
      | none => none
      | some (b, n) => (textM (r.drop n)).map fun q => (b :: q.1, q.2 + n + 1))
    else if c < 32 ∨ c = 127 then none else (textM r).map fun q => (c :: q.1, q.2 + 1) := by
  unfold textM
  simp only [List.length_cons, textF]
  split
  · rfl
  · split
    · split
      · rfl
      · rw [textF_stable _ _ _ (by rw [List.length_drop]; omega) (Nat.le_refl _)]
    · rfl

/-- digits' value, as the library reads it -/
theorem fold_mono : ∀ (l : List UInt8) (a : Nat), a ≤ l.foldl (fun n c => 10 * n + (c.toNat - 48)) a
  | [], a => Nat.le_refl _
  | c :: l, a => by
    simp only [List.foldl_cons]
    exact Nat.le_trans (by omega) (fold_mono l _)
def fv (a : Nat) (l : List UInt8) : Nat := l.foldl (fun n c => 10 * n + (c.toNat - 48)) a
theorem fv_cons (a : Nat) (c : UInt8) (l : List UInt8) : fv a (c :: l) = fv (10 * a + (c.toNat - 48)) l := by unfold fv; rw [List.foldl_cons]
theorem parse_fold (M : Nat) (hM : M < 18446744073709551620) (l : List UInt8) : ∀ (a : Nat), (∀ c ∈ l, dig c = true) → (fv a l ≤ M → Lib.parseUintM M a l = .ok (fv a l)) ∧ (a ≤ M → ¬ fv a l ≤ M → Lib.parseUintM M a l = .range) := by
  induction l with
  | nil =>
    intro a _
    refine ⟨fun _ => ?_, fun h1 h2 => absurd h1 h2⟩
    simp only [Lib.parseUintM, fv, List.foldl_nil]
  | cons c l ihl =>
    intro a h
    have hc := h c (List.mem_cons_self ..)
    simp only [dig, digitB, Bool.and_eq_true, decide_eq_true_eq] at hc
    have hc1 : 48 ≤ c.toNat ∧ c.toNat ≤ 57 := by omega
    have ih := ihl (10 * a + (c.toNat - 48)) (fun x hx => h x (List.mem_cons_of_mem _ hx))
    have hm : 10 * a + (c.toNat - 48) ≤ fv (10 * a + (c.toNat - 48)) l := fold_mono l (10 * a + (c.toNat - 48))
    simp only [Lib.parseUintM, hc1, and_self, if_true]
    rw [Nat.mul_comm a 10, fv_cons]
    have hA : 10 * a ≤ 10 * a + (c.toNat - 48) := Nat.le_add_right _ _
    generalize 10 * a + (c.toNat - 48) = A at ih hm hA ⊢
    refine ⟨fun hlt => ?_, fun ha hge => ?_⟩
    · rw [if_neg (by omega), if_neg (by omega)]
      exact ih.1 hlt
    · by_cases h1 : 1844674407370955162 ≤ a
      · rw [if_pos h1]
      · rw [if_neg h1]
        by_cases h2 : M < A
        · rw [if_pos h2]
        · rw [if_neg h2]
          exact ih.2 (by omega) hge
theorem parse_digits (l : List UInt8) (h : ∀ c ∈ l, dig c = true) (hl : l ≠ []) : (valM l ≤ 18446744073709551615 → Lib.parseUintB 64 l = .ok (valM l)) ∧ (¬ valM l ≤ 18446744073709551615 → Lib.parseUintB 64 l = .range) := by
  unfold Lib.parseUintB
  rw [if_neg hl, show (2 ^ 64 - 1 : Nat) = 18446744073709551615 from by decide]
  have := parse_fold 18446744073709551615 (by omega) l 0 h
  exact ⟨this.1, this.2 (Nat.zero_le _)⟩
end Go.Proofs.YthcgccnbhdociaaDoor

namespace Go.Proofs.YthcgccnbhdociaaDoor
open Go Am
set_option linter.unusedSectionVars false
set_option linter.unusedSimpArgs false
set_option linter.unusedVariables false

/-- what a word's function does: a word, or an error -/
structure WOut (s : List UInt8) (p : Nat) (b : Pa) (h : Heap) (res : Res) (x : V) (h' : Heap) : Prop where
  mod : Mod (fun q => q = b) h h'
  res : ∃ k n t, x = .agg [.int .i64 k, .int .i64 n, .int .i64 0, .str t] ∧ match res with
     | .ok q => k = q.1 ∧ n = q.2.1 ∧ t = q.2.2.1 ∧ h'.get b = scB s ((p + q.2.2.2 : Nat) : Int) 0 ∧ p + q.2.2.2 ≤ s.length
     | .error e => e ≠ 0 ∧ ∃ a' : Int, h'.get b = scB s a' e

theorem neq81_nil {P : Program} : (BK.eqn true 5).run P .nilIface .nilIface = some (.bool false) := rfl
theorem neq81_some {P : Program} (T : TypeId) (x : V) : (BK.eqn true 5).run P (.iface T x) .nilIface = some (.bool true) := rfl
theorem take_all {p : UInt8 → Bool} {l : List UInt8} : ∀ c ∈ l.takeWhile p, p c = true := fun c hc => by
  induction l with
  | nil => simp at hc
  | cons x l ih =>
    simp only [List.takeWhile_cons] at hc
    split at hc
    · rename_i hx
      rcases List.mem_cons.1 hc with rfl | hc
      · exact hx
      · exact ih hc
    · simp at hc
theorem take_le (p : UInt8 → Bool) (s : List UInt8) (a : Nat) : ((s.drop a).takeWhile p).length ≤ s.length - a := by
  have := take_while_len p (s.drop a)
  rwa [List.length_drop] at this

theorem number_ctr (s : List UInt8) (a0 : Nat) (b : Pa) (h : Heap) (hb : h.get b = scB s a0 0) (h0 : a0 < s.length) (hs : s.length ≤ 100000) (hob : Old h b) (hd : dig s[a0] = true) :
    Ctr Tryd.prog 45 [.ptr b 0] h (WOut s a0 b h (numM (s.drop a0))) := by
  refine c45_ctr rfl (wpK_of ?_)
  unfold c45
  have nb : (b = pa h.next) = False := new_ne hob (Nat.le_refl _)
  have bn : (pa h.next = b) = False := by rw [← nb]; exact propext eq_comm
  simp +contextual only [hb, nb, bn, ↓wA, wB, wZ, repeatV, RX.evs, spl, over, ones, Ex.ends, evR, oneOf, top, ↓reduceIte, Nat.reduceEqDiff, Nat.reduceLeDiff, Nat.reduceAdd, Nat.reduceSub, Nat.reduceMul, reduceCtorEq, Int.reduceEq, Int.reduceLT, Int.reduceLE, Int.reduceNeg, Int.reduceAdd, Int.reduceSub]
  have hx : Ext h (h.new (.ofL [.int .i64 0, .int .i64 0, .int .i64 0, .str []] 0 false)) := (Ext.refl h).new _
  refine callK_intro (run_ctr s a0 0 b 44 digitB _ (by rw [hx.get _ hob, hb]) (by omega) hs (fun c h => digit_pure c h)) ?_
  rintro x h1 ⟨rfl, hm, hg⟩
  have et : (fun c : UInt8 => digitB (c.toNat : Int)) = dig := rfl
  rw [et] at hg ⊢
  have hmm : Mod (fun q => q = b) h h1 := (hx.mod _).trans hm
  have g1 : h1.get (pa h.next) = .ofL [.int .i64 0, .int .i64 0, .int .i64 0, .str []] 0 false := by
    rw [hm.get _ (old_lt (by rw [next_new]; omega)) (by rw [bn]; exact id)]
    simp only [↓wA, wB, wZ, repeatV, RX.evs, spl, over, ones, Ex.ends, evR, oneOf, top, ↓reduceIte, Nat.reduceEqDiff, Nat.reduceLeDiff, Nat.reduceAdd, Nat.reduceSub, Nat.reduceMul, reduceCtorEq, Int.reduceEq, Int.reduceLT, Int.reduceLE, Int.reduceNeg, Int.reduceAdd, Int.reduceSub]
  have hne : (s.drop a0).takeWhile dig ≠ [] := by
    rw [drop_cons h0, List.takeWhile_cons, hd]
    simp
  have hlen := take_le dig s a0
  have hp := parse_digits ((s.drop a0).takeWhile dig) take_all hne
  unfold scB at hg
  have hn1 : numM (s.drop a0) = if 2147483647 < valM ((s.drop a0).takeWhile dig) then .error 254 else .ok (1, (if 1073741823 < (valM ((s.drop a0).takeWhile dig) : Int) then (valM ((s.drop a0).takeWhile dig) : Int) - 2147483648 else valM ((s.drop a0).takeWhile dig)), [], ((s.drop a0).takeWhile dig).length) := rfl
  rw [hn1]
  generalize (s.drop a0).takeWhile dig = t at *
  simp +contextual only [↓wA, wB, wZ, repeatV, RX.evs, spl, over, ones, Ex.ends, evR, oneOf, top, ↓reduceIte, Nat.reduceEqDiff, Nat.reduceLeDiff, Nat.reduceAdd, Nat.reduceSub, Nat.reduceMul, reduceCtorEq, Int.reduceEq, Int.reduceLT, Int.reduceLE, Int.reduceNeg, Int.reduceAdd, Int.reduceSub]
  by_cases hbig : valM t ≤ 18446744073709551615
  · refine callK_pure (parse_ok t (valM t) (by omega) (hp.1 hbig) h1) ?_
    generalize valM t = u at *
    by_cases h31 : (2147483647 : Int) < (u : Int)
    · have h31' : 2147483647 < u := by omega
      simp +contextual only [neq81_nil, h31, g1, hg, nb, bn, ↓wA, wB, wZ, repeatV, RX.evs, spl, over, ones, Ex.ends, evR, oneOf, top, ↓reduceIte, Nat.reduceEqDiff, Nat.reduceLeDiff, Nat.reduceAdd, Nat.reduceSub, Nat.reduceMul, reduceCtorEq, Int.reduceEq, Int.reduceLT, Int.reduceLE, Int.reduceNeg, Int.reduceAdd, Int.reduceSub]
      refine ⟨(hmm.set (fun _ => rfl) _).set (fun q => absurd (show unPa (pa h.next) < h.next from q) (by rw [unPa_pa]; omega)) _, ?_⟩
      rw [if_pos h31']
      refine ⟨_, _, _, rfl, by decide, ((a0 + t.length : Nat) : Int), ?_⟩
      simp only [scB, nb, bn, ↓wA, wB, wZ, repeatV, RX.evs, spl, over, ones, Ex.ends, evR, oneOf, top, ↓reduceIte, Nat.reduceEqDiff, Nat.reduceLeDiff, Nat.reduceAdd, Nat.reduceSub, Nat.reduceMul, reduceCtorEq, Int.reduceEq, Int.reduceLT, Int.reduceLE, Int.reduceNeg, Int.reduceAdd, Int.reduceSub]
    · have h31' : ¬ 2147483647 < u := by omega
      have w1 : IntKind.i64.wrap (u : Int) = (u : Int) := wrap_i64 (by omega) (by omega)
      have w2 : IntKind.i64.wrap ((u : Int) - 2147483648) = (u : Int) - 2147483648 := wrap_i64 (by omega) (by omega)
      by_cases h30 : (1073741823 : Int) < (u : Int)
      · simp +contextual only [neq81_nil, h31, h31', h30, g1, hg, nb, bn, w1, w2, ↓wA, wB, wZ, repeatV, RX.evs, spl, over, ones, Ex.ends, evR, oneOf, top, ↓reduceIte, Nat.reduceEqDiff, Nat.reduceLeDiff, Nat.reduceAdd, Nat.reduceSub, Nat.reduceMul, reduceCtorEq, Int.reduceEq, Int.reduceLT, Int.reduceLE, Int.reduceNeg, Int.reduceAdd, Int.reduceSub]
        refine ⟨(hmm.set (fun q => absurd (show unPa (pa h.next) < h.next from q) (by rw [unPa_pa]; omega)) _), ?_⟩
        refine ⟨_, _, _, rfl, rfl, rfl, rfl, ?_, by show a0 + t.length ≤ s.length; omega⟩
        simp only [scB, hg, nb, bn, ↓wA, wB, wZ, repeatV, RX.evs, spl, over, ones, Ex.ends, evR, oneOf, top, ↓reduceIte, Nat.reduceEqDiff, Nat.reduceLeDiff, Nat.reduceAdd, Nat.reduceSub, Nat.reduceMul, reduceCtorEq, Int.reduceEq, Int.reduceLT, Int.reduceLE, Int.reduceNeg, Int.reduceAdd, Int.reduceSub]
      · simp +contextual only [neq81_nil, h31, h31', h30, g1, hg, nb, bn, w1, w2, ↓wA, wB, wZ, repeatV, RX.evs, spl, over, ones, Ex.ends, evR, oneOf, top, ↓reduceIte, Nat.reduceEqDiff, Nat.reduceLeDiff, Nat.reduceAdd, Nat.reduceSub, Nat.reduceMul, reduceCtorEq, Int.reduceEq, Int.reduceLT, Int.reduceLE, Int.reduceNeg, Int.reduceAdd, Int.reduceSub]
        refine ⟨(hmm.set (fun q => absurd (show unPa (pa h.next) < h.next from q) (by rw [unPa_pa]; omega)) _), ?_⟩
        refine ⟨_, _, _, rfl, rfl, rfl, rfl, ?_, by show a0 + t.length ≤ s.length; omega⟩
        simp only [scB, hg, nb, bn, ↓wA, wB, wZ, repeatV, RX.evs, spl, over, ones, Ex.ends, evR, oneOf, top, ↓reduceIte, Nat.reduceEqDiff, Nat.reduceLeDiff, Nat.reduceAdd, Nat.reduceSub, Nat.reduceMul, reduceCtorEq, Int.reduceEq, Int.reduceLT, Int.reduceLE, Int.reduceNeg, Int.reduceAdd, Int.reduceSub]
  · refine callK_pure (parse_range t (by omega) (hp.2 hbig) h1) ?_
    have h31' : 2147483647 < valM t := by omega
    rw [if_pos h31']
    simp +contextual only [neq81_some, g1, hg, nb, bn, ↓wA, wB, wZ, repeatV, RX.evs, spl, over, ones, Ex.ends, evR, oneOf, top, ↓reduceIte, Nat.reduceEqDiff, Nat.reduceLeDiff, Nat.reduceAdd, Nat.reduceSub, Nat.reduceMul, reduceCtorEq, Int.reduceEq, Int.reduceLT, Int.reduceLE, Int.reduceNeg, Int.reduceAdd, Int.reduceSub]
    refine ⟨(hmm.set (fun _ => rfl) _).set (fun q => absurd (show unPa (pa h.next) < h.next from q) (by rw [unPa_pa]; omega)) _, ?_⟩
    refine ⟨_, _, _, rfl, by decide, ((a0 + t.length : Nat) : Int), ?_⟩
    simp only [scB, nb, bn, ↓wA, wB, wZ, repeatV, RX.evs, spl, over, ones, Ex.ends, evR, oneOf, top, ↓reduceIte, Nat.reduceEqDiff, Nat.reduceLeDiff, Nat.reduceAdd, Nat.reduceSub, Nat.reduceMul, reduceCtorEq, Int.reduceEq, Int.reduceLT, Int.reduceLE, Int.reduceNeg, Int.reduceAdd, Int.reduceSub]
end Go.Proofs.YthcgccnbhdociaaDoor

namespace Go.Proofs.YthcgccnbhdociaaDoor
open Go Am
set_option linter.unusedSectionVars false
set_option linter.unusedSimpArgs false
set_option linter.unusedVariables false

theorem u8_back (c : UInt8) : ((c.toNat : Int)).toNat.toUInt8 = c := by
  rw [Int.toNat_natCast]
  simp
theorem u8_eq (c : UInt8) (n : Nat) (hn : n < 256) : ((c.toNat : Int) = (n : Int)) = (c = n.toUInt8) := by
  apply propext
  constructor
  · intro q
    have : c.toNat = n := by omega
    rw [← UInt8.toNat_inj, this]
    simp
    omega
  · intro q
    subst q
    simp
    omega
theorem u8_eq' (c : UInt8) (k : UInt8) : ((c.toNat : Int) = (k.toNat : Int)) = (c = k) := by
  apply propext
  constructor
  · intro q
    rw [← UInt8.toNat_inj]
    omega
  · intro q
    rw [q]

theorem esc_ix (c : UInt8) : Lib.indexByte [110, 116, 34, 92] c = if c = 110 then 0 else if c = 116 then 1 else if c = 34 then 2 else if c = 92 then 3 else -1 := by
  simp only [Lib.indexByte, beq_iff_eq]
  by_cases h1 : c = 110
  · subst h1; decide
  · by_cases h2 : c = 116
    · subst h2; decide
    · by_cases h3 : c = 34
      · subst h3; decide
      · by_cases h4 : c = 92
        · subst h4; decide
        · have e1 : ¬ (110 : UInt8) = c := fun q => h1 q.symm
          have e2 : ¬ (116 : UInt8) = c := fun q => h2 q.symm
          have e3 : ¬ (34 : UInt8) = c := fun q => h3 q.symm
          have e4 : ¬ (92 : UInt8) = c := fun q => h4 q.symm
          simp only [h1, h2, h3, h4, e1, e2, e3, e4, if_false]
          rfl

theorem digitVal_of {c : UInt8} (h : dig c = true) : Lib.digitVal c = some (c.toNat - 48) := by
  unfold Lib.digitVal
  unfold dig digitB at h
  simp only [Bool.and_eq_true, decide_eq_true_eq] at h
  rw [if_pos (by omega)]
theorem atoi3 {a b c : UInt8} (h1 : dig a = true) (h2 : dig b = true) (h3 : dig c = true) : Lib.atoi [a, b, c] = some ((valM [a, b, c] : Nat) : Int) := by
  have ha := h1
  unfold dig digitB at ha
  simp only [Bool.and_eq_true, decide_eq_true_eq] at ha
  have n1 : (a == 45) = false := by rw [beq_eq_false_iff_ne]; rintro rfl; revert ha; decide
  have n2 : (a == 43) = false := by rw [beq_eq_false_iff_ne]; rintro rfl; revert ha; decide
  simp [Lib.atoi, n1, n2, Lib.decNat, Lib.decFrom, digitVal_of h1, digitVal_of h2, digitVal_of h3, valM]
  omega
end Go.Proofs.YthcgccnbhdociaaDoor

namespace Go.Proofs.YthcgccnbhdociaaDoor
open Go Am
set_option linter.unusedSectionVars false
set_option linter.unusedSimpArgs false
set_option linter.unusedVariables false

theorem escape_ctr (s : List UInt8) (a0 : Nat) (b : Pa) (h : Heap) (hb : h.get b = scB s a0 0) (h0 : a0 < s.length) (hs : s.length ≤ 100000) (hob : Old h b) :
    Ctr Tryd.prog 76 [.ptr b 0] h fun x h' => Mod (fun q => q = b) h h' ∧ match escM (s.drop (a0 + 1)) with
      | some (c, n) => x = .int .u8 (c.toNat : Int) ∧ h'.get b = scB s ((a0 + 1 + n : Nat) : Int) 0 ∧ a0 + 1 + n ≤ s.length
      | none => x = .int .u8 0 ∧ h'.get b = scB s ((a0 + 1 : Nat) : Int) 252 := by
  refine c76_ctr rfl (wpK_of ?_)
  unfold c76
  unfold scB at hb ⊢
  have w1 : IntKind.i64.wrap ((a0 : Int) + 1) = ((a0 + 1 : Nat) : Int) := by rw [wrap_i64 (by omega) (by omega)]; rfl
  have f0 : (0 ≤ ((a0 + 1 : Nat) : Int)) = True := eq_true (by omega)
  have f1 : (((a0 + 1 : Nat) : Int) ≤ (s.length : Int)) = True := eq_true (by omega)
  have hlR : (s.drop (a0 + 1)).length = s.length - (a0 + 1) := List.length_drop
  have z0 : ((0 : Int) ≤ 0) = True := eq_true (by omega)
  have mm : ∀ v, Am.Mod (fun q => q = b) h ((h.set b v)) := fun v => (Mod.refl (fun q => q = b) h).set (fun _ => rfl) _
  cases hR : s.drop (a0 + 1) with
  | nil =>
    simp +contextual only [hb, w1, f0, f1, Int.toNat_natCast, hR, List.length_nil, Int.natCast_zero, ↓wA, wB, wZ, repeatV, RX.evs, spl, over, ones, Ex.ends, evR, oneOf, top, ↓reduceIte, Nat.reduceEqDiff, Nat.reduceLeDiff, Nat.reduceAdd, Nat.reduceSub, Nat.reduceMul, reduceCtorEq, Int.reduceEq, Int.reduceLT, Int.reduceLE, Int.reduceNeg, Int.reduceAdd, Int.reduceSub]
    refine ⟨(mm _).set (fun _ => rfl) _, ?_⟩
    simp only [escM, get_set, if_true, true_and]
  | cons c r =>
    rw [hR] at hlR
    rw [List.length_cons] at hlR
    have e0 : (c :: r = []) = False := eq_false (by simp)
    have f2 : ((0 : Int) < ((r.length + 1 : Nat) : Int)) = True := eq_true (by omega)
    simp +contextual only [hb, w1, f0, f1, f2, e0, Int.toNat_natCast, hR, Int.reduceToNat, z0, ↓wA, wB, wZ, repeatV, RX.evs, spl, over, ones, Ex.ends, evR, oneOf, top, ↓reduceIte, Nat.reduceEqDiff, Nat.reduceLeDiff, Nat.reduceAdd, Nat.reduceSub, Nat.reduceMul, reduceCtorEq, Int.reduceEq, Int.reduceLT, Int.reduceLE, Int.reduceNeg, Int.reduceAdd, Int.reduceSub]
    refine callK_pure (index23 _ _ _) ?_
    rw [u8_back, esc_ix]
    have w2 : IntKind.i64.wrap (((a0 + 1 : Nat) : Int) + 1) = ((a0 + 2 : Nat) : Int) := by rw [wrap_i64 (by omega) (by omega)]; omega
    by_cases c1 : c = 110
    · subst c1
      simp +contextual only [hb, w1, w2, f0, f1, f2, e0, Int.toNat_natCast, hR, Int.reduceToNat, z0, List.length_cons, List.length_nil, Nat.reduceAdd, Int.reduceLT, Int.cast_ofNat_Int, ↓wA, wB, wZ, repeatV, RX.evs, spl, over, ones, Ex.ends, evR, oneOf, top, ↓reduceIte, Nat.reduceEqDiff, Nat.reduceLeDiff, Nat.reduceAdd, Nat.reduceSub, Nat.reduceMul, reduceCtorEq, Int.reduceEq, Int.reduceLT, Int.reduceLE, Int.reduceNeg, Int.reduceAdd, Int.reduceSub]
      refine ⟨(mm _).set (fun _ => rfl) _, rfl, ?_⟩
      simp only [get_set, if_true]
      refine ⟨trivial, by omega⟩
    by_cases c2 : c = 116
    · subst c2
      simp +contextual only [hb, w1, w2, f0, f1, f2, e0, Int.toNat_natCast, hR, Int.reduceToNat, z0, List.length_cons, List.length_nil, Nat.reduceAdd, Int.reduceLT, Int.cast_ofNat_Int, c1, ↓wA, wB, wZ, repeatV, RX.evs, spl, over, ones, Ex.ends, evR, oneOf, top, ↓reduceIte, Nat.reduceEqDiff, Nat.reduceLeDiff, Nat.reduceAdd, Nat.reduceSub, Nat.reduceMul, reduceCtorEq, Int.reduceEq, Int.reduceLT, Int.reduceLE, Int.reduceNeg, Int.reduceAdd, Int.reduceSub]
      refine ⟨(mm _).set (fun _ => rfl) _, rfl, ?_⟩
      simp only [get_set, if_true]
      refine ⟨trivial, by omega⟩
    by_cases c3 : c = 34
    · subst c3
      simp +contextual only [hb, w1, w2, f0, f1, f2, e0, Int.toNat_natCast, hR, Int.reduceToNat, z0, List.length_cons, List.length_nil, Nat.reduceAdd, Int.reduceLT, Int.cast_ofNat_Int, c1, c2, ↓wA, wB, wZ, repeatV, RX.evs, spl, over, ones, Ex.ends, evR, oneOf, top, ↓reduceIte, Nat.reduceEqDiff, Nat.reduceLeDiff, Nat.reduceAdd, Nat.reduceSub, Nat.reduceMul, reduceCtorEq, Int.reduceEq, Int.reduceLT, Int.reduceLE, Int.reduceNeg, Int.reduceAdd, Int.reduceSub]
      refine ⟨(mm _).set (fun _ => rfl) _, rfl, ?_⟩
      simp only [get_set, if_true]
      refine ⟨trivial, by omega⟩
    by_cases c4 : c = 92
    · subst c4
      simp +contextual only [hb, w1, w2, f0, f1, f2, e0, Int.toNat_natCast, hR, Int.reduceToNat, z0, List.length_cons, List.length_nil, Nat.reduceAdd, Int.reduceLT, Int.cast_ofNat_Int, c1, c2, c3, ↓wA, wB, wZ, repeatV, RX.evs, spl, over, ones, Ex.ends, evR, oneOf, top, ↓reduceIte, Nat.reduceEqDiff, Nat.reduceLeDiff, Nat.reduceAdd, Nat.reduceSub, Nat.reduceMul, reduceCtorEq, Int.reduceEq, Int.reduceLT, Int.reduceLE, Int.reduceNeg, Int.reduceAdd, Int.reduceSub]
      refine ⟨(mm _).set (fun _ => rfl) _, rfl, ?_⟩
      simp only [get_set, if_true]
      refine ⟨trivial, by omega⟩
    match r, hR, hlR, f2, e0 with
    | [], hR, hlR, f2, e0 =>
      simp +contextual only [hb, w1, w2, f0, f1, f2, e0, Int.toNat_natCast, hR, Int.reduceToNat, z0, List.length_cons, List.length_nil, Nat.reduceAdd, Int.reduceLT, Int.cast_ofNat_Int, c1, c2, c3, c4, ↓wA, wB, wZ, repeatV, RX.evs, spl, over, ones, Ex.ends, evR, oneOf, top, ↓reduceIte, Nat.reduceEqDiff, Nat.reduceLeDiff, Nat.reduceAdd, Nat.reduceSub, Nat.reduceMul, reduceCtorEq, Int.reduceEq, Int.reduceLT, Int.reduceLE, Int.reduceNeg, Int.reduceAdd, Int.reduceSub]
      refine ⟨(mm _).set (fun _ => rfl) _, ?_⟩
      simp [escM, c1, c2, c3, c4, get_set]
    | [_], hR, hlR, f2, e0 =>
      simp +contextual only [hb, w1, w2, f0, f1, f2, e0, Int.toNat_natCast, hR, Int.reduceToNat, z0, List.length_cons, List.length_nil, Nat.reduceAdd, Int.reduceLT, Int.cast_ofNat_Int, c1, c2, c3, c4, ↓wA, wB, wZ, repeatV, RX.evs, spl, over, ones, Ex.ends, evR, oneOf, top, ↓reduceIte, Nat.reduceEqDiff, Nat.reduceLeDiff, Nat.reduceAdd, Nat.reduceSub, Nat.reduceMul, reduceCtorEq, Int.reduceEq, Int.reduceLT, Int.reduceLE, Int.reduceNeg, Int.reduceAdd, Int.reduceSub]
      refine ⟨(mm _).set (fun _ => rfl) _, ?_⟩
      simp [escM, c1, c2, c3, c4, get_set]
    | d1 :: d2 :: r', hR, hlR, f2, e0 =>
      simp only [List.length_cons] at hlR
      have g3 : ((3 : Int) ≤ ((r'.length + 3 : Nat) : Int)) = True := eq_true (by omega)
      have g2 : ((2 : Int) < ((r'.length + 3 : Nat) : Int)) = True := eq_true (by omega)
      have g1 : ((1 : Int) < ((r'.length + 3 : Nat) : Int)) = True := eq_true (by omega)
      have g0 : ((0 : Int) < ((r'.length + 3 : Nat) : Int)) = True := eq_true (by omega)
      have em : escM (c :: d1 :: d2 :: r') = if dig c ∧ dig d1 ∧ dig d2 ∧ valM [c, d1, d2] < 256 then some ((valM [c, d1, d2]).toUInt8, 3) else none := by
        simp [escM, c1, c2, c3, c4]
      rw [em]
      simp +contextual only [hb, w1, w2, f0, f1, g0, g1, g2, g3, e0, Int.toNat_natCast, hR, Int.reduceToNat, z0, List.length_cons, List.length_nil, Nat.reduceAdd, Int.reduceLT, Int.cast_ofNat_Int, c1, c2, c3, c4, ↓wA, wB, wZ, repeatV, RX.evs, spl, over, ones, Ex.ends, evR, oneOf, top, ↓reduceIte, Nat.reduceEqDiff, Nat.reduceLeDiff, Nat.reduceAdd, Nat.reduceSub, Nat.reduceMul, reduceCtorEq, Int.reduceEq, Int.reduceLT, Int.reduceLE, Int.reduceNeg, Int.reduceAdd, Int.reduceSub]
      refine callK_pure (digit_pure _ _) ?_
      have dg : ∀ x : UInt8, digitB (x.toNat : Int) = dig x := fun _ => rfl
      simp only [dg]
      cases hd0 : dig c with
      | false =>
        simp +contextual only [hb, w1, w2, f0, f1, g0, g1, g2, g3, e0, Int.toNat_natCast, hR, Int.reduceToNat, z0, List.length_cons, List.length_nil, Nat.reduceAdd, Int.reduceLT, Int.cast_ofNat_Int, c1, c2, c3, c4, false_and, Bool.false_eq_true, ↓wA, wB, wZ, repeatV, RX.evs, spl, over, ones, Ex.ends, evR, oneOf, top, ↓reduceIte, Nat.reduceEqDiff, Nat.reduceLeDiff, Nat.reduceAdd, Nat.reduceSub, Nat.reduceMul, reduceCtorEq, Int.reduceEq, Int.reduceLT, Int.reduceLE, Int.reduceNeg, Int.reduceAdd, Int.reduceSub]
        exact (mm _).set (fun _ => rfl) _
      | true =>
        simp +contextual only [hb, w1, w2, f0, f1, g0, g1, g2, g3, e0, Int.toNat_natCast, hR, Int.reduceToNat, z0, List.length_cons, List.length_nil, Nat.reduceAdd, Int.reduceLT, Int.cast_ofNat_Int, c1, c2, c3, c4, ↓wA, wB, wZ, repeatV, RX.evs, spl, over, ones, Ex.ends, evR, oneOf, top, ↓reduceIte, Nat.reduceEqDiff, Nat.reduceLeDiff, Nat.reduceAdd, Nat.reduceSub, Nat.reduceMul, reduceCtorEq, Int.reduceEq, Int.reduceLT, Int.reduceLE, Int.reduceNeg, Int.reduceAdd, Int.reduceSub]
        refine callK_pure (digit_pure _ _) ?_
        simp only [dg]
        cases hd1 : dig d1 with
        | false =>
          simp +contextual only [hb, w1, w2, f0, f1, g0, g1, g2, g3, e0, Int.toNat_natCast, hR, Int.reduceToNat, z0, List.length_cons, List.length_nil, Nat.reduceAdd, Int.reduceLT, Int.cast_ofNat_Int, c1, c2, c3, c4, false_and, and_false, Bool.false_eq_true, ↓wA, wB, wZ, repeatV, RX.evs, spl, over, ones, Ex.ends, evR, oneOf, top, ↓reduceIte, Nat.reduceEqDiff, Nat.reduceLeDiff, Nat.reduceAdd, Nat.reduceSub, Nat.reduceMul, reduceCtorEq, Int.reduceEq, Int.reduceLT, Int.reduceLE, Int.reduceNeg, Int.reduceAdd, Int.reduceSub]
          exact (mm _).set (fun _ => rfl) _
        | true =>
          simp +contextual only [hb, w1, w2, f0, f1, g0, g1, g2, g3, e0, Int.toNat_natCast, hR, Int.reduceToNat, z0, List.length_cons, List.length_nil, Nat.reduceAdd, Int.reduceLT, Int.cast_ofNat_Int, c1, c2, c3, c4, ↓wA, wB, wZ, repeatV, RX.evs, spl, over, ones, Ex.ends, evR, oneOf, top, ↓reduceIte, Nat.reduceEqDiff, Nat.reduceLeDiff, Nat.reduceAdd, Nat.reduceSub, Nat.reduceMul, reduceCtorEq, Int.reduceEq, Int.reduceLT, Int.reduceLE, Int.reduceNeg, Int.reduceAdd, Int.reduceSub]
          refine callK_pure (digit_pure _ _) ?_
          simp only [dg]
          cases hd2 : dig d2 with
          | false =>
            simp +contextual only [hb, w1, w2, f0, f1, g0, g1, g2, g3, e0, Int.toNat_natCast, hR, Int.reduceToNat, z0, List.length_cons, List.length_nil, Nat.reduceAdd, Int.reduceLT, Int.cast_ofNat_Int, c1, c2, c3, c4, false_and, and_false, Bool.false_eq_true, ↓wA, wB, wZ, repeatV, RX.evs, spl, over, ones, Ex.ends, evR, oneOf, top, ↓reduceIte, Nat.reduceEqDiff, Nat.reduceLeDiff, Nat.reduceAdd, Nat.reduceSub, Nat.reduceMul, reduceCtorEq, Int.reduceEq, Int.reduceLT, Int.reduceLE, Int.reduceNeg, Int.reduceAdd, Int.reduceSub]
            exact (mm _).set (fun _ => rfl) _
          | true =>
            have z3 : ((0 : Int) ≤ 3) = True := eq_true (by omega)
            simp +contextual only [hb, w1, w2, f0, f1, g0, g1, g2, g3, z3, e0, Int.toNat_natCast, hR, Int.reduceToNat, z0, List.length_cons, List.length_nil, Nat.reduceAdd, Int.reduceLT, Int.cast_ofNat_Int, c1, c2, c3, c4, ↓wA, wB, wZ, repeatV, RX.evs, spl, over, ones, Ex.ends, evR, oneOf, top, ↓reduceIte, Nat.reduceEqDiff, Nat.reduceLeDiff, Nat.reduceAdd, Nat.reduceSub, Nat.reduceMul, reduceCtorEq, Int.reduceEq, Int.reduceLT, Int.reduceLE, Int.reduceNeg, Int.reduceAdd, Int.reduceSub]
            refine callK_pure (atoi_calls [c, d1, d2] _ (by simp) (atoi3 hd0 hd1 hd2) _) ?_
            have w3 : IntKind.i64.wrap (((a0 + 1 : Nat) : Int) + 3) = ((a0 + 4 : Nat) : Int) := by rw [wrap_i64 (by omega) (by omega)]; omega
            generalize hv : valM [c, d1, d2] = v
            by_cases hv2 : (v : Int) < 256
            · have w4 : IntKind.u8.wrap (v : Int) = ((v.toUInt8).toNat : Int) := by
                simp [IntKind.wrap, IntKind.bits, IntKind.signed]
              have hv3 : v < 256 := by omega
              simp +contextual only [hb, w1, w2, w3, w4, f0, f1, g0, g1, g2, g3, e0, hv2, hv3, Int.toNat_natCast, hR, Int.reduceToNat, z0, List.length_cons, List.length_nil, Nat.reduceAdd, Int.reduceLT, Int.cast_ofNat_Int, c1, c2, c3, c4, and_self, true_and, ↓wA, wB, wZ, repeatV, RX.evs, spl, over, ones, Ex.ends, evR, oneOf, top, ↓reduceIte, Nat.reduceEqDiff, Nat.reduceLeDiff, Nat.reduceAdd, Nat.reduceSub, Nat.reduceMul, reduceCtorEq, Int.reduceEq, Int.reduceLT, Int.reduceLE, Int.reduceNeg, Int.reduceAdd, Int.reduceSub]
              refine ⟨(mm _).set (fun _ => rfl) _, ?_⟩
              first | omega | (refine ⟨?_, by omega⟩; simp [get_set]) | skip
            · have hv3 : ¬ v < 256 := by omega
              simp +contextual only [hb, w1, w2, w3, f0, f1, g0, g1, g2, g3, e0, hv2, hv3, Int.toNat_natCast, hR, Int.reduceToNat, z0, List.length_cons, List.length_nil, Nat.reduceAdd, Int.reduceLT, Int.cast_ofNat_Int, c1, c2, c3, c4, and_false, ↓wA, wB, wZ, repeatV, RX.evs, spl, over, ones, Ex.ends, evR, oneOf, top, ↓reduceIte, Nat.reduceEqDiff, Nat.reduceLeDiff, Nat.reduceAdd, Nat.reduceSub, Nat.reduceMul, reduceCtorEq, Int.reduceEq, Int.reduceLT, Int.reduceLE, Int.reduceNeg, Int.reduceAdd, Int.reduceSub]
              exact (mm _).set (fun _ => rfl) _
end Go.Proofs.YthcgccnbhdociaaDoor

namespace Go.Proofs.YthcgccnbhdociaaDoor
open Go Am
set_option linter.unusedSectionVars false
set_option linter.unusedSimpArgs false
set_option linter.unusedVariables false

theorem u8_lt (c : UInt8) (n : Nat) (hn : n < 256) : ((c.toNat : Int) < (n : Int)) = (c < n.toUInt8) := by
  apply propext
  rw [UInt8.lt_iff_toNat_lt]
  have : (n.toUInt8).toNat = n := by simp; omega
  rw [this]
  omega
theorem loB (h : Heap) {i B : Nat} (hb : B ≤ i) : B ≤ unPa (pa i) := by rw [unPa_pa]; exact hb

theorem text_ctr (s : List UInt8) (a0 : Nat) (b : Pa) (h : Heap) (hb : h.get b = scB s a0 0) (h0 : a0 < s.length) (hs : s.length ≤ 100000) (hob : Old h b) :
    Ctr Tryd.prog 46 [.ptr b 0] h (WOut s a0 b h (strM (s.drop (a0 + 1)))) := by
  refine c46_ctr rfl (wpK_of ?_)
  unfold c46
  have nb : (b = pa h.next) = False := new_ne hob (Nat.le_refl _)
  have bn : (pa h.next = b) = False := by rw [← nb]; exact propext eq_comm
  have w1 : IntKind.i64.wrap ((a0 : Int) + 1) = ((a0 + 1 : Nat) : Int) := by rw [wrap_i64 (by omega) (by omega)]; rfl
  unfold scB at hb
  simp +contextual only [hb, nb, bn, w1, ↓wA, wB, wZ, repeatV, RX.evs, spl, over, ones, Ex.ends, evR, oneOf, top, ↓reduceIte, Nat.reduceEqDiff, Nat.reduceLeDiff, Nat.reduceAdd, Nat.reduceSub, Nat.reduceMul, reduceCtorEq, Int.reduceEq, Int.reduceLT, Int.reduceLE, Int.reduceNeg, Int.reduceAdd, Int.reduceSub]
  have notb : ∀ {v : V} {h' : Heap} {n : Nat} {us : List V}, SlO (h.next + 1) h' 1 v n us → ∀ q, v.blk q → ¬ (fun q => q = b) q := by
    intro v h' n us hS q hq he
    have h1 := hS.base hq
    rw [show q = b from he] at h1
    have h2 : unPa b < h.next := hob
    omega
  have blkne : ∀ {v : V} {h' : Heap} {n : Nat} {us : List V}, SlO (h.next + 1) h' 1 v n us → ∀ i, i < h.next + 1 → ¬ v.blk (pa i) := by
    intro v h' n us hS i hi hq
    have h1 := hS.base hq
    rw [unPa_pa] at h1
    omega
  refine loopK_intro (fun r h' => r 0 = .ptr b 0 ∧ r 2 = .ptr (pa h.next) 0 ∧ ∃ (a : Nat) (e : Int) (bs : List UInt8) (v : V), r 3 = v ∧ h'.get b = .ofL [.str s, .int .i64 a, .int .i64 e] 0 false ∧ a ≤ s.length ∧ a0 + 1 ≤ a ∧ bs.length ≤ a ∧
      h'.get (pa h.next) = .ofL [.int .i64 0, .int .i64 0, .int .i64 0, .str []] 0 false ∧ Mod (fun q => q = b) h h' ∧ h.next + 1 ≤ h'.next ∧ SlO (h.next + 1) h' 1 v bs.length (bytesV bs) ∧
      ((e = 0 ∧ textM (s.drop (a0 + 1)) = (textM (s.drop a)).map fun q => (bs ++ q.1, q.2 + (a - (a0 + 1)))) ∨ (e = 252 ∧ textM (s.drop (a0 + 1)) = none)))
    (fun r h' => (s.length - ((ld1B (h'.get b) 1).getD .bad).toN) + (252 - ((ld1B (h'.get b) 2).getD .bad).toN)) ?_ ?_
  · refine ⟨by simp only [nb, bn, ↓wA, wB, wZ, repeatV, RX.evs, spl, over, ones, Ex.ends, evR, oneOf, top, ↓reduceIte, Nat.reduceEqDiff, Nat.reduceLeDiff, Nat.reduceAdd, Nat.reduceSub, Nat.reduceMul, reduceCtorEq, Int.reduceEq, Int.reduceLT, Int.reduceLE, Int.reduceNeg, Int.reduceAdd, Int.reduceSub], by simp only [nb, bn, ↓wA, wB, wZ, repeatV, RX.evs, spl, over, ones, Ex.ends, evR, oneOf, top, ↓reduceIte, Nat.reduceEqDiff, Nat.reduceLeDiff, Nat.reduceAdd, Nat.reduceSub, Nat.reduceMul, reduceCtorEq, Int.reduceEq, Int.reduceLT, Int.reduceLE, Int.reduceNeg, Int.reduceAdd, Int.reduceSub], a0 + 1, 0, [], .nilslice, by simp only [nb, bn, ↓wA, wB, wZ, repeatV, RX.evs, spl, over, ones, Ex.ends, evR, oneOf, top, ↓reduceIte, Nat.reduceEqDiff, Nat.reduceLeDiff, Nat.reduceAdd, Nat.reduceSub, Nat.reduceMul, reduceCtorEq, Int.reduceEq, Int.reduceLT, Int.reduceLE, Int.reduceNeg, Int.reduceAdd, Int.reduceSub], by simp only [nb, bn, ↓wA, wB, wZ, repeatV, RX.evs, spl, over, ones, Ex.ends, evR, oneOf, top, ↓reduceIte, Nat.reduceEqDiff, Nat.reduceLeDiff, Nat.reduceAdd, Nat.reduceSub, Nat.reduceMul, reduceCtorEq, Int.reduceEq, Int.reduceLT, Int.reduceLE, Int.reduceNeg, Int.reduceAdd, Int.reduceSub], by omega, by omega, by simp, by simp only [nb, bn, ↓wA, wB, wZ, repeatV, RX.evs, spl, over, ones, Ex.ends, evR, oneOf, top, ↓reduceIte, Nat.reduceEqDiff, Nat.reduceLeDiff, Nat.reduceAdd, Nat.reduceSub, Nat.reduceMul, reduceCtorEq, Int.reduceEq, Int.reduceLT, Int.reduceLE, Int.reduceNeg, Int.reduceAdd, Int.reduceSub], ?_, ?_, ⟨rfl, rfl⟩, .inl ⟨rfl, ?_⟩⟩
    · exact (((Ext.refl h).new _).mod (fun q => q = b)).self _
    · rw [next_set, next_new]; exact Nat.le_refl _
    · rw [Nat.sub_self]
      cases textM (s.drop (a0 + 1)) <;> rfl
  · rintro r h' ⟨r0, r2, a, e, bs, v, r3, hg, k1, k0, kb, hz, hm, hnx, hS, hok⟩
    unfold c46l1
    have hobn : Old h' b := hm.old hob
    have fin : ∀ (h2 : Heap) (a' : Int), textM (s.drop (a0 + 1)) = none → Mod (fun q => q = b) h h2 → h2.get b = .ofL [.str s, .int .i64 a', .int .i64 252] 0 false →
        WOut s a0 b h (strM (s.drop (a0 + 1))) (.agg [.int .i64 0, .int .i64 0, .int .i64 0, .str []]) (h2.set (pa h.next) (.ofL [.int .i64 0, .int .i64 0, .int .i64 0, .str []] 0 false)) := by
      intro h2 a' hn hm2 hg2
      unfold strM
      rw [hn]
      refine ⟨hm2.set (fun q => absurd (show unPa (pa h.next) < h.next from q) (by rw [unPa_pa]; omega)) _, _, _, _, rfl, by decide, a', ?_⟩
      rw [get_set, if_neg (by rw [bn]; exact id), hg2]
      rfl
    have step : ∀ (h2 : Heap), Mod (fun q => q = b) h h2 → h'.next ≤ h2.next → SlO (h.next + 1) h2 1 v bs.length (bytesV bs) → ∀ (c : UInt8), ∃ v3 h3, appV 1 v (.slice (pa h2.next) 0 1 1) (h2.new (.ofL [.int .u8 (c.toNat : Int)] 0 false)) = .val v3 h3 ∧ SlO (h.next + 1) h3 1 v3 (bs ++ [c]).length (bytesV (bs ++ [c])) ∧ Mod (fun q => q = b) h h3 ∧ h.next + 1 ≤ h3.next ∧ h3.get b = h2.get b ∧ h3.get (pa h.next) = h2.get (pa h.next) := by
      intro h2 hm2 hnx2 hS2 c
      obtain ⟨v3, h3, q1, q2, q3, q4, q5⟩ := app_one (cs := [.int .u8 (c.toNat : Int)]) (by omega) hS2 (by omega) (by unfold top; omega) rfl rfl
      refine ⟨v3, h3, q1, by rw [List.length_append, bytesV_append]; exact q2, hm2.then_new q3 (fun q hq => Nat.le_trans (Nat.le_succ _) (hS2.base hq)), by omega, ?_, ?_⟩
      · exact q3.get _ (hm2.old hob) (fun hq => notb hS2 _ hq rfl)
      · exact q3.get _ (old_lt (by omega)) (blkne hS2 _ (by omega))
    rcases hok with ⟨rfl, hok⟩ | ⟨rfl, hok⟩
    · by_cases hend : (s.length : Int) ≤ (a : Int)
      · have ha : a = s.length := by omega
        rw [ha, List.drop_length, textM_nil] at hok
        simp +contextual only [r0, r2, r3, hg, hend, hz, nb, bn, ↓wA, wB, wZ, repeatV, RX.evs, spl, over, ones, Ex.ends, evR, oneOf, top, ↓reduceIte, Nat.reduceEqDiff, Nat.reduceLeDiff, Nat.reduceAdd, Nat.reduceSub, Nat.reduceMul, reduceCtorEq, Int.reduceEq, Int.reduceLT, Int.reduceLE, Int.reduceNeg, Int.reduceAdd, Int.reduceSub]
        exact fin _ _ hok (hm.set (fun _ => rfl) _) (by rw [get_set, if_pos rfl])
      · have hlt : a < s.length := by omega
        rw [drop_cons hlt, textM_cons] at hok
        have f0 : (0 ≤ (a : Int)) = True := eq_true (by omega)
        have f1 : ((a : Int) < (s.length : Int)) = True := eq_true (by omega)
        have w2 : IntKind.i64.wrap ((a : Int) + 1) = ((a + 1 : Nat) : Int) := by rw [wrap_i64 (by omega) (by omega)]; rfl
        have e34 : (((s[a]).toNat : Int) = 34) = (s[a] = 34) := u8_eq _ 34 (by omega)
        have e92 : (((s[a]).toNat : Int) = 92) = (s[a] = 92) := u8_eq _ 92 (by omega)
        have e127 : (((s[a]).toNat : Int) = 127) = (s[a] = 127) := u8_eq _ 127 (by omega)
        have l32 : (((s[a]).toNat : Int) < 32) = (s[a] < 32) := u8_lt _ 32 (by omega)
        by_cases c1 : s[a] = 34
        · rw [if_pos c1] at hok
          replace c1 : (s[a] = 34) = True := eq_true c1
          simp only [Option.map_some, List.append_nil] at hok
          by_cases hbig : (4096 : Int) < (bs.length : Int)
          · have hS2 : ∀ k k2, SlO (h.next + 1) ((h'.set b k).set b k2) 1 v bs.length (bytesV bs) := fun k k2 => hS.mod (((Mod.refl (fun q => q = b) h').set (fun _ => rfl) _).set (fun _ => rfl) _) (notb hS)
            simp +contextual only [r0, r2, r3, hg, hend, hz, nb, bn, f0, f1, w2, e34, c1, hS.v.len, hbig, convStr_own (hS2 _ _), List.getElem?_eq_getElem hlt, Int.toNat_natCast, ↓wA, wB, wZ, repeatV, RX.evs, spl, over, ones, Ex.ends, evR, oneOf, top, ↓reduceIte, Nat.reduceEqDiff, Nat.reduceLeDiff, Nat.reduceAdd, Nat.reduceSub, Nat.reduceMul, reduceCtorEq, Int.reduceEq, Int.reduceLT, Int.reduceLE, Int.reduceNeg, Int.reduceAdd, Int.reduceSub]
            refine ⟨((hm.set (fun _ => rfl) _).set (fun _ => rfl) _).set (fun q => absurd (show unPa (pa h.next) < h.next from q) (by rw [unPa_pa]; omega)) _, _, _, _, rfl, ?_⟩
            unfold strM
            rw [hok]
            simp only
            rw [if_pos (by omega)]
            refine ⟨by decide, ((a + 1 : Nat) : Int), ?_⟩
            simp only [scB, nb, bn, ↓wA, wB, wZ, repeatV, RX.evs, spl, over, ones, Ex.ends, evR, oneOf, top, ↓reduceIte, Nat.reduceEqDiff, Nat.reduceLeDiff, Nat.reduceAdd, Nat.reduceSub, Nat.reduceMul, reduceCtorEq, Int.reduceEq, Int.reduceLT, Int.reduceLE, Int.reduceNeg, Int.reduceAdd, Int.reduceSub]
          · have hS2 : ∀ k, SlO (h.next + 1) (h'.set b k) 1 v bs.length (bytesV bs) := fun k => hS.mod ((Mod.refl (fun q => q = b) h').set (fun _ => rfl) _) (notb hS)
            simp +contextual only [r0, r2, r3, hg, hend, hz, nb, bn, f0, f1, w2, e34, c1, hS.v.len, hbig, convStr_own (hS2 _), List.getElem?_eq_getElem hlt, Int.toNat_natCast, ↓wA, wB, wZ, repeatV, RX.evs, spl, over, ones, Ex.ends, evR, oneOf, top, ↓reduceIte, Nat.reduceEqDiff, Nat.reduceLeDiff, Nat.reduceAdd, Nat.reduceSub, Nat.reduceMul, reduceCtorEq, Int.reduceEq, Int.reduceLT, Int.reduceLE, Int.reduceNeg, Int.reduceAdd, Int.reduceSub]
            refine ⟨(hm.set (fun _ => rfl) _).set (fun q => absurd (show unPa (pa h.next) < h.next from q) (by rw [unPa_pa]; omega)) _, _, _, _, rfl, ?_⟩
            unfold strM
            rw [hok]
            simp only
            rw [if_neg (by omega)]
            refine ⟨rfl, rfl, rfl, ?_, ?_⟩
            · simp only [scB, nb, bn, ↓wA, wB, wZ, repeatV, RX.evs, spl, over, ones, Ex.ends, evR, oneOf, top, ↓reduceIte, Nat.reduceEqDiff, Nat.reduceLeDiff, Nat.reduceAdd, Nat.reduceSub, Nat.reduceMul, reduceCtorEq, Int.reduceEq, Int.reduceLT, Int.reduceLE, Int.reduceNeg, Int.reduceAdd, Int.reduceSub]
              rw [show a0 + (1 + (a - (a0 + 1)) + 1) = a + 1 from by omega]
            · simp only; omega
        rw [if_neg c1] at hok
        by_cases c2 : s[a] = 92
        · rw [if_pos c2] at hok
          replace c2 : (s[a] = 92) = True := eq_true c2
          simp +contextual only [r0, r2, r3, hg, hend, hz, nb, bn, f0, f1, w2, e34, e92, c1, c2, List.getElem?_eq_getElem hlt, Int.toNat_natCast, ↓wA, wB, wZ, repeatV, RX.evs, spl, over, ones, Ex.ends, evR, oneOf, top, ↓reduceIte, Nat.reduceEqDiff, Nat.reduceLeDiff, Nat.reduceAdd, Nat.reduceSub, Nat.reduceMul, reduceCtorEq, Int.reduceEq, Int.reduceLT, Int.reduceLE, Int.reduceNeg, Int.reduceAdd, Int.reduceSub]
          refine callK_intro (escape_ctr s a b h' hg hlt hs hobn) ?_
          rintro x h2 ⟨hm2, hx⟩
          have hS2 := hS.mod hm2 (notb hS)
          have hz2 : h2.get (pa h.next) = .ofL [.int .i64 0, .int .i64 0, .int .i64 0, .str []] 0 false := by
            rw [hm2.get _ (old_lt (by omega)) (by rw [bn]; exact id), hz]
          have nx2 := hm2.next
          obtain ⟨c, hc, hrest⟩ : ∃ c : UInt8, x = .int .u8 (c.toNat : Int) ∧ ((∃ n, escM (s.drop (a + 1)) = some (c, n) ∧ h2.get b = scB s ((a + 1 + n : Nat) : Int) 0 ∧ a + 1 + n ≤ s.length) ∨ (escM (s.drop (a + 1)) = none ∧ h2.get b = scB s ((a + 1 : Nat) : Int) 252)) := by
            cases hesc : escM (s.drop (a + 1)) with
            | none => rw [hesc] at hx; exact ⟨0, hx.1, .inr ⟨rfl, hx.2⟩⟩
            | some q => rw [hesc] at hx; exact ⟨q.1, hx.1, .inl ⟨q.2, rfl, hx.2⟩⟩
          subst hc
          obtain ⟨v3, h3, q1, q2, q3, q4, q5, q6⟩ := step h2 (hm.trans hm2) nx2 hS2 c
          have q2' : SlO (h.next + 1) h3 1 v3 (bs.length + 1) (bytesV (bs ++ [c])) := by rw [List.length_append] at q2; exact q2
          have hz3 : h3.get (pa h.next) = .ofL [.int .i64 0, .int .i64 0, .int .i64 0, .str []] 0 false := by rw [q6, hz2]
          unfold scB at hrest
          rcases hrest with ⟨n, hesc, hg2, hle⟩ | ⟨hesc, hg2⟩
          · simp +contextual only [q1, r0, r2, hg, hg2, q5, nb, bn, ↓wA, wB, wZ, repeatV, RX.evs, spl, over, ones, Ex.ends, evR, oneOf, top, ↓reduceIte, Nat.reduceEqDiff, Nat.reduceLeDiff, Nat.reduceAdd, Nat.reduceSub, Nat.reduceMul, reduceCtorEq, Int.reduceEq, Int.reduceLT, Int.reduceLE, Int.reduceNeg, Int.reduceAdd, Int.reduceSub]
            rw [hesc] at hok
            simp only at hok
            refine ⟨⟨a + 1 + n, 0, bs ++ [c], rfl, hle, by omega, by simp; omega, hz3, q3, q4, q2, .inl ⟨rfl, ?_⟩⟩, by omega⟩
            rw [hok, List.drop_drop, Option.map_map]
            congr 1
            funext q
            simp only [Function.comp, List.append_assoc, List.singleton_append, Prod.mk.injEq, true_and]
            omega
          · simp +contextual only [q1, r0, r2, hg, hg2, q5, nb, bn, ↓wA, wB, wZ, repeatV, RX.evs, spl, over, ones, Ex.ends, evR, oneOf, top, ↓reduceIte, Nat.reduceEqDiff, Nat.reduceLeDiff, Nat.reduceAdd, Nat.reduceSub, Nat.reduceMul, reduceCtorEq, Int.reduceEq, Int.reduceLT, Int.reduceLE, Int.reduceNeg, Int.reduceAdd, Int.reduceSub]
            rw [hesc] at hok
            exact ⟨⟨a + 1, 252, bs ++ [c], rfl, by omega, by omega, by simp; omega, hz3, q3, q4, q2, .inr ⟨rfl, hok⟩⟩, by omega⟩
        rw [if_neg c2] at hok
        by_cases c3 : s[a] < 32 ∨ s[a] = 127
        · rw [if_pos c3] at hok
          have c3' : (decide (s[a] < 32) || decide (s[a] = 127)) = true := by simpa using c3
          simp +contextual only [r0, r2, r3, hg, hend, hz, nb, bn, f0, f1, w2, e34, e92, e127, l32, c1, c2, c3', List.getElem?_eq_getElem hlt, Int.toNat_natCast, ↓wA, wB, wZ, repeatV, RX.evs, spl, over, ones, Ex.ends, evR, oneOf, top, ↓reduceIte, Nat.reduceEqDiff, Nat.reduceLeDiff, Nat.reduceAdd, Nat.reduceSub, Nat.reduceMul, reduceCtorEq, Int.reduceEq, Int.reduceLT, Int.reduceLE, Int.reduceNeg, Int.reduceAdd, Int.reduceSub]
          exact ⟨⟨a, 252, bs, rfl, k1, k0, kb, hm.self _, hnx, hS.mod ((Mod.refl (fun q => q = b) h').self _) (notb hS), .inr ⟨rfl, hok⟩⟩, by omega⟩
        · rw [if_neg c3] at hok
          have c3' : (decide (s[a] < 32) || decide (s[a] = 127)) = false := by simpa using c3
          obtain ⟨v3, h3, q1, q2, q3, q4, q5, q6⟩ := step (h'.set b (.ofL [.str s, .int .i64 ((a + 1 : Nat) : Int), .int .i64 0] 0 false)) (hm.self _) (by rw [next_set]; exact Nat.le_refl _) (hS.mod ((Mod.refl (fun q => q = b) h').self _) (notb hS)) s[a]
          simp only [next_set, get_set, nb, bn, if_true, if_false] at q1 q5 q6
          simp +contextual only [q1, r0, r2, r3, hg, hend, hz, nb, bn, f0, f1, w2, e34, e92, e127, l32, c1, c2, c3', q5, List.getElem?_eq_getElem hlt, Int.toNat_natCast, ↓wA, wB, wZ, repeatV, RX.evs, spl, over, ones, Ex.ends, evR, oneOf, top, ↓reduceIte, Nat.reduceEqDiff, Nat.reduceLeDiff, Nat.reduceAdd, Nat.reduceSub, Nat.reduceMul, reduceCtorEq, Int.reduceEq, Int.reduceLT, Int.reduceLE, Int.reduceNeg, Int.reduceAdd, Int.reduceSub]
          refine ⟨⟨a + 1, 0, bs ++ [s[a]], rfl, by omega, by omega, by simp; omega, by rw [q6, hz], q3, q4, q2, .inl ⟨rfl, ?_⟩⟩, by omega⟩
          rw [hok, Option.map_map]
          congr 1
          funext q
          simp only [Function.comp, List.append_assoc, List.singleton_append, Prod.mk.injEq, true_and]
          omega
    · simp +contextual only [r0, r2, r3, hg, hz, nb, bn, ↓wA, wB, wZ, repeatV, RX.evs, spl, over, ones, Ex.ends, evR, oneOf, top, ↓reduceIte, Nat.reduceEqDiff, Nat.reduceLeDiff, Nat.reduceAdd, Nat.reduceSub, Nat.reduceMul, reduceCtorEq, Int.reduceEq, Int.reduceLT, Int.reduceLE, Int.reduceNeg, Int.reduceAdd, Int.reduceSub]
      exact fin _ _ hok hm hg
end Go.Proofs.YthcgccnbhdociaaDoor

namespace Go.Proofs.YthcgccnbhdociaaDoor
open Go Am
set_option linter.unusedSectionVars false
set_option linter.unusedSimpArgs false
set_option linter.unusedVariables false

def keysText : List UInt8 := [32, 97, 110, 100, 32, 98, 101, 103, 105, 110, 32, 101, 108, 115, 101, 32, 101, 110, 100, 32, 101, 120, 99, 101, 112, 116, 105, 111, 110, 32, 102, 97, 108, 115, 101, 32, 102, 117, 110, 32, 105, 102, 32, 105, 110, 32, 108, 101, 116, 32, 109, 97, 116, 99, 104, 32, 109, 111, 100, 32, 111, 102, 32, 114, 97, 105, 115, 101, 32, 114, 101, 99, 32, 116, 104, 101, 110, 32, 116, 114, 117, 101, 32, 116, 114, 121, 32, 116, 121, 112, 101, 32, 119, 105, 116, 104, 32]
def flatK : List (List UInt8) → List UInt8
  | [] => [32]
  | w :: L => 32 :: (w ++ flatK L)
theorem flatK_keys : flatK keyList = keysText := by decide
theorem flatK_cons (L : List (List UInt8)) : ∃ r, flatK L = 32 :: r := by cases L <;> exact ⟨_, rfl⟩
theorem index_ge (sub : List UInt8) : ∀ l : List UInt8, -1 ≤ Lib.index l sub
  | [] => by simp only [Lib.index]; split <;> decide
  | b :: l => by
    have := index_ge sub l
    simp only [Lib.index]
    split
    · decide
    · split <;> omega
theorem index_cons (sub : List UInt8) (b : UInt8) (l : List UInt8) : (0 ≤ Lib.index (b :: l) sub) ↔ (sub.isPrefixOf (b :: l) = true ∨ 0 ≤ Lib.index l sub) := by
  have := index_ge sub l
  simp only [Lib.index]
  split
  · rename_i h; simp [h]
  · rename_i h
    split
    · rename_i h2
      have : Lib.index l sub = -1 := by simpa using h2
      simp [h, this]
    · rename_i h2
      have h3 : ¬ Lib.index l sub = -1 := by simpa using h2
      simp only [h, Bool.false_eq_true, false_or]
      omega
theorem index_skip (x : List UInt8) (r : List UInt8) : ∀ w : List UInt8, (32 : UInt8) ∉ w → ((0 ≤ Lib.index (w ++ r) (32 :: x)) ↔ 0 ≤ Lib.index r (32 :: x))
  | [], _ => Iff.rfl
  | b :: w, h => by
    rw [List.cons_append, index_cons, index_skip x r w (fun q => h (List.mem_cons_of_mem _ q))]
    have hb : ((32 : UInt8) == b) = false := by rw [beq_eq_false_iff_ne]; rintro rfl; exact h (List.mem_cons_self ..)
    simp [List.isPrefixOf, hb]
theorem pre_word (r : List UInt8) : ∀ (t w : List UInt8), (32 : UInt8) ∉ t → (32 : UInt8) ∉ w → ((t ++ [32]).isPrefixOf (w ++ 32 :: r) = true ↔ t = w)
  | [], [], _, _ => by simp [List.isPrefixOf]
  | [], b :: w, _, h => by
    have hb : ((32 : UInt8) == b) = false := by rw [beq_eq_false_iff_ne]; rintro rfl; exact h (List.mem_cons_self ..)
    simp [List.isPrefixOf, hb]
  | a :: t, [], h, _ => by
    have hb : (a == (32 : UInt8)) = false := by rw [beq_eq_false_iff_ne]; rintro rfl; exact h (List.mem_cons_self ..)
    simp [List.isPrefixOf, hb]
  | a :: t, b :: w, h, h' => by
    have ih := pre_word r t w (fun q => h (List.mem_cons_of_mem _ q)) (fun q => h' (List.mem_cons_of_mem _ q))
    simp only [List.cons_append, List.isPrefixOf, Bool.and_eq_true, beq_iff_eq, ih, List.cons.injEq]
theorem index_flat (t : List UInt8) (ht : (32 : UInt8) ∉ t) : ∀ L : List (List UInt8), (∀ w ∈ L, (32 : UInt8) ∉ w) → ((0 ≤ Lib.index (flatK L) (32 :: (t ++ [32]))) ↔ t ∈ L)
  | [], _ => by
    cases t <;> simp [flatK, Lib.index, List.isPrefixOf]
  | w :: L, h => by
    have ih := index_flat t ht L (fun x hx => h x (List.mem_cons_of_mem _ hx))
    have hw := h w (List.mem_cons_self ..)
    obtain ⟨r, hr⟩ := flatK_cons L
    simp only [flatK]
    rw [index_cons, index_skip _ _ _ hw, ih, List.mem_cons]
    have : (32 :: (t ++ [32])).isPrefixOf (32 :: (w ++ flatK L)) = (t ++ [32]).isPrefixOf (w ++ flatK L) := by simp [List.isPrefixOf]
    rw [this, hr, pre_word r t w ht hw]
theorem contains_key (t : List UInt8) (ht : (32 : UInt8) ∉ t) : Lib.contains keysText (32 :: (t ++ [32])) = keyB t := by
  have := index_flat t ht keyList (by decide)
  rw [flatK_keys] at this
  unfold Lib.contains keyB
  rw [Bool.eq_iff_iff, decide_eq_true_eq, this]
  simp
theorem ltr_no32 {l : List UInt8} : (32 : UInt8) ∉ l.takeWhile ltr := fun h => by
  have := take_all _ h
  revert this
  decide

theorem name_ctr (s : List UInt8) (a0 : Nat) (k : Int) (b : Pa) (h : Heap) (hb : h.get b = scB s a0 0) (h0 : a0 ≤ s.length) (hs : s.length ≤ 100000) (hob : Old h b) :
    Ctr Tryd.prog 48 [.ptr b 0, .int .i64 k] h (WOut s a0 b h (nameM k (s.drop a0))) := by
  refine c48_ctr rfl (wpK_of ?_)
  unfold c48
  have nb : (b = pa h.next) = False := new_ne hob (Nat.le_refl _)
  have bn : (pa h.next = b) = False := by rw [← nb]; exact propext eq_comm
  simp +contextual only [hb, nb, bn, ↓wA, wB, wZ, repeatV, RX.evs, spl, over, ones, Ex.ends, evR, oneOf, top, ↓reduceIte, Nat.reduceEqDiff, Nat.reduceLeDiff, Nat.reduceAdd, Nat.reduceSub, Nat.reduceMul, reduceCtorEq, Int.reduceEq, Int.reduceLT, Int.reduceLE, Int.reduceNeg, Int.reduceAdd, Int.reduceSub]
  have hx : Ext h (h.new (.ofL [.int .i64 0, .int .i64 0, .int .i64 0, .str []] 0 false)) := (Ext.refl h).new _
  refine callK_intro (run_ctr s a0 0 b 77 letterB _ (by rw [hx.get _ hob, hb]) h0 hs (fun c h => letter_pure c h)) ?_
  rintro x h1 ⟨rfl, hm, hg⟩
  have et : (fun c : UInt8 => letterB (c.toNat : Int)) = ltr := rfl
  rw [et] at hg ⊢
  have hmm : Mod (fun q => q = b) h h1 := (hx.mod _).trans hm
  have g1 : h1.get (pa h.next) = .ofL [.int .i64 0, .int .i64 0, .int .i64 0, .str []] 0 false := by
    rw [hm.get _ (old_lt (by rw [next_new]; omega)) (by rw [bn]; exact id)]
    simp only [↓wA, wB, wZ, repeatV, RX.evs, spl, over, ones, Ex.ends, evR, oneOf, top, ↓reduceIte, Nat.reduceEqDiff, Nat.reduceLeDiff, Nat.reduceAdd, Nat.reduceSub, Nat.reduceMul, reduceCtorEq, Int.reduceEq, Int.reduceLT, Int.reduceLE, Int.reduceNeg, Int.reduceAdd, Int.reduceSub]
  have hlen := take_le ltr s a0
  have h32 : (32 : UInt8) ∉ (s.drop a0).takeWhile ltr := ltr_no32
  unfold scB at hg
  have hn1 : nameM k (s.drop a0) = if k = 3 ∧ (s.drop a0).takeWhile ltr = [95] then .ok (7, 0, (s.drop a0).takeWhile ltr, ((s.drop a0).takeWhile ltr).length) else if k = 3 ∧ keyB ((s.drop a0).takeWhile ltr) then .ok (6, 0, (s.drop a0).takeWhile ltr, ((s.drop a0).takeWhile ltr).length) else if 64 < ((s.drop a0).takeWhile ltr).length then .error 255 else .ok (k, 0, (s.drop a0).takeWhile ltr, ((s.drop a0).takeWhile ltr).length) := rfl
  rw [hn1]
  generalize (s.drop a0).takeWhile ltr = t at *
  have ok1 : ∀ (kk : Int), WOut s a0 b h (.ok (kk, 0, t, t.length)) (.agg [.int .i64 kk, .int .i64 0, .int .i64 0, .str t]) (h1.set (pa h.next) (.ofL [.int .i64 kk, .int .i64 0, .int .i64 0, .str t] 0 false)) := by
    intro kk
    refine ⟨hmm.fresh (Nat.le_refl _) _, _, _, _, rfl, rfl, rfl, rfl, ?_, by show a0 + t.length ≤ s.length; omega⟩
    rw [get_set, if_neg (by rw [bn]; exact id), hg]
    rfl
  have tail : (64 < t.length → WOut s a0 b h (.error 255) (.agg [.int .i64 k, .int .i64 0, .int .i64 0, .str t]) ((h1.set b (.ofL [.str s, .int .i64 ((a0 + t.length : Nat) : Int), .int .i64 255] 0 false)).set (pa h.next) (.ofL [.int .i64 k, .int .i64 0, .int .i64 0, .str t] 0 false))) := by
    intro hl
    refine ⟨(hmm.self _).fresh (Nat.le_refl _) _, _, _, _, rfl, by decide, ((a0 + t.length : Nat) : Int), ?_⟩
    simp only [scB, nb, bn, ↓wA, wB, wZ, repeatV, RX.evs, spl, over, ones, Ex.ends, evR, oneOf, top, ↓reduceIte, Nat.reduceEqDiff, Nat.reduceLeDiff, Nat.reduceAdd, Nat.reduceSub, Nat.reduceMul, reduceCtorEq, Int.reduceEq, Int.reduceLT, Int.reduceLE, Int.reduceNeg, Int.reduceAdd, Int.reduceSub]
  by_cases hk : k = 3
  · subst hk
    by_cases hu : t = [95]
    · simp +contextual only [g1, hg, nb, bn, hu, true_and, ↓wA, wB, wZ, repeatV, RX.evs, spl, over, ones, Ex.ends, evR, oneOf, top, ↓reduceIte, Nat.reduceEqDiff, Nat.reduceLeDiff, Nat.reduceAdd, Nat.reduceSub, Nat.reduceMul, reduceCtorEq, Int.reduceEq, Int.reduceLT, Int.reduceLE, Int.reduceNeg, Int.reduceAdd, Int.reduceSub]
      subst hu
      exact ok1 7
    · have t1 : (1 + t.length ≤ top) = True := eq_true (by unfold top; omega)
      have t2 : (t.length + 1 + 1 ≤ top) = True := eq_true (by unfold top; omega)
      simp only [top] at t1 t2
      simp +contextual only [g1, hg, nb, bn, hu, true_and, List.length_append, t1, t2, ↓wA, wB, wZ, repeatV, RX.evs, spl, over, ones, Ex.ends, evR, oneOf, top, ↓reduceIte, Nat.reduceEqDiff, Nat.reduceLeDiff, Nat.reduceAdd, Nat.reduceSub, Nat.reduceMul, reduceCtorEq, Int.reduceEq, Int.reduceLT, Int.reduceLE, Int.reduceNeg, Int.reduceAdd, Int.reduceSub]
      refine callK_pure (contains_calls keysText (32 :: (t ++ [32])) (by decide) _) ?_
      rw [contains_key t h32]
      cases hkey : keyB t with
      | true =>
        simp +contextual only [g1, hg, nb, bn, hu, true_and, and_false, hkey, List.length_append, t1, t2, ↓wA, wB, wZ, repeatV, RX.evs, spl, over, ones, Ex.ends, evR, oneOf, top, ↓reduceIte, Nat.reduceEqDiff, Nat.reduceLeDiff, Nat.reduceAdd, Nat.reduceSub, Nat.reduceMul, reduceCtorEq, Int.reduceEq, Int.reduceLT, Int.reduceLE, Int.reduceNeg, Int.reduceAdd, Int.reduceSub]
        exact ok1 6
      | false =>
        by_cases hl : 64 < t.length
        · have hl' : (64 : Int) < (t.length : Int) := by omega
          simp +contextual only [g1, hg, nb, bn, hu, hl, hl', true_and, and_false, hkey, List.length_append, t1, t2, Bool.false_eq_true, ↓wA, wB, wZ, repeatV, RX.evs, spl, over, ones, Ex.ends, evR, oneOf, top, ↓reduceIte, Nat.reduceEqDiff, Nat.reduceLeDiff, Nat.reduceAdd, Nat.reduceSub, Nat.reduceMul, reduceCtorEq, Int.reduceEq, Int.reduceLT, Int.reduceLE, Int.reduceNeg, Int.reduceAdd, Int.reduceSub]
          exact tail hl
        · have hl' : ¬ (64 : Int) < (t.length : Int) := by omega
          simp +contextual only [g1, hg, nb, bn, hu, hl, hl', true_and, and_false, hkey, List.length_append, t1, t2, Bool.false_eq_true, ↓wA, wB, wZ, repeatV, RX.evs, spl, over, ones, Ex.ends, evR, oneOf, top, ↓reduceIte, Nat.reduceEqDiff, Nat.reduceLeDiff, Nat.reduceAdd, Nat.reduceSub, Nat.reduceMul, reduceCtorEq, Int.reduceEq, Int.reduceLT, Int.reduceLE, Int.reduceNeg, Int.reduceAdd, Int.reduceSub]
          exact ok1 3
  · by_cases hl : 64 < t.length
    · have hl' : (64 : Int) < (t.length : Int) := by omega
      simp +contextual only [g1, hg, nb, bn, hk, hl, hl', false_and, ↓wA, wB, wZ, repeatV, RX.evs, spl, over, ones, Ex.ends, evR, oneOf, top, ↓reduceIte, Nat.reduceEqDiff, Nat.reduceLeDiff, Nat.reduceAdd, Nat.reduceSub, Nat.reduceMul, reduceCtorEq, Int.reduceEq, Int.reduceLT, Int.reduceLE, Int.reduceNeg, Int.reduceAdd, Int.reduceSub]
      exact tail hl
    · have hl' : ¬ (64 : Int) < (t.length : Int) := by omega
      simp +contextual only [g1, hg, nb, bn, hk, hl, hl', false_and, ↓wA, wB, wZ, repeatV, RX.evs, spl, over, ones, Ex.ends, evR, oneOf, top, ↓reduceIte, Nat.reduceEqDiff, Nat.reduceLeDiff, Nat.reduceAdd, Nat.reduceSub, Nat.reduceMul, reduceCtorEq, Int.reduceEq, Int.reduceLT, Int.reduceLE, Int.reduceNeg, Int.reduceAdd, Int.reduceSub]
      exact ok1 k
end Go.Proofs.YthcgccnbhdociaaDoor

namespace Go.Proofs.YthcgccnbhdociaaDoor
open Go Am
set_option linter.unusedSectionVars false
set_option linter.unusedSimpArgs false
set_option linter.unusedVariables false

def signVs : List V := signList.map V.str
theorem signs_ctr (h : Heap) : Ctr Tryd.prog 50 [] h fun x h' => x = .slice (pa h.next) 0 17 17 ∧ h' = h.new (.ofL signVs 0 false) := by
  refine c50_ctr rfl (wpK_of ?_)
  unfold c50
  simp +contextual only [↓wA, wB, wZ, repeatV, RX.evs, spl, over, ones, Ex.ends, evR, oneOf, top, ↓reduceIte, Nat.reduceEqDiff, Nat.reduceLeDiff, Nat.reduceAdd, Nat.reduceSub, Nat.reduceMul, reduceCtorEq, Int.reduceEq, Int.reduceLT, Int.reduceLE, Int.reduceNeg, Int.reduceAdd, Int.reduceSub]
  rfl
theorem signVs_get {i : Nat} (hi : i < 17) : signVs[i]? = some (.str (signList[i]'hi)) := by
  unfold signVs
  rw [List.getElem?_map, List.getElem?_eq_getElem (show i < signList.length from hi)]
  rfl
theorem find_step (p : List UInt8 → Bool) {i : Nat} (hi : i < 17) : (signList.drop i).find? p = if p (signList[i]'hi) then some (signList[i]'hi) else (signList.drop (i + 1)).find? p := by
  rw [List.drop_eq_getElem_cons (show i < signList.length from hi), List.find?_cons]
  cases p signList[i] <;> rfl

theorem WOut.store {s : List UInt8} {p : Nat} {b : Pa} {h : Heap} {z k2 : Blk} {res : Res} {x : V} {h1 : Heap} (w : WOut s p b (h.new z) res x h1) (hob : Old h b) : WOut s p b h res x (h1.set (pa h.next) k2) := by
  have bn : ¬ (pa h.next = b) := by
    intro q
    have : unPa b < h.next := hob
    rw [← q, unPa_pa] at this
    omega
  obtain ⟨hm, k, n, t, hx, hr⟩ := w
  refine ⟨((((Ext.refl h).new z).mod _).trans hm).fresh (Nat.le_refl _) _, k, n, t, hx, ?_⟩
  cases res with
  | ok q => simpa only [get_set, if_neg bn] using hr
  | error e => simpa only [get_set, if_neg bn] using hr

theorem next_ctr (s : List UInt8) (a0 : Nat) (b : Pa) (h : Heap) (hb : h.get b = scB s a0 0) (h0 : a0 < s.length) (hs : s.length ≤ 100000) (hob : Old h b) :
    Ctr Tryd.prog 26 [.ptr b 0] h (WOut s a0 b h (nextM (s.drop a0))) := by
  refine c26_ctr rfl (wpK_of ?_)
  unfold c26
  have nb : (b = pa h.next) = False := new_ne hob (Nat.le_refl _)
  have bn : (pa h.next = b) = False := by rw [← nb]; exact propext eq_comm
  have hb0 := hb
  unfold scB at hb
  have f0 : (0 ≤ (a0 : Int)) = True := eq_true (by omega)
  have f1 : ((a0 : Int) < (s.length : Int)) = True := eq_true (by omega)
  have hx : Ext h (h.new (.ofL [.int .i64 0, .int .i64 0, .int .i64 0, .str []] 0 false)) := (Ext.refl h).new _
  have hobx : Old (h.new (.ofL [.int .i64 0, .int .i64 0, .int .i64 0, .str []] 0 false)) b := hx.old hob
  have hbx : (h.new (.ofL [.int .i64 0, .int .i64 0, .int .i64 0, .str []] 0 false)).get b = scB s a0 0 := by rw [hx.get _ hob, hb0]
  have gnew : ∀ {res : Res} {x : V} {h1 : Heap}, WOut s a0 b (h.new (.ofL [.int .i64 0, .int .i64 0, .int .i64 0, .str []] 0 false)) res x h1 → h1.get (pa h.next) = .ofL [.int .i64 0, .int .i64 0, .int .i64 0, .str []] 0 false := by
    intro res x h1 w
    rw [w.mod.get _ (old_lt (by rw [next_new]; omega)) (by rw [bn]; exact id)]
    simp only [↓wA, wB, wZ, repeatV, RX.evs, spl, over, ones, Ex.ends, evR, oneOf, top, ↓reduceIte, Nat.reduceEqDiff, Nat.reduceLeDiff, Nat.reduceAdd, Nat.reduceSub, Nat.reduceMul, reduceCtorEq, Int.reduceEq, Int.reduceLT, Int.reduceLE, Int.reduceNeg, Int.reduceAdd, Int.reduceSub]
  have hd := drop_cons h0
  rw [hd]
  have dg : digitB ((s[a0]).toNat : Int) = dig s[a0] := rfl
  have e34 : (((s[a0]).toNat : Int) = 34) = (s[a0] = 34) := u8_eq _ 34 (by omega)
  have e95 : (((s[a0]).toNat : Int) = 95) = (s[a0] = 95) := u8_eq _ 95 (by omega)
  have e39 : (((s[a0]).toNat : Int) = 39) = (s[a0] = 39) := u8_eq _ 39 (by omega)
  simp +contextual only [hb, nb, bn, f0, f1, List.getElem?_eq_getElem h0, Int.toNat_natCast, ↓wA, wB, wZ, repeatV, RX.evs, spl, over, ones, Ex.ends, evR, oneOf, top, ↓reduceIte, Nat.reduceEqDiff, Nat.reduceLeDiff, Nat.reduceAdd, Nat.reduceSub, Nat.reduceMul, reduceCtorEq, Int.reduceEq, Int.reduceLT, Int.reduceLE, Int.reduceNeg, Int.reduceAdd, Int.reduceSub]
  refine callK_pure (digit_pure _ _) ?_
  rw [dg]
  cases h1 : dig s[a0] with
  | true =>
    have en : nextM (s[a0] :: s.drop (a0 + 1)) = numM (s.drop a0) := by rw [hd]; simp only [nextM, h1, if_true]
    rw [en]
    simp +contextual only [hb, nb, bn, f0, f1, List.getElem?_eq_getElem h0, Int.toNat_natCast, ↓wA, wB, wZ, repeatV, RX.evs, spl, over, ones, Ex.ends, evR, oneOf, top, ↓reduceIte, Nat.reduceEqDiff, Nat.reduceLeDiff, Nat.reduceAdd, Nat.reduceSub, Nat.reduceMul, reduceCtorEq, Int.reduceEq, Int.reduceLT, Int.reduceLE, Int.reduceNeg, Int.reduceAdd, Int.reduceSub]
    refine callK_intro (number_ctr s a0 b _ hbx h0 hs hobx h1) ?_
    rintro x hp w
    have g1 := gnew w
    obtain ⟨k, n, t, rfl, _⟩ := w.res
    simp +contextual only [g1, hb, nb, bn, f0, f1, ↓wA, wB, wZ, repeatV, RX.evs, spl, over, ones, Ex.ends, evR, oneOf, top, ↓reduceIte, Nat.reduceEqDiff, Nat.reduceLeDiff, Nat.reduceAdd, Nat.reduceSub, Nat.reduceMul, reduceCtorEq, Int.reduceEq, Int.reduceLT, Int.reduceLE, Int.reduceNeg, Int.reduceAdd, Int.reduceSub]
    exact w.store hob
  | false =>
    by_cases h2 : s[a0] = 34
    · have en : nextM (s[a0] :: s.drop (a0 + 1)) = strM (s.drop (a0 + 1)) := by simp only [nextM]; rw [if_neg (by rw [h1]; exact Bool.false_ne_true), if_pos h2]
      rw [en]
      replace h2 := eq_true h2
      simp +contextual only [hb, nb, bn, f0, f1, e34, h2, List.getElem?_eq_getElem h0, Int.toNat_natCast, ↓wA, wB, wZ, repeatV, RX.evs, spl, over, ones, Ex.ends, evR, oneOf, top, ↓reduceIte, Nat.reduceEqDiff, Nat.reduceLeDiff, Nat.reduceAdd, Nat.reduceSub, Nat.reduceMul, reduceCtorEq, Int.reduceEq, Int.reduceLT, Int.reduceLE, Int.reduceNeg, Int.reduceAdd, Int.reduceSub]
      refine callK_intro (text_ctr s a0 b _ hbx h0 hs hobx) ?_
      rintro x hp w
      have g1 := gnew w
      obtain ⟨k, n, t, rfl, _⟩ := w.res
      simp +contextual only [g1, hb, nb, bn, f0, f1, ↓wA, wB, wZ, repeatV, RX.evs, spl, over, ones, Ex.ends, evR, oneOf, top, ↓reduceIte, Nat.reduceEqDiff, Nat.reduceLeDiff, Nat.reduceAdd, Nat.reduceSub, Nat.reduceMul, reduceCtorEq, Int.reduceEq, Int.reduceLT, Int.reduceLE, Int.reduceNeg, Int.reduceAdd, Int.reduceSub]
      exact w.store hob
    simp +contextual only [hb, nb, bn, f0, f1, e34, h2, List.getElem?_eq_getElem h0, Int.toNat_natCast, ↓wA, wB, wZ, repeatV, RX.evs, spl, over, ones, Ex.ends, evR, oneOf, top, ↓reduceIte, Nat.reduceEqDiff, Nat.reduceLeDiff, Nat.reduceAdd, Nat.reduceSub, Nat.reduceMul, reduceCtorEq, Int.reduceEq, Int.reduceLT, Int.reduceLE, Int.reduceNeg, Int.reduceAdd, Int.reduceSub]
    refine callK_pure (small_pure _ _) ?_
    by_cases h3 : (smallB ((s[a0]).toNat : Int) || decide (s[a0] = 95)) = true
    · have en : nextM (s[a0] :: s.drop (a0 + 1)) = nameM 3 (s.drop a0) := by rw [hd]; simp only [nextM, h1, h2, h3, Bool.false_eq_true, if_false, if_true]
      rw [en]
      have fin : callK Tryd.prog 48 [.ptr b 0, .int .i64 3] (some 33) none [] [] (fun _ => .bad) h (fun _ _ _ => True) → True := fun _ => trivial
      cases hs1 : smallB ((s[a0]).toNat : Int) with
      | true =>
        simp +contextual only [hb, nb, bn, f0, f1, e34, h2, hs1, List.getElem?_eq_getElem h0, Int.toNat_natCast, ↓wA, wB, wZ, repeatV, RX.evs, spl, over, ones, Ex.ends, evR, oneOf, top, ↓reduceIte, Nat.reduceEqDiff, Nat.reduceLeDiff, Nat.reduceAdd, Nat.reduceSub, Nat.reduceMul, reduceCtorEq, Int.reduceEq, Int.reduceLT, Int.reduceLE, Int.reduceNeg, Int.reduceAdd, Int.reduceSub]
        refine callK_intro (name_ctr s a0 3 b _ hbx (by omega) hs hobx) ?_
        rintro x hp w
        have g1 := gnew w
        obtain ⟨k, n, t, rfl, _⟩ := w.res
        simp +contextual only [g1, hb, nb, bn, f0, f1, ↓wA, wB, wZ, repeatV, RX.evs, spl, over, ones, Ex.ends, evR, oneOf, top, ↓reduceIte, Nat.reduceEqDiff, Nat.reduceLeDiff, Nat.reduceAdd, Nat.reduceSub, Nat.reduceMul, reduceCtorEq, Int.reduceEq, Int.reduceLT, Int.reduceLE, Int.reduceNeg, Int.reduceAdd, Int.reduceSub]
        exact w.store hob
      | false =>
        rw [hs1, Bool.false_or, decide_eq_true_eq] at h3
        replace h3 := eq_true h3
        simp +contextual only [hb, nb, bn, f0, f1, e34, e95, h2, h3, hs1, List.getElem?_eq_getElem h0, Int.toNat_natCast, ↓wA, wB, wZ, repeatV, RX.evs, spl, over, ones, Ex.ends, evR, oneOf, top, ↓reduceIte, Nat.reduceEqDiff, Nat.reduceLeDiff, Nat.reduceAdd, Nat.reduceSub, Nat.reduceMul, reduceCtorEq, Int.reduceEq, Int.reduceLT, Int.reduceLE, Int.reduceNeg, Int.reduceAdd, Int.reduceSub]
        refine callK_intro (name_ctr s a0 3 b _ hbx (by omega) hs hobx) ?_
        rintro x hp w
        have g1 := gnew w
        obtain ⟨k, n, t, rfl, _⟩ := w.res
        simp +contextual only [g1, hb, nb, bn, f0, f1, ↓wA, wB, wZ, repeatV, RX.evs, spl, over, ones, Ex.ends, evR, oneOf, top, ↓reduceIte, Nat.reduceEqDiff, Nat.reduceLeDiff, Nat.reduceAdd, Nat.reduceSub, Nat.reduceMul, reduceCtorEq, Int.reduceEq, Int.reduceLT, Int.reduceLE, Int.reduceNeg, Int.reduceAdd, Int.reduceSub]
        exact w.store hob
    · have h3' := h3
      rw [Bool.not_eq_true, Bool.or_eq_false_iff, decide_eq_false_iff_not] at h3'
      obtain ⟨h3a, h3b⟩ := h3'
      simp +contextual only [hb, nb, bn, f0, f1, e34, e95, h2, h3a, h3b, List.getElem?_eq_getElem h0, Int.toNat_natCast, ↓wA, wB, wZ, repeatV, RX.evs, spl, over, ones, Ex.ends, evR, oneOf, top, ↓reduceIte, Nat.reduceEqDiff, Nat.reduceLeDiff, Nat.reduceAdd, Nat.reduceSub, Nat.reduceMul, reduceCtorEq, Int.reduceEq, Int.reduceLT, Int.reduceLE, Int.reduceNeg, Int.reduceAdd, Int.reduceSub]
      refine callK_pure (great_pure _ _) ?_
      cases h4 : greatB ((s[a0]).toNat : Int) with
      | true =>
        have en : nextM (s[a0] :: s.drop (a0 + 1)) = nameM 4 (s.drop a0) := by rw [hd]; simp only [nextM, h1, h2, h3, h4, Bool.false_eq_true, if_false, if_true]
        rw [en]
        simp +contextual only [hb, nb, bn, f0, f1, List.getElem?_eq_getElem h0, Int.toNat_natCast, ↓wA, wB, wZ, repeatV, RX.evs, spl, over, ones, Ex.ends, evR, oneOf, top, ↓reduceIte, Nat.reduceEqDiff, Nat.reduceLeDiff, Nat.reduceAdd, Nat.reduceSub, Nat.reduceMul, reduceCtorEq, Int.reduceEq, Int.reduceLT, Int.reduceLE, Int.reduceNeg, Int.reduceAdd, Int.reduceSub]
        refine callK_intro (name_ctr s a0 4 b _ hbx (by omega) hs hobx) ?_
        rintro x hp w
        have g1 := gnew w
        obtain ⟨k, n, t, rfl, _⟩ := w.res
        simp +contextual only [g1, hb, nb, bn, f0, f1, ↓wA, wB, wZ, repeatV, RX.evs, spl, over, ones, Ex.ends, evR, oneOf, top, ↓reduceIte, Nat.reduceEqDiff, Nat.reduceLeDiff, Nat.reduceAdd, Nat.reduceSub, Nat.reduceMul, reduceCtorEq, Int.reduceEq, Int.reduceLT, Int.reduceLE, Int.reduceNeg, Int.reduceAdd, Int.reduceSub]
        exact w.store hob
      | false =>
        have w1 : IntKind.i64.wrap ((a0 : Int) + 1) = ((a0 + 1 : Nat) : Int) := by rw [wrap_i64 (by omega) (by omega)]; rfl
        have f2 : (0 ≤ ((a0 + 1 : Nat) : Int)) = True := eq_true (by omega)
        by_cases h5 : s[a0] = 39 ∧ headSmall (s.drop (a0 + 1))
        · have en : nextM (s[a0] :: s.drop (a0 + 1)) = (nameM 5 (s.drop (a0 + 1))).map fun q => (q.1, q.2.1, q.2.2.1, q.2.2.2 + 1) := by simp only [nextM]; rw [if_neg (by rw [h1]; exact Bool.false_ne_true), if_neg h2, if_neg h3, if_neg (by rw [h4]; exact Bool.false_ne_true), if_pos h5]
          rw [en]
          obtain ⟨h5a, h5b⟩ := h5
          replace h5a := eq_true h5a
          have hlt : a0 + 1 < s.length := by
            by_cases q : a0 + 1 < s.length
            · exact q
            · rw [List.drop_eq_nil_of_le (by omega)] at h5b
              cases h5b
          rw [drop_cons hlt] at h5b
          have f3 : (((a0 + 1 : Nat) : Int) < (s.length : Int)) = True := eq_true (by omega)
          simp +contextual (maxSteps := 1000000) only [hb, nb, bn, f0, f1, f2, f3, w1, e34, e95, e39, h2, h5a, List.getElem?_eq_getElem h0, List.getElem?_eq_getElem hlt, Int.toNat_natCast, ↓wA, wB, wZ, repeatV, RX.evs, spl, over, ones, Ex.ends, evR, oneOf, top, ↓reduceIte, Nat.reduceEqDiff, Nat.reduceLeDiff, Nat.reduceAdd, Nat.reduceSub, Nat.reduceMul, reduceCtorEq, Int.reduceEq, Int.reduceLT, Int.reduceLE, Int.reduceNeg, Int.reduceAdd, Int.reduceSub]
          refine callK_pure (small_pure _ _) ?_
          rw [show smallB ((s[a0 + 1]).toNat : Int) = true from h5b]
          simp +contextual (maxSteps := 1000000) only [hb, nb, bn, f0, f1, f2, f3, w1, e34, e95, e39, h2, h5a, List.getElem?_eq_getElem h0, List.getElem?_eq_getElem hlt, Int.toNat_natCast, ↓wA, wB, wZ, repeatV, RX.evs, spl, over, ones, Ex.ends, evR, oneOf, top, ↓reduceIte, Nat.reduceEqDiff, Nat.reduceLeDiff, Nat.reduceAdd, Nat.reduceSub, Nat.reduceMul, reduceCtorEq, Int.reduceEq, Int.reduceLT, Int.reduceLE, Int.reduceNeg, Int.reduceAdd, Int.reduceSub]
          have hmy : Mod (fun q => q = b) (h.new (.ofL [.int .i64 0, .int .i64 0, .int .i64 0, .str []] 0 false)) ((h.new (.ofL [.int .i64 0, .int .i64 0, .int .i64 0, .str []] 0 false)).set b (.ofL [.str s, .int .i64 ((a0 + 1 : Nat) : Int), .int .i64 0] 0 false)) := (Mod.refl _ _).self _
          refine callK_intro (name_ctr s (a0 + 1) 5 b _ (by rw [get_set, if_pos rfl]; rfl) (by omega) hs (hmy.old hobx)) ?_
          rintro x hp w
          have w' : WOut s a0 b (h.new (.ofL [.int .i64 0, .int .i64 0, .int .i64 0, .str []] 0 false)) ((nameM 5 (s.drop (a0 + 1))).map fun q => (q.1, q.2.1, q.2.2.1, q.2.2.2 + 1)) x hp := by
            obtain ⟨wm, k, n, t, wx, wr⟩ := w
            refine ⟨hmy.trans wm, k, n, t, wx, ?_⟩
            cases hn : nameM 5 (s.drop (a0 + 1)) with
            | error e => rw [hn] at wr; exact wr
            | ok q =>
              rw [hn] at wr
              obtain ⟨r1, r2, r3, r4, r5⟩ := wr
              refine ⟨r1, r2, r3, ?_, ?_⟩
              · rw [r4]
                show scB s ((a0 + 1 + q.2.2.2 : Nat) : Int) 0 = scB s ((a0 + (q.2.2.2 + 1) : Nat) : Int) 0
                rw [show a0 + 1 + q.2.2.2 = a0 + (q.2.2.2 + 1) from by omega]
              · show a0 + (q.2.2.2 + 1) ≤ s.length
                omega
          have g1 := gnew w'
          obtain ⟨k, n, t, rfl, _⟩ := w'.res
          simp +contextual only [g1, hb, nb, bn, f0, f1, ↓wA, wB, wZ, repeatV, RX.evs, spl, over, ones, Ex.ends, evR, oneOf, top, ↓reduceIte, Nat.reduceEqDiff, Nat.reduceLeDiff, Nat.reduceAdd, Nat.reduceSub, Nat.reduceMul, reduceCtorEq, Int.reduceEq, Int.reduceLT, Int.reduceLE, Int.reduceNeg, Int.reduceAdd, Int.reduceSub]
          exact w'.store hob
        · have en : nextM (s[a0] :: s.drop (a0 + 1)) = signM (s.drop a0) := by rw [hd]; simp only [nextM]; rw [if_neg (by rw [h1]; exact Bool.false_ne_true), if_neg h2, if_neg h3, if_neg (by rw [h4]; exact Bool.false_ne_true), if_neg h5]
          rw [en]
          have hcase : ((s[a0] = 39) = False) ∨ (((s[a0] = 39) = True) ∧ ¬ a0 + 1 < s.length) ∨ (((s[a0] = 39) = True) ∧ ∃ hlt : a0 + 1 < s.length, smallB ((s[a0 + 1]).toNat : Int) = false) := by
            by_cases q : s[a0] = 39
            · by_cases hlt : a0 + 1 < s.length
              · refine .inr (.inr ⟨eq_true q, hlt, ?_⟩)
                cases hq : smallB ((s[a0 + 1]).toNat : Int) with
                | false => rfl
                | true => exact absurd ⟨q, by rw [drop_cons hlt]; exact hq⟩ h5
              · exact .inr (.inl ⟨eq_true q, hlt⟩)
            · exact .inl (eq_false q)
          have two : ∀ t ∈ signList, t.length ≤ 2 := by decide
          have c17 : ((17 : Nat) : Int) = 17 := rfl
          rcases hcase with q1 | ⟨q1, q2⟩ | ⟨q1, hlt, q2⟩
          case' neg.inl =>
            simp +contextual (maxSteps := 1000000) only [hb, nb, bn, f0, f1, f2, w1, e34, e95, e39, h2, q1, List.getElem?_eq_getElem h0, Int.toNat_natCast, ↓wA, wB, wZ, repeatV, RX.evs, spl, over, ones, Ex.ends, evR, oneOf, top, ↓reduceIte, Nat.reduceEqDiff, Nat.reduceLeDiff, Nat.reduceAdd, Nat.reduceSub, Nat.reduceMul, reduceCtorEq, Int.reduceEq, Int.reduceLT, Int.reduceLE, Int.reduceNeg, Int.reduceAdd, Int.reduceSub]
          case' neg.inr.inl =>
            have f3 : (((a0 + 1 : Nat) : Int) < (s.length : Int)) = False := eq_false (by omega)
            simp +contextual (maxSteps := 1000000) only [hb, nb, bn, f0, f1, f2, f3, w1, e34, e95, e39, h2, q1, List.getElem?_eq_getElem h0, Int.toNat_natCast, ↓wA, wB, wZ, repeatV, RX.evs, spl, over, ones, Ex.ends, evR, oneOf, top, ↓reduceIte, Nat.reduceEqDiff, Nat.reduceLeDiff, Nat.reduceAdd, Nat.reduceSub, Nat.reduceMul, reduceCtorEq, Int.reduceEq, Int.reduceLT, Int.reduceLE, Int.reduceNeg, Int.reduceAdd, Int.reduceSub]
          case' neg.inr.inr =>
            have f3 : (((a0 + 1 : Nat) : Int) < (s.length : Int)) = True := eq_true (by omega)
            simp +contextual (maxSteps := 1000000) only [hb, nb, bn, f0, f1, f2, f3, w1, e34, e95, e39, h2, q1, List.getElem?_eq_getElem h0, List.getElem?_eq_getElem hlt, Int.toNat_natCast, ↓wA, wB, wZ, repeatV, RX.evs, spl, over, ones, Ex.ends, evR, oneOf, top, ↓reduceIte, Nat.reduceEqDiff, Nat.reduceLeDiff, Nat.reduceAdd, Nat.reduceSub, Nat.reduceMul, reduceCtorEq, Int.reduceEq, Int.reduceLT, Int.reduceLE, Int.reduceNeg, Int.reduceAdd, Int.reduceSub]
            refine callK_pure (small_pure _ _) ?_
            rw [q2]
            simp +contextual (maxSteps := 1000000) only [hb, nb, bn, f0, f1, f2, f3, w1, e34, e95, e39, h2, q1, List.getElem?_eq_getElem h0, List.getElem?_eq_getElem hlt, Int.toNat_natCast, ↓wA, wB, wZ, repeatV, RX.evs, spl, over, ones, Ex.ends, evR, oneOf, top, ↓reduceIte, Nat.reduceEqDiff, Nat.reduceLeDiff, Nat.reduceAdd, Nat.reduceSub, Nat.reduceMul, reduceCtorEq, Int.reduceEq, Int.reduceLT, Int.reduceLE, Int.reduceNeg, Int.reduceAdd, Int.reduceSub]
          all_goals
            refine callK_intro (signs_ctr _) ?_
            rintro x hp ⟨rfl, rfl⟩
            simp +contextual only [↓wA, wB, wZ, repeatV, RX.evs, spl, over, ones, Ex.ends, evR, oneOf, top, ↓reduceIte, Nat.reduceEqDiff, Nat.reduceLeDiff, Nat.reduceAdd, Nat.reduceSub, Nat.reduceMul, reduceCtorEq, Int.reduceEq, Int.reduceLT, Int.reduceLE, Int.reduceNeg, Int.reduceAdd, Int.reduceSub]
            refine loopK_intro (fun r h' => r 0 = .ptr b 0 ∧ r 2 = .ptr (pa h.next) 0 ∧ r 77 = .slice (pa (h.next + 1)) 0 17 17 ∧ r 78 = .int .i64 17 ∧ ∃ i : Nat, i ≤ 17 ∧ r 79 = .int .i64 i ∧ h' = (h.new (.ofL [.int .i64 0, .int .i64 0, .int .i64 0, .str []] 0 false)).new (.ofL signVs 0 false) ∧
              signList.find? (·.isPrefixOf (s.drop a0)) = (signList.drop i).find? (·.isPrefixOf (s.drop a0))) (fun r h' => 17 - (r 79).toN) ?_ ?_
            · exact ⟨by simp only [↓wA, wB, wZ, repeatV, RX.evs, spl, over, ones, Ex.ends, evR, oneOf, top, ↓reduceIte, Nat.reduceEqDiff, Nat.reduceLeDiff, Nat.reduceAdd, Nat.reduceSub, Nat.reduceMul, reduceCtorEq, Int.reduceEq, Int.reduceLT, Int.reduceLE, Int.reduceNeg, Int.reduceAdd, Int.reduceSub], by simp only [↓wA, wB, wZ, repeatV, RX.evs, spl, over, ones, Ex.ends, evR, oneOf, top, ↓reduceIte, Nat.reduceEqDiff, Nat.reduceLeDiff, Nat.reduceAdd, Nat.reduceSub, Nat.reduceMul, reduceCtorEq, Int.reduceEq, Int.reduceLT, Int.reduceLE, Int.reduceNeg, Int.reduceAdd, Int.reduceSub], by simp only [↓wA, wB, wZ, repeatV, RX.evs, spl, over, ones, Ex.ends, evR, oneOf, top, ↓reduceIte, Nat.reduceEqDiff, Nat.reduceLeDiff, Nat.reduceAdd, Nat.reduceSub, Nat.reduceMul, reduceCtorEq, Int.reduceEq, Int.reduceLT, Int.reduceLE, Int.reduceNeg, Int.reduceAdd, Int.reduceSub], by simp only [c17, ↓wA, wB, wZ, repeatV, RX.evs, spl, over, ones, Ex.ends, evR, oneOf, top, ↓reduceIte, Nat.reduceEqDiff, Nat.reduceLeDiff, Nat.reduceAdd, Nat.reduceSub, Nat.reduceMul, reduceCtorEq, Int.reduceEq, Int.reduceLT, Int.reduceLE, Int.reduceNeg, Int.reduceAdd, Int.reduceSub], 0, by omega, by simp only [↓wA, wB, wZ, repeatV, RX.evs, spl, over, ones, Ex.ends, evR, oneOf, top, ↓reduceIte, Nat.reduceEqDiff, Nat.reduceLeDiff, Nat.reduceAdd, Nat.reduceSub, Nat.reduceMul, reduceCtorEq, Int.reduceEq, Int.reduceLT, Int.reduceLE, Int.reduceNeg, Int.reduceAdd, Int.reduceSub]; rfl, rfl, rfl⟩
            · rintro r h' ⟨r0, r2, r77, r78, i, hi, r79, rfl, hfind⟩
              unfold c26l1
              have hobn : Old ((h.new (.ofL [.int .i64 0, .int .i64 0, .int .i64 0, .str []] 0 false)).new (.ofL signVs 0 false)) b := (hx.new _).old hob
              have hgb : ((h.new (.ofL [.int .i64 0, .int .i64 0, .int .i64 0, .str []] 0 false)).new (.ofL signVs 0 false)).get b = .ofL [.str s, .int .i64 a0, .int .i64 0] 0 false := by rw [(hx.new _).get _ hob, hb]
              have nb1 : (b = pa (h.next + 1)) = False := new_ne hob (by omega)
              have bn1 : (pa (h.next + 1) = b) = False := by rw [← nb1]; exact propext eq_comm
              by_cases hlt' : i < 17
              · have g0 : ((i : Int) < 17) = True := eq_true (by omega)
                have g1 : (0 ≤ (i : Int)) = True := eq_true (by omega)
                rw [find_step _ hlt'] at hfind
                have hlen := two _ (List.getElem_mem (h := (show i < signList.length from hlt')))
                simp +contextual only [c17, r0, r2, r77, r78, r79, g0, g1, nb, bn, nb1, bn1, Int.toNat_natCast, Nat.mul_one, signVs_get hlt', ↓wA, wB, wZ, repeatV, RX.evs, spl, over, ones, Ex.ends, evR, oneOf, top, ↓reduceIte, Nat.reduceEqDiff, Nat.reduceLeDiff, Nat.reduceAdd, Nat.reduceSub, Nat.reduceMul, reduceCtorEq, Int.reduceEq, Int.reduceLT, Int.reduceLE, Int.reduceNeg, Int.reduceAdd, Int.reduceSub]
                refine callK_pure (has_pure s _ (a0 : Int) [.int .i64 0] b 0 false _ hgb (by omega) (by omega)) ?_
                rw [Int.toNat_natCast]
                cases hpre : (signList[i]'hlt').isPrefixOf (s.drop a0) with
                | true =>
                  rw [hpre, if_pos rfl] at hfind
                  have hl2 : (signList[i]'hlt').length ≤ s.length - a0 := by
                    rw [List.isPrefixOf_iff_prefix] at hpre
                    have := hpre.length_le
                    rwa [List.length_drop] at this
                  have w3 : IntKind.i64.wrap ((a0 : Int) + ((signList[i]'hlt').length : Int)) = ((a0 + (signList[i]'hlt').length : Nat) : Int) := by rw [wrap_i64 (by omega) (by omega)]; rfl
                  simp +contextual only [c17, r0, r2, r77, r78, r79, g0, g1, w3, nb, bn, nb1, bn1, hb, ↓wA, wB, wZ, repeatV, RX.evs, spl, over, ones, Ex.ends, evR, oneOf, top, ↓reduceIte, Nat.reduceEqDiff, Nat.reduceLeDiff, Nat.reduceAdd, Nat.reduceSub, Nat.reduceMul, reduceCtorEq, Int.reduceEq, Int.reduceLT, Int.reduceLE, Int.reduceNeg, Int.reduceAdd, Int.reduceSub]
                  unfold signM
                  rw [hfind]
                  refine ⟨(((hx.new _).mod _).self _).fresh (Nat.le_refl _) _, _, _, _, rfl, rfl, rfl, rfl, ?_, by show a0 + (signList[i]'hlt').length ≤ s.length; omega⟩
                  simp only [scB, nb, bn, ↓wA, wB, wZ, repeatV, RX.evs, spl, over, ones, Ex.ends, evR, oneOf, top, ↓reduceIte, Nat.reduceEqDiff, Nat.reduceLeDiff, Nat.reduceAdd, Nat.reduceSub, Nat.reduceMul, reduceCtorEq, Int.reduceEq, Int.reduceLT, Int.reduceLE, Int.reduceNeg, Int.reduceAdd, Int.reduceSub]
                | false =>
                  rw [hpre, if_neg Bool.false_ne_true] at hfind
                  have w3 : IntKind.i64.wrap ((i : Int) + 1) = ((i + 1 : Nat) : Int) := by rw [wrap_i64 (by omega) (by omega)]; rfl
                  simp +contextual only [c17, r0, r2, r77, r78, r79, g0, g1, w3, nb, bn, nb1, bn1, hb, ↓wA, wB, wZ, repeatV, RX.evs, spl, over, ones, Ex.ends, evR, oneOf, top, ↓reduceIte, Nat.reduceEqDiff, Nat.reduceLeDiff, Nat.reduceAdd, Nat.reduceSub, Nat.reduceMul, reduceCtorEq, Int.reduceEq, Int.reduceLT, Int.reduceLE, Int.reduceNeg, Int.reduceAdd, Int.reduceSub]
                  exact ⟨⟨i + 1, by omega, rfl, hfind⟩, by omega⟩
              · obtain rfl : i = 17 := by omega
                have hnone : signList.find? (·.isPrefixOf (s.drop a0)) = none := by rw [hfind]; rfl
                have g0 : ((17 : Int) < 17) = False := eq_false (by omega)
                simp +contextual only [c17, r0, r2, r77, r78, r79, g0, hgb, nb, bn, nb1, bn1, hb, ↓wA, wB, wZ, repeatV, RX.evs, spl, over, ones, Ex.ends, evR, oneOf, top, ↓reduceIte, Nat.reduceEqDiff, Nat.reduceLeDiff, Nat.reduceAdd, Nat.reduceSub, Nat.reduceMul, reduceCtorEq, Int.reduceEq, Int.reduceLT, Int.reduceLE, Int.reduceNeg, Int.reduceAdd, Int.reduceSub]
                unfold signM
                rw [hnone]
                refine ⟨(((hx.new _).mod _).self _).fresh (Nat.le_refl _) _, _, _, _, rfl, by decide, (a0 : Int), ?_⟩
                simp only [scB, nb, bn, ↓wA, wB, wZ, repeatV, RX.evs, spl, over, ones, Ex.ends, evR, oneOf, top, ↓reduceIte, Nat.reduceEqDiff, Nat.reduceLeDiff, Nat.reduceAdd, Nat.reduceSub, Nat.reduceMul, reduceCtorEq, Int.reduceEq, Int.reduceLT, Int.reduceLE, Int.reduceNeg, Int.reduceAdd, Int.reduceSub]
end Go.Proofs.YthcgccnbhdociaaDoor

namespace Go.Proofs.YthcgccnbhdociaaDoor
open Go Am
set_option linter.unusedSectionVars false
set_option linter.unusedSimpArgs false
set_option linter.unusedVariables false

theorem get_ba (s : List UInt8) (i : Nat) : (ByteArray.mk ⟨s⟩).get! i = (s[i]?).getD 0 := by
  show (Array.mk s)[i]! = _
  simp
  rfl
theorem decode_drop (s : List UInt8) (a : Nat) : Lib.decodeGo ⟨⟨s.drop a⟩⟩ = if a < s.length then decodeL s a else (65533, 0) := by
  unfold Lib.decodeGo decodeL
  have hz : (ByteArray.mk ⟨s.drop a⟩).size = s.length - a := by
    show (s.drop a).length = _
    rw [List.length_drop]
  have hz2 : (ByteArray.mk ⟨s⟩).size = s.length := rfl
  by_cases ha : a < s.length
  · rw [if_pos ha, if_neg (by rw [hz]; omega), Lib.decode_at, Lib.decode_at, hz, hz2]
    simp only [get_ba, List.getElem?_drop, Nat.add_zero, Nat.sub_zero, Nat.zero_add]
  · rw [if_neg ha, if_pos (by rw [hz]; omega)]

theorem nextV_iter {h : Heap} {b : Pa} {s : List UInt8} {a : Nat} (hg : h.get b = .iter s a) :
    nextV (.ptr b 0) h = if a < s.length then .val (.tuple [.bool true, .int .i64 a, .int .i32 (decodeL s a).1]) (h.set b (.iter s (a + (decodeL s a).2))) else .val (.tuple [.bool false]) h := by
  unfold nextV
  simp only [V.onPtr, hg]
  rw [show Nat.beq 0 0 = true from rfl]
  simp only [cond_true]
  by_cases ha : a < s.length
  · rw [if_pos ha, show Nat.blt a s.length = true from by rw [Nat.blt_eq]; exact ha]
    rfl
  · rw [if_neg ha, show Nat.blt a s.length = false from by rw [← Bool.not_eq_true, Nat.blt_eq]; exact ha]
    rfl

def iterLeft (s : List UInt8) : Blk → Nat
  | .iter _ a => s.length - a
  | _ => 0

theorem decodeL_pos (s : List UInt8) (a : Nat) : 1 ≤ (decodeL s a).2 := by
  unfold decodeL
  rw [Lib.decode_at]
  unfold Lib.decodeN
  repeat' split
  all_goals simp

theorem right_ctr (s : List UInt8) (hs : s.length ≤ 100000) (h : Heap) : Ctr Tryd.prog 13 [.str s] h fun x h' => x = .int .i64 (rightM s : Nat) ∧ Ext h h' := by
  refine c13_ctr rfl (wpK_of ?_)
  unfold c13
  simp +contextual only [↓wA, wB, wZ, repeatV, RX.evs, spl, over, ones, Ex.ends, evR, oneOf, top, ↓reduceIte, Nat.reduceEqDiff, Nat.reduceLeDiff, Nat.reduceAdd, Nat.reduceSub, Nat.reduceMul, reduceCtorEq, Int.reduceEq, Int.reduceLT, Int.reduceLE, Int.reduceNeg, Int.reduceAdd, Int.reduceSub]
  refine loopK_intro (fun r h' => r 0 = .str s ∧ r 8 = .ptr (pa h.next) 0 ∧ Ext h h' ∧ ∃ a, h'.get (pa h.next) = .iter s a ∧ rightM s = rightA s a) (fun r h' => iterLeft s (h'.get (pa h.next))) ?_ ?_
  · exact ⟨by simp only [↓wA, wB, wZ, repeatV, RX.evs, spl, over, ones, Ex.ends, evR, oneOf, top, ↓reduceIte, Nat.reduceEqDiff, Nat.reduceLeDiff, Nat.reduceAdd, Nat.reduceSub, Nat.reduceMul, reduceCtorEq, Int.reduceEq, Int.reduceLT, Int.reduceLE, Int.reduceNeg, Int.reduceAdd, Int.reduceSub], by simp only [↓wA, wB, wZ, repeatV, RX.evs, spl, over, ones, Ex.ends, evR, oneOf, top, ↓reduceIte, Nat.reduceEqDiff, Nat.reduceLeDiff, Nat.reduceAdd, Nat.reduceSub, Nat.reduceMul, reduceCtorEq, Int.reduceEq, Int.reduceLT, Int.reduceLE, Int.reduceNeg, Int.reduceAdd, Int.reduceSub], (Ext.refl h).new _, 0, by simp only [↓wA, wB, wZ, repeatV, RX.evs, spl, over, ones, Ex.ends, evR, oneOf, top, ↓reduceIte, Nat.reduceEqDiff, Nat.reduceLeDiff, Nat.reduceAdd, Nat.reduceSub, Nat.reduceMul, reduceCtorEq, Int.reduceEq, Int.reduceLT, Int.reduceLE, Int.reduceNeg, Int.reduceAdd, Int.reduceSub], rfl⟩
  · rintro r h' ⟨r0, r8, hx, a, hg, ha⟩
    unfold c13l1
    have hnx := nextV_iter hg
    by_cases hlt : a < s.length
    · rw [if_pos hlt] at hnx
      have hp := decodeL_pos s a
      by_cases hc : (decodeL s a).1 = 65533
      · have hc' : (((decodeL s a).1 : Int) = 65533) = True := eq_true (by omega)
        have f0 : (0 ≤ (a : Int)) = True := eq_true (by omega)
        have f1 : ((a : Int) ≤ (s.length : Int)) = True := eq_true (by omega)
        simp +contextual only [r0, r8, hnx, hc', f0, f1, Int.toNat_natCast, ↓wA, wB, wZ, repeatV, RX.evs, spl, over, ones, Ex.ends, evR, oneOf, top, ↓reduceIte, Nat.reduceEqDiff, Nat.reduceLeDiff, Nat.reduceAdd, Nat.reduceSub, Nat.reduceMul, reduceCtorEq, Int.reduceEq, Int.reduceLT, Int.reduceLE, Int.reduceNeg, Int.reduceAdd, Int.reduceSub]
        refine callK_pure (decode_calls _ _) ?_
        rw [decode_drop, if_pos hlt]
        by_cases hw : (decodeL s a).2 = 1
        · have hw' : (((decodeL s a).2 : Int) = 1) = True := eq_true (by omega)
          have hcw : cw s a = 0 := by unfold cw; rw [if_pos (Prod.ext hc hw)]
          rw [rightA_bad hlt hcw] at ha
          simp +contextual only [r0, r8, hnx, hc', hw', f0, f1, Int.toNat_natCast, ↓wA, wB, wZ, repeatV, RX.evs, spl, over, ones, Ex.ends, evR, oneOf, top, ↓reduceIte, Nat.reduceEqDiff, Nat.reduceLeDiff, Nat.reduceAdd, Nat.reduceSub, Nat.reduceMul, reduceCtorEq, Int.reduceEq, Int.reduceLT, Int.reduceLE, Int.reduceNeg, Int.reduceAdd, Int.reduceSub]
          rw [ha]
          exact ⟨rfl, hx.set (Nat.le_refl _) _⟩
        · have hw' : (((decodeL s a).2 : Int) = 1) = False := eq_false (by omega)
          have hcw : cw s a = (decodeL s a).2 := by unfold cw; rw [if_neg (fun q => hw (congrArg Prod.snd q))]
          rw [rightA_step hlt (by rw [hcw]; omega), hcw] at ha
          simp +contextual only [r0, r8, hnx, hc', hw', f0, f1, Int.toNat_natCast, ↓wA, wB, wZ, repeatV, RX.evs, spl, over, ones, Ex.ends, evR, oneOf, top, ↓reduceIte, Nat.reduceEqDiff, Nat.reduceLeDiff, Nat.reduceAdd, Nat.reduceSub, Nat.reduceMul, reduceCtorEq, Int.reduceEq, Int.reduceLT, Int.reduceLE, Int.reduceNeg, Int.reduceAdd, Int.reduceSub]
          refine ⟨⟨hx.set (Nat.le_refl _) _, _, rfl, ha⟩, ?_⟩
          rw [hg]
          show s.length - (a + (decodeL s a).2) < s.length - a
          omega
      · have hc' : (((decodeL s a).1 : Int) = 65533) = False := eq_false (by omega)
        have hcw : cw s a = (decodeL s a).2 := by unfold cw; rw [if_neg (fun q => hc (congrArg Prod.fst q))]
        rw [rightA_step hlt (by rw [hcw]; omega), hcw] at ha
        simp +contextual only [r0, r8, hnx, hc', Int.toNat_natCast, ↓wA, wB, wZ, repeatV, RX.evs, spl, over, ones, Ex.ends, evR, oneOf, top, ↓reduceIte, Nat.reduceEqDiff, Nat.reduceLeDiff, Nat.reduceAdd, Nat.reduceSub, Nat.reduceMul, reduceCtorEq, Int.reduceEq, Int.reduceLT, Int.reduceLE, Int.reduceNeg, Int.reduceAdd, Int.reduceSub]
        refine ⟨⟨hx.set (Nat.le_refl _) _, _, rfl, ha⟩, ?_⟩
        rw [hg]
        show s.length - (a + (decodeL s a).2) < s.length - a
        omega
    · rw [if_neg hlt] at hnx
      rw [rightA_end (by omega)] at ha
      simp +contextual only [r0, r8, hnx, Int.toNat_natCast, ↓wA, wB, wZ, repeatV, RX.evs, spl, over, ones, Ex.ends, evR, oneOf, top, ↓reduceIte, Nat.reduceEqDiff, Nat.reduceLeDiff, Nat.reduceAdd, Nat.reduceSub, Nat.reduceMul, reduceCtorEq, Int.reduceEq, Int.reduceLT, Int.reduceLE, Int.reduceNeg, Int.reduceAdd, Int.reduceSub]
      rw [ha]
      exact ⟨rfl, hx⟩
end Go.Proofs.YthcgccnbhdociaaDoor

namespace Go.Proofs.YthcgccnbhdociaaDoor
open Go Am
set_option linter.unusedSectionVars false
set_option linter.unusedSimpArgs false
set_option linter.unusedVariables false

def Wd.enc (w : Wd) : List V := [.int .i64 w.kind, .int .i64 w.num, .int .i64 w.pos, .str w.text]
def wdsV : List Wd → List V
  | [] => []
  | w :: ws => w.enc ++ wdsV ws
theorem wdsV_append : ∀ a b : List Wd, wdsV (a ++ b) = wdsV a ++ wdsV b
  | [], b => rfl
  | w :: a, b => by simp only [wdsV, List.cons_append, wdsV_append a b, List.append_assoc]
theorem wdsV_len : ∀ a : List Wd, (wdsV a).length = a.length * 4
  | [] => rfl
  | w :: a => by simp only [wdsV, List.length_append, wdsV_len a, List.length_cons, Wd.enc, List.length_nil]; omega
def prep (ws : List Wd) : Except (Int × Nat) (List Wd) → Except (Int × Nat) (List Wd)
  | .ok w2 => .ok (ws ++ w2)
  | .error e => .error e
theorem prep_cons (ws : List Wd) (w : Wd) (r : Except (Int × Nat) (List Wd)) : prep ws (consOk w r) = prep (ws ++ [w]) r := by
  cases r with
  | ok w2 => simp [prep, consOk]
  | error e => rfl
theorem prep_nil (r : Except (Int × Nat) (List Wd)) : prep [] r = r := by cases r <;> rfl

/-- what Lex hands back -/
def LexOut (s : List UInt8) (h : Heap) (x : V) (h' : Heap) : Prop := Ext h h' ∧ match lexM s with
  | .ok ws => ∃ v, x = .tuple [v, .agg [.int .i64 0, .int .i64 0]] ∧ SlO h.next h' 4 v ws.length (wdsV ws)
  | .error e => x = .tuple [.nilslice, .agg [.int .i64 e.1, .int .i64 e.2]]

theorem blank_ix (c : UInt8) : (0 ≤ Lib.indexByte [9, 10, 13, 32] c) = (blank c = true) := by
  have h0 : ∀ d : UInt8, (d == c) = decide (c = d) := fun d => by
    by_cases q : c = d
    · subst q; simp
    · have q' : ¬ d = c := fun e => q e.symm
      simp [q, q']
  simp only [Lib.indexByte, h0, blank]
  by_cases h1 : c = 9
  · subst h1; decide
  · by_cases h2 : c = 10
    · subst h2; decide
    · by_cases h3 : c = 13
      · subst h3; decide
      · by_cases h4 : c = 32
        · subst h4; decide
        · simp [h1, h2, h3, h4]

theorem lex_ctr (s : List UInt8) (h : Heap) : Ctr Tryd.prog 10 [.str s] h (LexOut s h) := by
  refine c10_ctr rfl (wpK_of ?_)
  unfold c10
  by_cases hlong : (65536 : Int) < (s.length : Int)
  · simp +contextual only [hlong, ↓wA, wB, wZ, repeatV, RX.evs, spl, over, ones, Ex.ends, evR, oneOf, top, ↓reduceIte, Nat.reduceEqDiff, Nat.reduceLeDiff, Nat.reduceAdd, Nat.reduceSub, Nat.reduceMul, reduceCtorEq, Int.reduceEq, Int.reduceLT, Int.reduceLE, Int.reduceNeg, Int.reduceAdd, Int.reduceSub]
    refine ⟨((Ext.refl h).new _).set (Nat.le_refl _) _, ?_⟩
    unfold lexM
    rw [if_pos (by omega)]
    rfl
  simp +contextual only [hlong, ↓wA, wB, wZ, repeatV, RX.evs, spl, over, ones, Ex.ends, evR, oneOf, top, ↓reduceIte, Nat.reduceEqDiff, Nat.reduceLeDiff, Nat.reduceAdd, Nat.reduceSub, Nat.reduceMul, reduceCtorEq, Int.reduceEq, Int.reduceLT, Int.reduceLE, Int.reduceNeg, Int.reduceAdd, Int.reduceSub]
  refine callK_intro (right_ctr s (by omega) _) ?_
  rintro x h1 ⟨rfl, hx1⟩
  have hx : Ext h (h.new (.ofL [.int .i64 0, .int .i64 0] 0 false)) := (Ext.refl h).new _
  have hx2 := hx.trans hx1
  have g1 : h1.get (pa h.next) = .ofL [.int .i64 0, .int .i64 0] 0 false := by
    rw [hx1.get _ (old_lt (by rw [next_new]; omega))]
    simp only [↓wA, wB, wZ, repeatV, RX.evs, spl, over, ones, Ex.ends, evR, oneOf, top, ↓reduceIte, Nat.reduceEqDiff, Nat.reduceLeDiff, Nat.reduceAdd, Nat.reduceSub, Nat.reduceMul, reduceCtorEq, Int.reduceEq, Int.reduceLT, Int.reduceLE, Int.reduceNeg, Int.reduceAdd, Int.reduceSub]
  have nx1 : h.next + 1 ≤ h1.next := hx1.next
  have n0 : (pa h1.next = pa h.next) = False := by rw [pa_eq]; exact eq_false (by omega)
  have n1 : (pa h.next = pa h1.next) = False := by rw [pa_eq]; exact eq_false (by omega)
  have n0' : (h1.next = h.next) = False := eq_false (by omega)
  have n1' : (h.next = h1.next) = False := eq_false (by omega)
  have hlen : ¬ 65536 < s.length := by omega
  by_cases hr : rightM s < s.length
  · have hr' : ((rightM s : Int) < (s.length : Int)) = True := eq_true (by omega)
    simp +contextual only [hr', g1, n0, n1, n0', n1', ↓wA, wB, wZ, repeatV, RX.evs, spl, over, ones, Ex.ends, evR, oneOf, top, ↓reduceIte, Nat.reduceEqDiff, Nat.reduceLeDiff, Nat.reduceAdd, Nat.reduceSub, Nat.reduceMul, reduceCtorEq, Int.reduceEq, Int.reduceLT, Int.reduceLE, Int.reduceNeg, Int.reduceAdd, Int.reduceSub]
    refine ⟨hx2.set (Nat.le_refl _) _, ?_⟩
    unfold lexM
    rw [if_neg hlen, if_pos hr]
  have hr' : ((rightM s : Int) < (s.length : Int)) = False := eq_false (by omega)
  have hlm : lexM s = lexR s 0 := by unfold lexM; rw [if_neg hlen, if_neg hr]
  simp +contextual only [hr', g1, n0, n1, n0', n1', ↓wA, wB, wZ, repeatV, RX.evs, spl, over, ones, Ex.ends, evR, oneOf, top, ↓reduceIte, Nat.reduceEqDiff, Nat.reduceLeDiff, Nat.reduceAdd, Nat.reduceSub, Nat.reduceMul, reduceCtorEq, Int.reduceEq, Int.reduceLT, Int.reduceLE, Int.reduceNeg, Int.reduceAdd, Int.reduceSub]
  have hx3 : Ext h (h1.new (.ofL [.str s, .int .i64 0, .int .i64 0] 0 false)) := hx2.new _
  refine loopK_intro (fun r h' => r 0 = .str s ∧ r 3 = .ptr (pa h.next) 0 ∧ r 5 = .ptr (pa h1.next) 0 ∧ ∃ (a : Nat) (ws : List Wd) (v : V), r 6 = v ∧ h'.get (pa h1.next) = .ofL [.str s, .int .i64 a, .int .i64 0] 0 false ∧ a ≤ s.length ∧ ws.length ≤ a ∧
      h'.get (pa h.next) = .ofL [.int .i64 0, .int .i64 0] 0 false ∧ Ext h h' ∧ h1.next + 1 ≤ h'.next ∧ SlO (h1.next + 1) h' 4 v ws.length (wdsV ws) ∧ lexM s = prep ws (lexR (s.drop a) a))
    (fun r h' => s.length - ((ld1B (h'.get (pa h1.next)) 1).getD .bad).toN) ?_ ?_
  · refine ⟨by simp only [↓wA, wB, wZ, repeatV, RX.evs, spl, over, ones, Ex.ends, evR, oneOf, top, ↓reduceIte, Nat.reduceEqDiff, Nat.reduceLeDiff, Nat.reduceAdd, Nat.reduceSub, Nat.reduceMul, reduceCtorEq, Int.reduceEq, Int.reduceLT, Int.reduceLE, Int.reduceNeg, Int.reduceAdd, Int.reduceSub], by simp only [↓wA, wB, wZ, repeatV, RX.evs, spl, over, ones, Ex.ends, evR, oneOf, top, ↓reduceIte, Nat.reduceEqDiff, Nat.reduceLeDiff, Nat.reduceAdd, Nat.reduceSub, Nat.reduceMul, reduceCtorEq, Int.reduceEq, Int.reduceLT, Int.reduceLE, Int.reduceNeg, Int.reduceAdd, Int.reduceSub], by simp only [↓wA, wB, wZ, repeatV, RX.evs, spl, over, ones, Ex.ends, evR, oneOf, top, ↓reduceIte, Nat.reduceEqDiff, Nat.reduceLeDiff, Nat.reduceAdd, Nat.reduceSub, Nat.reduceMul, reduceCtorEq, Int.reduceEq, Int.reduceLT, Int.reduceLE, Int.reduceNeg, Int.reduceAdd, Int.reduceSub], 0, [], .nilslice, by simp only [↓wA, wB, wZ, repeatV, RX.evs, spl, over, ones, Ex.ends, evR, oneOf, top, ↓reduceIte, Nat.reduceEqDiff, Nat.reduceLeDiff, Nat.reduceAdd, Nat.reduceSub, Nat.reduceMul, reduceCtorEq, Int.reduceEq, Int.reduceLT, Int.reduceLE, Int.reduceNeg, Int.reduceAdd, Int.reduceSub], by simp only [↓wA, wB, wZ, repeatV, RX.evs, spl, over, ones, Ex.ends, evR, oneOf, top, ↓reduceIte, Nat.reduceEqDiff, Nat.reduceLeDiff, Nat.reduceAdd, Nat.reduceSub, Nat.reduceMul, reduceCtorEq, Int.reduceEq, Int.reduceLT, Int.reduceLE, Int.reduceNeg, Int.reduceAdd, Int.reduceSub]; rfl, by omega, by simp, by simp only [g1, n0, n0', n1, n1', ↓wA, wB, wZ, repeatV, RX.evs, spl, over, ones, Ex.ends, evR, oneOf, top, ↓reduceIte, Nat.reduceEqDiff, Nat.reduceLeDiff, Nat.reduceAdd, Nat.reduceSub, Nat.reduceMul, reduceCtorEq, Int.reduceEq, Int.reduceLT, Int.reduceLE, Int.reduceNeg, Int.reduceAdd, Int.reduceSub], hx3, ?_, ⟨rfl, rfl⟩, ?_⟩
    · rw [next_new]; exact Nat.le_refl _
    · rw [hlm, List.drop_zero, prep_nil]
  · rintro r h' ⟨r0, r3, r5, a, ws, v, r6, hg, k1, kw, hz, hxx, hnx, hS, hok⟩
    unfold c10l1
    have hob : Old h' (pa h1.next) := old_lt (by omega)
    by_cases hend : (s.length : Int) ≤ (a : Int)
    · have ha : a = s.length := by omega
      have hok' : lexM s = .ok ws := by
        rw [hok, ha, List.drop_length]
        show Except.ok (ws ++ []) = _
        rw [List.append_nil]
      simp +contextual only [r0, r3, r5, r6, hg, hz, hend, n0, n1, n0', n1', ↓wA, wB, wZ, repeatV, RX.evs, spl, over, ones, Ex.ends, evR, oneOf, top, ↓reduceIte, Nat.reduceEqDiff, Nat.reduceLeDiff, Nat.reduceAdd, Nat.reduceSub, Nat.reduceMul, reduceCtorEq, Int.reduceEq, Int.reduceLT, Int.reduceLE, Int.reduceNeg, Int.reduceAdd, Int.reduceSub]
      refine ⟨hxx.set (Nat.le_refl _) _, ?_⟩
      rw [hok']
      refine ⟨v, rfl, ?_⟩
      have := hS.mod ((Mod.refl (fun q => q = pa h.next) h').self (.ofL [.int .i64 0, .int .i64 0] 0 false)) (fun q hq e => by
        have h2 := hS.base hq
        rw [show q = pa h.next from e, unPa_pa] at h2
        omega)
      exact this.mono (by omega)
    · have hlt : a < s.length := by omega
      rw [drop_cons hlt, lexR_cons, ← drop_cons hlt] at hok
      have f0 : (0 ≤ (a : Int)) = True := eq_true (by omega)
      have f1 : ((a : Int) < (s.length : Int)) = True := eq_true (by omega)
      have w1 : IntKind.i64.wrap ((a : Int) + 1) = ((a + 1 : Nat) : Int) := by rw [wrap_i64 (by omega) (by omega)]; rfl
      simp +contextual only [r0, r3, r5, r6, hg, hz, hend, n0, n1, n0', n1', f0, f1, List.getElem?_eq_getElem hlt, Int.toNat_natCast, ↓wA, wB, wZ, repeatV, RX.evs, spl, over, ones, Ex.ends, evR, oneOf, top, ↓reduceIte, Nat.reduceEqDiff, Nat.reduceLeDiff, Nat.reduceAdd, Nat.reduceSub, Nat.reduceMul, reduceCtorEq, Int.reduceEq, Int.reduceLT, Int.reduceLE, Int.reduceNeg, Int.reduceAdd, Int.reduceSub]
      refine callK_pure (index23 _ _ _) ?_
      rw [u8_back]
      by_cases hbl : blank s[a] = true
      · have hbl' : (0 ≤ Lib.indexByte [9, 10, 13, 32] s[a]) = True := by rw [blank_ix, hbl]; exact eq_self _
        rw [if_pos hbl] at hok
        simp +contextual only [hbl', w1, r0, r3, r5, r6, hg, hz, hend, n0, n1, n0', n1', f0, f1, List.getElem?_eq_getElem hlt, Int.toNat_natCast, ↓wA, wB, wZ, repeatV, RX.evs, spl, over, ones, Ex.ends, evR, oneOf, top, ↓reduceIte, Nat.reduceEqDiff, Nat.reduceLeDiff, Nat.reduceAdd, Nat.reduceSub, Nat.reduceMul, reduceCtorEq, Int.reduceEq, Int.reduceLT, Int.reduceLE, Int.reduceNeg, Int.reduceAdd, Int.reduceSub]
        refine ⟨⟨a + 1, ws, rfl, by omega, by omega, hxx.set (by omega) _, hnx, ?_, hok⟩, by omega⟩
        exact hS.mod ((Mod.refl (fun q => q = pa h1.next) h').self _) (fun q hq e => by
          have h2 := hS.base hq
          rw [show q = pa h1.next from e, unPa_pa] at h2
          omega)
      · have hbl' : (0 ≤ Lib.indexByte [9, 10, 13, 32] s[a]) = False := by rw [blank_ix]; exact eq_false hbl
        rw [if_neg hbl] at hok
        simp +contextual only [hbl', w1, r0, r3, r5, r6, hg, hz, hend, n0, n1, n0', n1', f0, f1, List.getElem?_eq_getElem hlt, Int.toNat_natCast, ↓wA, wB, wZ, repeatV, RX.evs, spl, over, ones, Ex.ends, evR, oneOf, top, ↓reduceIte, Nat.reduceEqDiff, Nat.reduceLeDiff, Nat.reduceAdd, Nat.reduceSub, Nat.reduceMul, reduceCtorEq, Int.reduceEq, Int.reduceLT, Int.reduceLE, Int.reduceNeg, Int.reduceAdd, Int.reduceSub]
        have hpure := has_pure s [40, 42] (a : Int) [.int .i64 0] (pa h1.next) 0 false h' hg (by omega) (by omega)
        rw [Int.toNat_natCast] at hpure
        refine callK_pure hpure ?_
        cases hpre : ([40, 42] : List UInt8).isPrefixOf (s.drop a) with
        | true =>
          rw [hpre, if_pos rfl] at hok
          simp +contextual only [w1, r0, r3, r5, r6, hg, hz, hend, n0, n1, n0', n1', f0, f1, List.getElem?_eq_getElem hlt, Int.toNat_natCast, ↓wA, wB, wZ, repeatV, RX.evs, spl, over, ones, Ex.ends, evR, oneOf, top, ↓reduceIte, Nat.reduceEqDiff, Nat.reduceLeDiff, Nat.reduceAdd, Nat.reduceSub, Nat.reduceMul, reduceCtorEq, Int.reduceEq, Int.reduceLT, Int.reduceLE, Int.reduceNeg, Int.reduceAdd, Int.reduceSub]
          refine callK_intro (note_ctr s a 0 (pa h1.next) h' hg k1 (by omega) hob) ?_
          rintro x h2 ⟨rfl, hm, hn⟩
          have hz2 : h2.get (pa h.next) = .ofL [.int .i64 0, .int .i64 0] 0 false := by rw [hm.get _ (old_lt (by omega)) (by rw [n1]; exact id), hz]
          have hx4 : Ext h h2 := hxx.mod_new hm (fun b hb => by rw [show b = pa h1.next from hb, unPa_pa]; omega)
          have nx2 := hm.next
          have hS2 := hS.mod hm (fun q hq e => by
            have h2 := hS.base hq
            rw [show q = pa h1.next from e, unPa_pa] at h2
            omega)
          cases hnote : noteM (s.drop a) 0 with
          | some n =>
            rw [hnote] at hn hok
            obtain ⟨g2, hle⟩ := hn
            have hpos := noteM_pos hnote
            unfold scB at g2
            simp +contextual only [w1, r0, r3, r5, r6, g2, hg, hz2, hend, n0, n1, n0', n1', f0, f1, List.getElem?_eq_getElem hlt, Int.toNat_natCast, ↓wA, wB, wZ, repeatV, RX.evs, spl, over, ones, Ex.ends, evR, oneOf, top, ↓reduceIte, Nat.reduceEqDiff, Nat.reduceLeDiff, Nat.reduceAdd, Nat.reduceSub, Nat.reduceMul, reduceCtorEq, Int.reduceEq, Int.reduceLT, Int.reduceLE, Int.reduceNeg, Int.reduceAdd, Int.reduceSub]
            refine ⟨⟨a + n, ws, rfl, hle, by omega, hx4, by omega, hS2, ?_⟩, by omega⟩
            rw [hok]
            simp only [List.drop_drop]
          | none =>
            rw [hnote] at hn hok
            unfold scB at hn
            simp +contextual only [w1, r0, r3, r5, r6, hn, hg, hz2, hend, n0, n1, n0', n1', f0, f1, List.getElem?_eq_getElem hlt, Int.toNat_natCast, ↓wA, wB, wZ, repeatV, RX.evs, spl, over, ones, Ex.ends, evR, oneOf, top, ↓reduceIte, Nat.reduceEqDiff, Nat.reduceLeDiff, Nat.reduceAdd, Nat.reduceSub, Nat.reduceMul, reduceCtorEq, Int.reduceEq, Int.reduceLT, Int.reduceLE, Int.reduceNeg, Int.reduceAdd, Int.reduceSub]
            refine ⟨hx4.set (Nat.le_refl _) _, ?_⟩
            rw [hok]
            rfl
        | false =>
          rw [hpre, if_neg Bool.false_ne_true] at hok
          simp +contextual only [w1, r0, r3, r5, r6, hg, hz, hend, n0, n1, n0', n1', f0, f1, List.getElem?_eq_getElem hlt, Int.toNat_natCast, ↓wA, wB, wZ, repeatV, RX.evs, spl, over, ones, Ex.ends, evR, oneOf, top, ↓reduceIte, Nat.reduceEqDiff, Nat.reduceLeDiff, Nat.reduceAdd, Nat.reduceSub, Nat.reduceMul, reduceCtorEq, Int.reduceEq, Int.reduceLT, Int.reduceLE, Int.reduceNeg, Int.reduceAdd, Int.reduceSub]
          refine callK_intro (next_ctr s a (pa h1.next) h' hg hlt (by omega) hob) ?_
          rintro x h2 w
          obtain ⟨hm, k, n, t, rfl, hres⟩ := w
          have hz2 : h2.get (pa h.next) = .ofL [.int .i64 0, .int .i64 0] 0 false := by rw [hm.get _ (old_lt (by omega)) (by rw [n1]; exact id), hz]
          have hx4 : Ext h h2 := hxx.mod_new hm (fun b hb => by rw [show b = pa h1.next from hb, unPa_pa]; omega)
          have nx2 := hm.next
          have hS2 := hS.mod hm (fun q hq e => by
            have h2 := hS.base hq
            rw [show q = pa h1.next from e, unPa_pa] at h2
            omega)
          have m0 : (pa h2.next = pa h.next) = False := by rw [pa_eq]; exact eq_false (by omega)
          have m1 : (pa h2.next = pa h1.next) = False := by rw [pa_eq]; exact eq_false (by omega)
          have m0' : (h2.next = h.next) = False := eq_false (by omega)
          have m1' : (h2.next = h1.next) = False := eq_false (by omega)
          have hxn : Ext h2 (((h2.new (.ofL [.int .i64 0, .int .i64 0, .int .i64 0, .str []] 0 false)).set (pa h2.next) (.ofL [.int .i64 k, .int .i64 n, .int .i64 0, .str t] 0 false)).set (pa h2.next) (.ofL [.int .i64 k, .int .i64 n, .int .i64 a, .str t] 0 false)) := (((Ext.refl h2).new _).set (Nat.le_refl _) _).set (Nat.le_refl _) _
          obtain ⟨v3, h3, q1, q2, q3, q4, q5⟩ := app_one (cs := [.int .i64 k, .int .i64 n, .int .i64 a, .str t]) (by omega) (hS2.ext hxn) (by simp only [next_set, next_new]; omega) (by unfold top; omega) rfl rfl
          simp only [next_set, next_new] at q1 q4
          have hx5 : Ext h h3 := (hx4.trans hxn).mod_new q3 (fun b hb => Nat.le_trans (by omega) (hS2.base hb))
          have hz3 : h3.get (pa h.next) = .ofL [.int .i64 0, .int .i64 0] 0 false := by
            rw [q3.get _ (old_lt (by simp only [next_set, next_new]; omega)) (fun hq => by have := hS2.base hq; rw [unPa_pa] at this; omega), hxn.get _ (old_lt (by omega)), hz2]
          have hg3 : h3.get (pa h1.next) = h2.get (pa h1.next) := by
            rw [q3.get _ (old_lt (by simp only [next_set, next_new]; omega)) (fun hq => by have := hS2.base hq; rw [unPa_pa] at this; omega), hxn.get _ (old_lt (by omega))]
          cases hnx : nextM (s.drop a) with
          | ok q =>
            have hpos := nextM_pos hnx
            rw [hnx] at hres hok
            obtain ⟨rfl, rfl, rfl, g2, hle⟩ := hres
            unfold scB at g2
            rw [g2] at hg3
            simp +contextual only [q1, m0, m1, m0', m1', w1, r0, r3, r5, r6, g2, hg3, hg, hz2, hend, n0, n1, n0', n1', f0, f1, List.getElem?_eq_getElem hlt, Int.toNat_natCast, ↓wA, wB, wZ, repeatV, RX.evs, spl, over, ones, Ex.ends, evR, oneOf, top, ↓reduceIte, Nat.reduceEqDiff, Nat.reduceLeDiff, Nat.reduceAdd, Nat.reduceSub, Nat.reduceMul, reduceCtorEq, Int.reduceEq, Int.reduceLT, Int.reduceLE, Int.reduceNeg, Int.reduceAdd, Int.reduceSub]
            refine ⟨⟨a + q.2.2.2, ws ++ [⟨q.1, q.2.1, a, q.2.2.1⟩], rfl, hle, by simp; omega, hz3, hx5, by omega, ?_, ?_⟩, by omega⟩
            · rw [List.length_append, wdsV_append]
              exact q2
            · rw [hok, prep_cons]
              simp only [List.drop_drop]
          | error e =>
            rw [hnx] at hres hok
            obtain ⟨he, a', g2⟩ := hres
            unfold scB at g2
            rw [g2] at hg3
            simp +contextual only [he, q1, m0, m1, m0', m1', w1, r0, r3, r5, r6, g2, hg3, hz3, hg, hz2, hend, n0, n1, n0', n1', f0, f1, List.getElem?_eq_getElem hlt, Int.toNat_natCast, ↓wA, wB, wZ, repeatV, RX.evs, spl, over, ones, Ex.ends, evR, oneOf, top, ↓reduceIte, Nat.reduceEqDiff, Nat.reduceLeDiff, Nat.reduceAdd, Nat.reduceSub, Nat.reduceMul, reduceCtorEq, Int.reduceEq, Int.reduceLT, Int.reduceLE, Int.reduceNeg, Int.reduceAdd, Int.reduceSub]
            refine ⟨hx5.set (Nat.le_refl _) _, ?_⟩
            rw [hok]
            rfl
end Go.Proofs.YthcgccnbhdociaaDoor

namespace Go.Proofs.YthcgccnbhdociaaDoor
open Go Am
set_option linter.unusedSectionVars false
set_option linter.unusedSimpArgs false
set_option linter.unusedVariables false

def longM (c : Int) : Int × Int := if c < 128 then (1, 0) else if withinB c 192 223 then (2, 128) else if withinB c 224 239 then (3, 2048) else if withinB c 240 247 then (4, 65536) else (0, 0)
theorem long_pure (c : Int) (h : Heap) : CallsV Tryd.prog 61 [.int .u8 c] h (.tuple [.int .i64 (longM c).1, .int .i64 (longM c).2]) h := by
  refine pure_calls (c61_ctr rfl (wpK_of ?_))
  unfold c61
  unfold longM
  by_cases h1 : c < 128
  · simp +contextual only [h1, ↓wA, wB, wZ, repeatV, RX.evs, spl, over, ones, Ex.ends, evR, oneOf, top, ↓reduceIte, Nat.reduceEqDiff, Nat.reduceLeDiff, Nat.reduceAdd, Nat.reduceSub, Nat.reduceMul, reduceCtorEq, Int.reduceEq, Int.reduceLT, Int.reduceLE, Int.reduceNeg, Int.reduceAdd, Int.reduceSub]
  simp +contextual only [h1, ↓wA, wB, wZ, repeatV, RX.evs, spl, over, ones, Ex.ends, evR, oneOf, top, ↓reduceIte, Nat.reduceEqDiff, Nat.reduceLeDiff, Nat.reduceAdd, Nat.reduceSub, Nat.reduceMul, reduceCtorEq, Int.reduceEq, Int.reduceLT, Int.reduceLE, Int.reduceNeg, Int.reduceAdd, Int.reduceSub]
  refine callK_pure (within_pure _ _ _ _) ?_
  cases h2 : withinB c 192 223 with
  | true => simp +contextual only [↓wA, wB, wZ, repeatV, RX.evs, spl, over, ones, Ex.ends, evR, oneOf, top, ↓reduceIte, Nat.reduceEqDiff, Nat.reduceLeDiff, Nat.reduceAdd, Nat.reduceSub, Nat.reduceMul, reduceCtorEq, Int.reduceEq, Int.reduceLT, Int.reduceLE, Int.reduceNeg, Int.reduceAdd, Int.reduceSub]
  | false =>
    simp +contextual only [Bool.false_eq_true, ↓wA, wB, wZ, repeatV, RX.evs, spl, over, ones, Ex.ends, evR, oneOf, top, ↓reduceIte, Nat.reduceEqDiff, Nat.reduceLeDiff, Nat.reduceAdd, Nat.reduceSub, Nat.reduceMul, reduceCtorEq, Int.reduceEq, Int.reduceLT, Int.reduceLE, Int.reduceNeg, Int.reduceAdd, Int.reduceSub]
    refine callK_pure (within_pure _ _ _ _) ?_
    cases h3 : withinB c 224 239 with
    | true => simp +contextual only [↓wA, wB, wZ, repeatV, RX.evs, spl, over, ones, Ex.ends, evR, oneOf, top, ↓reduceIte, Nat.reduceEqDiff, Nat.reduceLeDiff, Nat.reduceAdd, Nat.reduceSub, Nat.reduceMul, reduceCtorEq, Int.reduceEq, Int.reduceLT, Int.reduceLE, Int.reduceNeg, Int.reduceAdd, Int.reduceSub]
    | false =>
      simp +contextual only [Bool.false_eq_true, ↓wA, wB, wZ, repeatV, RX.evs, spl, over, ones, Ex.ends, evR, oneOf, top, ↓reduceIte, Nat.reduceEqDiff, Nat.reduceLeDiff, Nat.reduceAdd, Nat.reduceSub, Nat.reduceMul, reduceCtorEq, Int.reduceEq, Int.reduceLT, Int.reduceLE, Int.reduceNeg, Int.reduceAdd, Int.reduceSub]
      refine callK_pure (within_pure _ _ _ _) ?_
      cases h4 : withinB c 240 247 with
      | true => simp +contextual only [↓wA, wB, wZ, repeatV, RX.evs, spl, over, ones, Ex.ends, evR, oneOf, top, ↓reduceIte, Nat.reduceEqDiff, Nat.reduceLeDiff, Nat.reduceAdd, Nat.reduceSub, Nat.reduceMul, reduceCtorEq, Int.reduceEq, Int.reduceLT, Int.reduceLE, Int.reduceNeg, Int.reduceAdd, Int.reduceSub]
      | false => simp +contextual only [Bool.false_eq_true, ↓wA, wB, wZ, repeatV, RX.evs, spl, over, ones, Ex.ends, evR, oneOf, top, ↓reduceIte, Nat.reduceEqDiff, Nat.reduceLeDiff, Nat.reduceAdd, Nat.reduceSub, Nat.reduceMul, reduceCtorEq, Int.reduceEq, Int.reduceLT, Int.reduceLE, Int.reduceNeg, Int.reduceAdd, Int.reduceSub]

def contF (s : List UInt8) (a : Nat) : Nat → Nat → Int → Option Int
  | 0, _, x => some x
  | k + 1, i, x => if withinB ((s[a + i]?.getD 0).toNat : Int) 128 191 then contF s a k (i + 1) (64 * x + ((s[a + i]?.getD 0).toNat : Int) - 128) else none
def charEnd (n least : Int) : Option Int → Int
  | none => 0
  | some x => if x < least ∨ 1114111 < x ∨ (55296 ≤ x ∧ x ≤ 57343) then 0 else n
def charI (s : List UInt8) (a : Nat) : Int :=
  let c := ((s[a]?.getD 0).toNat : Int)
  let n := (longM c).1
  if n = 0 ∨ (s.length : Int) < a + n then 0 else if n = 1 then 1 else charEnd n (longM c).2 (contF s a (n - 1).toNat 1 (c.tmod (2 ^ (7 - n).toNat)))

def cwN (d : Nat × Nat) : Nat := if d = (65533, 1) then 0 else d.2
theorem cwN_bad : cwN (65533, 1) = 0 := rfl
theorem cwN_2 (x : Nat) : cwN (x, 2) = 2 := by unfold cwN; rw [if_neg (by simp)]
theorem cwN_3 (x : Nat) : cwN (x, 3) = 3 := by unfold cwN; rw [if_neg (by simp)]
theorem cwN_4 (x : Nat) : cwN (x, 4) = 4 := by unfold cwN; rw [if_neg (by simp)]
theorem cwN_1 (x : Nat) (h : x < 128) : cwN (x, 1) = 1 := by unfold cwN; rw [if_neg (by simp; omega)]

theorem charI_cw (s : List UInt8) (a : Nat) (ha : a < s.length) : charI s a = cw s a := by
  have hb : ∀ i : Nat, ((s[i]?).getD 0).toNat < 256 := fun i => UInt8.toNat_lt _
  have hcw : cw s a = cwN (decodeL s a) := rfl
  rw [hcw]
  unfold decodeL
  rw [Lib.decode_at]
  have hz2 : (ByteArray.mk ⟨s⟩).size = s.length := rfl
  simp only [hz2, get_ba]
  have b0 := hb a
  have b1 := hb (a + 1)
  have b2 := hb (a + 2)
  have b3 := hb (a + 3)
  have e2 : a + (1 + 1) = a + 2 := rfl
  have e3 : a + (1 + 1 + 1) = a + 3 := rfl
  have n1 : ((2 : Int) - 1).toNat = 1 := rfl
  have n2 : ((3 : Int) - 1).toNat = 2 := rfl
  have n3 : ((4 : Int) - 1).toNat = 3 := rfl
  have m2 : ((7 : Int) - 2).toNat = 5 := rfl
  have m3 : ((7 : Int) - 3).toNat = 4 := rfl
  have m4 : ((7 : Int) - 4).toNat = 3 := rfl
  generalize hL : s.length = L at ha ⊢
  have case : ∀ x0 x1 x2 x3 : Nat, (s[a]?.getD 0).toNat = x0 → (s[a + 1]?.getD 0).toNat = x1 → (s[a + 2]?.getD 0).toNat = x2 → (s[a + 3]?.getD 0).toNat = x3 → charI s a = cwN (Lib.decodeN (L - a) x0 x1 x2 x3) := by
    intro x0 x1 x2 x3 h0 h1 h2 h3
    rw [h0] at b0
    rw [h1] at b1
    rw [h2] at b2
    rw [h3] at b3
    unfold charI longM
    simp only [h0, hL]
    by_cases c1 : x0 < 128
    · have c1' : (x0 : Int) < 128 := by omega
      simp only [c1', if_true]
      unfold Lib.decodeN
      rw [if_neg (by omega), if_pos c1, cwN_1 _ c1]
      rfl
    have c1' : ¬ (x0 : Int) < 128 := by omega
    simp only [c1', if_false]
    by_cases c2 : withinB (x0 : Int) 192 223 = true
    · simp only [c2, if_true, n1, m2, contF, h1]
      simp only [withinB, Bool.and_eq_true, decide_eq_true_eq] at c2 ⊢
      have em : (x0 : Int).tmod (2 ^ 5) = ((x0 % 32 : Nat) : Int) := Int.ofNat_tmod _ _ |>.symm
      rw [em]
      unfold Lib.decodeN
      rw [if_neg c1]
      by_cases g1 : (L : Int) < a + 2
      · rw [if_pos (Or.inr g1), if_neg (by omega), if_neg (by omega), if_neg (by omega)]
        rfl
      · rw [if_neg (by omega), if_neg (by omega)]
        by_cases g2 : (128 : Int) ≤ x1 ∧ (x1 : Int) ≤ 191
        · rw [if_pos g2, if_pos (by omega)]
          simp only [charEnd]
          by_cases g3 : x0 % 32 * 64 + x1 % 64 ≥ 128
          · rw [if_pos g3, if_neg (by omega), cwN_2]
            rfl
          · rw [if_neg g3, if_pos (by omega)]
            rfl
        · rw [if_neg g2, if_neg (by omega), if_neg (by omega), if_neg (by omega)]
          rfl
    simp only [c2, Bool.false_eq_true, if_false]
    by_cases c3 : withinB (x0 : Int) 224 239 = true
    · simp only [c3, if_true, n2, m3, contF, h1, e2, h2]
      simp only [withinB, Bool.and_eq_true, decide_eq_true_eq] at c2 c3 ⊢
      have em : (x0 : Int).tmod (2 ^ 4) = ((x0 % 16 : Nat) : Int) := Int.ofNat_tmod _ _ |>.symm
      rw [em]
      have hd : Lib.decodeN (L - a) x0 x1 x2 x3 = if (1 < L - a ∧ x1 / 64 = 2) ∧ 2 < L - a ∧ x2 / 64 = 2 then (if x0 % 16 * 4096 + x1 % 64 * 64 + x2 % 64 ≥ 2048 ∧ (x0 % 16 * 4096 + x1 % 64 * 64 + x2 % 64 < 55296 ∨ (57344 ≤ x0 % 16 * 4096 + x1 % 64 * 64 + x2 % 64 ∧ x0 % 16 * 4096 + x1 % 64 * 64 + x2 % 64 ≤ 1114111)) then (x0 % 16 * 4096 + x1 % 64 * 64 + x2 % 64, 3) else (65533, 1)) else (65533, 1) := by
        unfold Lib.decodeN
        rw [if_neg c1, if_neg (by omega)]
        by_cases hA : (1 < L - a ∧ x1 / 64 = 2) ∧ 2 < L - a ∧ x2 / 64 = 2
        · rw [if_pos ⟨by omega, hA⟩, if_pos hA]
        · rw [if_neg (fun q => hA q.2), if_neg (by omega), if_neg hA]
      rw [hd]
      by_cases g1 : (L : Int) < a + 3
      · rw [if_pos (Or.inr g1), if_neg (by omega)]
        rfl
      · rw [if_neg (show ¬ ((3 : Int) = 0 ∨ (L : Int) < a + 3) from by omega), if_neg (show ¬ (3 : Int) = 1 from by omega)]
        by_cases g2 : (128 : Int) ≤ x1 ∧ (x1 : Int) ≤ 191
        · rw [if_pos g2]
          by_cases g4 : (128 : Int) ≤ x2 ∧ (x2 : Int) ≤ 191
          · rw [if_pos g4, if_pos (show (1 < L - a ∧ x1 / 64 = 2) ∧ 2 < L - a ∧ x2 / 64 = 2 from by omega)]
            simp only [charEnd]
            by_cases g3 : x0 % 16 * 4096 + x1 % 64 * 64 + x2 % 64 ≥ 2048 ∧ (x0 % 16 * 4096 + x1 % 64 * 64 + x2 % 64 < 55296 ∨ (57344 ≤ x0 % 16 * 4096 + x1 % 64 * 64 + x2 % 64 ∧ x0 % 16 * 4096 + x1 % 64 * 64 + x2 % 64 ≤ 1114111))
            · rw [if_pos g3, if_neg (by omega), cwN_3]
              rfl
            · rw [if_neg g3, if_pos (by omega)]
              rfl
          · rw [if_neg g4, if_neg (show ¬ ((1 < L - a ∧ x1 / 64 = 2) ∧ 2 < L - a ∧ x2 / 64 = 2) from by omega)]
            rfl
        · rw [if_neg g2, if_neg (show ¬ ((1 < L - a ∧ x1 / 64 = 2) ∧ 2 < L - a ∧ x2 / 64 = 2) from by omega)]
          rfl
    simp only [c3, Bool.false_eq_true, if_false]
    by_cases c4 : withinB (x0 : Int) 240 247 = true
    · simp only [c4, if_true, n3, m4, contF, h1, e2, h2, e3, h3]
      simp only [withinB, Bool.and_eq_true, decide_eq_true_eq] at c2 c3 c4 ⊢
      have em : (x0 : Int).tmod (2 ^ 3) = ((x0 % 8 : Nat) : Int) := Int.ofNat_tmod _ _ |>.symm
      rw [em]
      have hd : Lib.decodeN (L - a) x0 x1 x2 x3 = if (1 < L - a ∧ x1 / 64 = 2) ∧ (2 < L - a ∧ x2 / 64 = 2) ∧ 3 < L - a ∧ x3 / 64 = 2 then (if x0 % 8 * 262144 + x1 % 64 * 4096 + x2 % 64 * 64 + x3 % 64 ≥ 65536 ∧ (x0 % 8 * 262144 + x1 % 64 * 4096 + x2 % 64 * 64 + x3 % 64 < 55296 ∨ (57344 ≤ x0 % 8 * 262144 + x1 % 64 * 4096 + x2 % 64 * 64 + x3 % 64 ∧ x0 % 8 * 262144 + x1 % 64 * 4096 + x2 % 64 * 64 + x3 % 64 ≤ 1114111)) then (x0 % 8 * 262144 + x1 % 64 * 4096 + x2 % 64 * 64 + x3 % 64, 4) else (65533, 1)) else (65533, 1) := by
        unfold Lib.decodeN
        rw [if_neg c1, if_neg (by omega), if_neg (by omega)]
        by_cases hA : (1 < L - a ∧ x1 / 64 = 2) ∧ (2 < L - a ∧ x2 / 64 = 2) ∧ 3 < L - a ∧ x3 / 64 = 2
        · rw [if_pos ⟨by omega, hA⟩, if_pos hA]
        · rw [if_neg (fun q => hA q.2), if_neg hA]
      rw [hd]
      by_cases g1 : (L : Int) < a + 4
      · rw [if_pos (Or.inr g1), if_neg (by omega)]
        rfl
      · rw [if_neg (show ¬ ((4 : Int) = 0 ∨ (L : Int) < a + 4) from by omega), if_neg (show ¬ (4 : Int) = 1 from by omega)]
        by_cases g2 : (128 : Int) ≤ x1 ∧ (x1 : Int) ≤ 191
        · rw [if_pos g2]
          by_cases g4 : (128 : Int) ≤ x2 ∧ (x2 : Int) ≤ 191
          · rw [if_pos g4]
            by_cases g5 : (128 : Int) ≤ x3 ∧ (x3 : Int) ≤ 191
            · rw [if_pos g5, if_pos (show (1 < L - a ∧ x1 / 64 = 2) ∧ (2 < L - a ∧ x2 / 64 = 2) ∧ 3 < L - a ∧ x3 / 64 = 2 from by omega)]
              simp only [charEnd]
              by_cases g3 : x0 % 8 * 262144 + x1 % 64 * 4096 + x2 % 64 * 64 + x3 % 64 ≥ 65536 ∧ (x0 % 8 * 262144 + x1 % 64 * 4096 + x2 % 64 * 64 + x3 % 64 < 55296 ∨ (57344 ≤ x0 % 8 * 262144 + x1 % 64 * 4096 + x2 % 64 * 64 + x3 % 64 ∧ x0 % 8 * 262144 + x1 % 64 * 4096 + x2 % 64 * 64 + x3 % 64 ≤ 1114111))
              · rw [if_pos g3, if_neg (by omega), cwN_4]
                rfl
              · rw [if_neg g3, if_pos (by omega)]
                rfl
            · rw [if_neg g5, if_neg (show ¬ ((1 < L - a ∧ x1 / 64 = 2) ∧ (2 < L - a ∧ x2 / 64 = 2) ∧ 3 < L - a ∧ x3 / 64 = 2) from by omega)]
              rfl
          · rw [if_neg g4, if_neg (show ¬ ((1 < L - a ∧ x1 / 64 = 2) ∧ (2 < L - a ∧ x2 / 64 = 2) ∧ 3 < L - a ∧ x3 / 64 = 2) from by omega)]
            rfl
        · rw [if_neg g2, if_neg (show ¬ ((1 < L - a ∧ x1 / 64 = 2) ∧ (2 < L - a ∧ x2 / 64 = 2) ∧ 3 < L - a ∧ x3 / 64 = 2) from by omega)]
          rfl
    simp only [c4, Bool.false_eq_true, if_false]
    simp only [withinB, Bool.and_eq_true, decide_eq_true_eq] at c2 c3 c4
    rw [if_pos (Or.inl trivial)]
    unfold Lib.decodeN
    rw [if_neg c1, if_neg (by omega), if_neg (by omega), if_neg (by omega)]
    rfl
  exact case _ _ _ _ rfl rfl rfl rfl

theorem char_ctr (s : List UInt8) (a : Nat) (ha : a < s.length) (hs : s.length ≤ 100000) (h : Heap) : CallsV Tryd.prog 35 [.str s, .int .i64 a] h (.int .i64 (cw s a)) h := by
  rw [← charI_cw s a ha]
  refine pure_calls (c35_ctr rfl (wpK_of ?_))
  unfold c35
  have f0 : (0 ≤ (a : Int)) = True := eq_true (by omega)
  have f1 : ((a : Int) < (s.length : Int)) = True := eq_true (by omega)
  simp +contextual only [f0, f1, Int.toNat_natCast, ↓wA, wB, wZ, repeatV, RX.evs, spl, over, ones, Ex.ends, evR, oneOf, top, ↓reduceIte, Nat.reduceEqDiff, Nat.reduceLeDiff, Nat.reduceAdd, Nat.reduceSub, Nat.reduceMul, reduceCtorEq, Int.reduceEq, Int.reduceLT, Int.reduceLE, Int.reduceNeg, Int.reduceAdd, Int.reduceSub]
  refine callK_pure (long_pure _ _) ?_
  have hn : (longM ((s[a]?.getD 0).toNat : Int)).1 = 0 ∨ (longM ((s[a]?.getD 0).toNat : Int)).1 = 1 ∨ (longM ((s[a]?.getD 0).toNat : Int)).1 = 2 ∨ (longM ((s[a]?.getD 0).toNat : Int)).1 = 3 ∨ (longM ((s[a]?.getD 0).toNat : Int)).1 = 4 := by
    unfold longM
    repeat' split
    all_goals simp
  have hle : 0 ≤ (longM ((s[a]?.getD 0).toNat : Int)).2 := by
    unfold longM
    repeat' split
    all_goals simp
  have hchar : charI s a = if (longM ((s[a]?.getD 0).toNat : Int)).1 = 0 ∨ (s.length : Int) < a + (longM ((s[a]?.getD 0).toNat : Int)).1 then 0 else if (longM ((s[a]?.getD 0).toNat : Int)).1 = 1 then 1 else charEnd (longM ((s[a]?.getD 0).toNat : Int)).1 (longM ((s[a]?.getD 0).toNat : Int)).2 (contF s a ((longM ((s[a]?.getD 0).toNat : Int)).1 - 1).toNat 1 (((s[a]?.getD 0).toNat : Int).tmod (2 ^ (7 - (longM ((s[a]?.getD 0).toNat : Int)).1).toNat))) := rfl
  rw [hchar]
  have hc256 : (s[a]?.getD 0).toNat < 256 := UInt8.toNat_lt _
  generalize (longM ((s[a]?.getD 0).toNat : Int)).2 = least at *
  generalize hN : (longM ((s[a]?.getD 0).toNat : Int)).1 = n at *
  generalize hcc : (s[a]?.getD 0).toNat = c at *
  have wn : IntKind.i64.wrap ((a : Int) + n) = (a : Int) + n := wrap_i64 (by omega) (by omega)
  have w8 : IntKind.i64.wrap (c : Int) = (c : Int) := wrap_i64 (by omega) (by omega)
  by_cases h0 : n = 0
  · rw [if_pos (Or.inl h0)]
    simp +contextual only [wn, h0, ↓wA, wB, wZ, repeatV, RX.evs, spl, over, ones, Ex.ends, evR, oneOf, top, ↓reduceIte, Nat.reduceEqDiff, Nat.reduceLeDiff, Nat.reduceAdd, Nat.reduceSub, Nat.reduceMul, reduceCtorEq, Int.reduceEq, Int.reduceLT, Int.reduceLE, Int.reduceNeg, Int.reduceAdd, Int.reduceSub]
  by_cases hlong : (s.length : Int) < (a : Int) + n
  · rw [if_pos (Or.inr hlong)]
    simp +contextual only [wn, h0, hlong, ↓wA, wB, wZ, repeatV, RX.evs, spl, over, ones, Ex.ends, evR, oneOf, top, ↓reduceIte, Nat.reduceEqDiff, Nat.reduceLeDiff, Nat.reduceAdd, Nat.reduceSub, Nat.reduceMul, reduceCtorEq, Int.reduceEq, Int.reduceLT, Int.reduceLE, Int.reduceNeg, Int.reduceAdd, Int.reduceSub]
  rw [if_neg (by omega)]
  by_cases h1 : n = 1
  · rw [if_pos h1]
    subst h1
    simp +contextual only [wn, h0, hlong, ↓wA, wB, wZ, repeatV, RX.evs, spl, over, ones, Ex.ends, evR, oneOf, top, ↓reduceIte, Nat.reduceEqDiff, Nat.reduceLeDiff, Nat.reduceAdd, Nat.reduceSub, Nat.reduceMul, reduceCtorEq, Int.reduceEq, Int.reduceLT, Int.reduceLE, Int.reduceNeg, Int.reduceAdd, Int.reduceSub]
  rw [if_neg h1]
  obtain ⟨k, sh, pw, hk, hnk, hsh, hpw, hpos, htm⟩ : ∃ (k : Nat) (sh pw : Int), 2 ≤ k ∧ n = k ∧ IntKind.i64.wrap (7 - n) = sh ∧ ((BK.shl).run Tryd.prog (.int .i64 1) (.int .i64 sh) = some (.int .i64 pw)) ∧ (pw ≠ 0 ∧ pw ≤ 32 ∧ 1 ≤ pw) ∧ (2 : Int) ^ (7 - n).toNat = pw := by
    rcases hn with q | q | q | q | q
    · exact absurd q h0
    · exact absurd q h1
    · subst q; exact ⟨2, 5, 32, by omega, rfl, rfl, rfl, by decide, rfl⟩
    · subst q; exact ⟨3, 4, 16, by omega, rfl, rfl, rfl, by decide, rfl⟩
    · subst q; exact ⟨4, 3, 8, by omega, rfl, rfl, rfl, by decide, rfl⟩
  rw [htm]
  have hrem : (BK.int .rem).run Tryd.prog (.int .i64 (c : Int)) (.int .i64 pw) = some (.int .i64 ((c : Int).tmod pw)) := k_rem .i64 _ _ hpos.1
  have hk4 : k ≤ 4 := by omega
  have hb0 : 0 ≤ (c : Int).tmod pw := Int.tmod_nonneg _ (by omega)
  have hb1 : (c : Int).tmod pw < 64 := Int.lt_of_lt_of_le (Int.tmod_lt_of_pos _ (by omega)) (by omega)
  generalize (c : Int).tmod pw = x0 at *
  simp +contextual only [wn, w8, h0, h1, hlong, hsh, hpw, hrem, f0, f1, hcc, Int.toNat_natCast, ↓wA, wB, wZ, repeatV, RX.evs, spl, over, ones, Ex.ends, evR, oneOf, top, ↓reduceIte, Nat.reduceEqDiff, Nat.reduceLeDiff, Nat.reduceAdd, Nat.reduceSub, Nat.reduceMul, reduceCtorEq, Int.reduceEq, Int.reduceLT, Int.reduceLE, Int.reduceNeg, Int.reduceAdd, Int.reduceSub]
  refine loopK_intro (fun r h' => h' = h ∧ r 0 = .str s ∧ r 1 = .int .i64 a ∧ r 5 = .int .i64 n ∧ r 6 = .int .i64 least ∧ ∃ (i : Nat) (x : Int), r 8 = .int .i64 i ∧ r 7 = .int .i64 x ∧ 1 ≤ i ∧ i ≤ k ∧ 0 ≤ x ∧ ((i = 1 ∧ x < 64) ∨ (i = 2 ∧ x < 4096) ∨ (i = 3 ∧ x < 262144) ∨ (i = 4 ∧ x < 16777216)) ∧ contF s a (n - 1).toNat 1 x0 = contF s a (k - i) i x) (fun r h' => k - (r 8).toN) ?_ ?_
  · refine ⟨rfl, by simp only [↓wA, wB, wZ, repeatV, RX.evs, spl, over, ones, Ex.ends, evR, oneOf, top, ↓reduceIte, Nat.reduceEqDiff, Nat.reduceLeDiff, Nat.reduceAdd, Nat.reduceSub, Nat.reduceMul, reduceCtorEq, Int.reduceEq, Int.reduceLT, Int.reduceLE, Int.reduceNeg, Int.reduceAdd, Int.reduceSub], by simp only [↓wA, wB, wZ, repeatV, RX.evs, spl, over, ones, Ex.ends, evR, oneOf, top, ↓reduceIte, Nat.reduceEqDiff, Nat.reduceLeDiff, Nat.reduceAdd, Nat.reduceSub, Nat.reduceMul, reduceCtorEq, Int.reduceEq, Int.reduceLT, Int.reduceLE, Int.reduceNeg, Int.reduceAdd, Int.reduceSub], by simp only [↓wA, wB, wZ, repeatV, RX.evs, spl, over, ones, Ex.ends, evR, oneOf, top, ↓reduceIte, Nat.reduceEqDiff, Nat.reduceLeDiff, Nat.reduceAdd, Nat.reduceSub, Nat.reduceMul, reduceCtorEq, Int.reduceEq, Int.reduceLT, Int.reduceLE, Int.reduceNeg, Int.reduceAdd, Int.reduceSub], by simp only [↓wA, wB, wZ, repeatV, RX.evs, spl, over, ones, Ex.ends, evR, oneOf, top, ↓reduceIte, Nat.reduceEqDiff, Nat.reduceLeDiff, Nat.reduceAdd, Nat.reduceSub, Nat.reduceMul, reduceCtorEq, Int.reduceEq, Int.reduceLT, Int.reduceLE, Int.reduceNeg, Int.reduceAdd, Int.reduceSub], 1, x0, by simp only [↓wA, wB, wZ, repeatV, RX.evs, spl, over, ones, Ex.ends, evR, oneOf, top, ↓reduceIte, Nat.reduceEqDiff, Nat.reduceLeDiff, Nat.reduceAdd, Nat.reduceSub, Nat.reduceMul, reduceCtorEq, Int.reduceEq, Int.reduceLT, Int.reduceLE, Int.reduceNeg, Int.reduceAdd, Int.reduceSub]; rfl, by simp only [↓wA, wB, wZ, repeatV, RX.evs, spl, over, ones, Ex.ends, evR, oneOf, top, ↓reduceIte, Nat.reduceEqDiff, Nat.reduceLeDiff, Nat.reduceAdd, Nat.reduceSub, Nat.reduceMul, reduceCtorEq, Int.reduceEq, Int.reduceLT, Int.reduceLE, Int.reduceNeg, Int.reduceAdd, Int.reduceSub], by omega, by omega, hb0, .inl ⟨rfl, hb1⟩, ?_⟩
    rw [show (n - 1).toNat = k - 1 from by omega]
  · rintro r h' ⟨rfl, r0, r1, r5, r6, i, x, r8, r7, i1, ik, x0', xb, hok⟩
    unfold c35l1
    by_cases hi : i < k
    · have g0 : ((i : Int) < n) = True := eq_true (by omega)
      have g1 : (0 ≤ (a : Int) + (i : Int)) = True := eq_true (by omega)
      have g2 : ((a : Int) + (i : Int) < (s.length : Int)) = True := eq_true (by omega)
      have wi : IntKind.i64.wrap ((a : Int) + (i : Int)) = (a : Int) + (i : Int) := wrap_i64 (by omega) (by omega)
      have ti : ((a : Int) + (i : Int)).toNat = a + i := by omega
      rw [show k - i = k - (i + 1) + 1 from by omega] at hok
      simp only [contF] at hok
      simp +contextual only [r0, r1, r5, r6, r8, r7, g0, g1, g2, wi, ti, ↓wA, wB, wZ, repeatV, RX.evs, spl, over, ones, Ex.ends, evR, oneOf, top, ↓reduceIte, Nat.reduceEqDiff, Nat.reduceLeDiff, Nat.reduceAdd, Nat.reduceSub, Nat.reduceMul, reduceCtorEq, Int.reduceEq, Int.reduceLT, Int.reduceLE, Int.reduceNeg, Int.reduceAdd, Int.reduceSub]
      refine callK_pure (within_pure _ _ _ _) ?_
      have hd256 : (s[a + i]?.getD 0).toNat < 256 := UInt8.toNat_lt _
      cases hwi : withinB ((s[a + i]?.getD 0).toNat : Int) 128 191 with
      | true =>
        rw [hwi, if_pos rfl] at hok
        simp only [withinB, Bool.and_eq_true, decide_eq_true_eq] at hwi
        generalize hdd : (s[a + i]?.getD 0).toNat = d at *
        have v1 : IntKind.i64.wrap (64 * x) = 64 * x := wrap_i64 (by omega) (by omega)
        have v2 : IntKind.i64.wrap (d : Int) = d := wrap_i64 (by omega) (by omega)
        have v3 : IntKind.i64.wrap (64 * x + d) = 64 * x + d := wrap_i64 (by omega) (by omega)
        have v4 : IntKind.i64.wrap (64 * x + d - 128) = 64 * x + d - 128 := wrap_i64 (by omega) (by omega)
        have v5 : IntKind.i64.wrap ((i : Int) + 1) = ((i + 1 : Nat) : Int) := by rw [wrap_i64 (by omega) (by omega)]; rfl
        simp +contextual only [r0, r1, r5, r6, r8, r7, g0, g1, g2, wi, ti, hdd, v1, v2, v3, v4, v5, ↓wA, wB, wZ, repeatV, RX.evs, spl, over, ones, Ex.ends, evR, oneOf, top, ↓reduceIte, Nat.reduceEqDiff, Nat.reduceLeDiff, Nat.reduceAdd, Nat.reduceSub, Nat.reduceMul, reduceCtorEq, Int.reduceEq, Int.reduceLT, Int.reduceLE, Int.reduceNeg, Int.reduceAdd, Int.reduceSub]
        exact ⟨⟨i + 1, 64 * x + d - 128, rfl, rfl, by omega, by omega, by omega, by omega, hok⟩, by omega⟩
      | false =>
        rw [hwi, if_neg Bool.false_ne_true] at hok
        rw [hok]
        simp +contextual only [r0, r1, r5, r6, r8, r7, g0, g1, g2, wi, ti, ↓wA, wB, wZ, repeatV, RX.evs, spl, over, ones, Ex.ends, evR, oneOf, top, ↓reduceIte, Nat.reduceEqDiff, Nat.reduceLeDiff, Nat.reduceAdd, Nat.reduceSub, Nat.reduceMul, reduceCtorEq, Int.reduceEq, Int.reduceLT, Int.reduceLE, Int.reduceNeg, Int.reduceAdd, Int.reduceSub]
        rfl
    · obtain rfl : i = k := by omega
      have g0 : ((i : Int) < n) = False := eq_false (by omega)
      rw [Nat.sub_self] at hok
      rw [hok]
      simp only [contF, charEnd]
      by_cases q1 : x < least
      · rw [if_pos (Or.inl q1)]
        simp +contextual only [r0, r1, r5, r6, r8, r7, g0, q1, ↓wA, wB, wZ, repeatV, RX.evs, spl, over, ones, Ex.ends, evR, oneOf, top, ↓reduceIte, Nat.reduceEqDiff, Nat.reduceLeDiff, Nat.reduceAdd, Nat.reduceSub, Nat.reduceMul, reduceCtorEq, Int.reduceEq, Int.reduceLT, Int.reduceLE, Int.reduceNeg, Int.reduceAdd, Int.reduceSub]
      · by_cases q2 : 1114111 < x
        · rw [if_pos (Or.inr (Or.inl q2))]
          simp +contextual only [r0, r1, r5, r6, r8, r7, g0, q1, q2, ↓wA, wB, wZ, repeatV, RX.evs, spl, over, ones, Ex.ends, evR, oneOf, top, ↓reduceIte, Nat.reduceEqDiff, Nat.reduceLeDiff, Nat.reduceAdd, Nat.reduceSub, Nat.reduceMul, reduceCtorEq, Int.reduceEq, Int.reduceLT, Int.reduceLE, Int.reduceNeg, Int.reduceAdd, Int.reduceSub]
        · by_cases q3 : 55296 ≤ x
          · by_cases q4 : x ≤ 57343
            · rw [if_pos (Or.inr (Or.inr ⟨q3, q4⟩))]
              simp +contextual only [r0, r1, r5, r6, r8, r7, g0, q1, q2, q3, q4, ↓wA, wB, wZ, repeatV, RX.evs, spl, over, ones, Ex.ends, evR, oneOf, top, ↓reduceIte, Nat.reduceEqDiff, Nat.reduceLeDiff, Nat.reduceAdd, Nat.reduceSub, Nat.reduceMul, reduceCtorEq, Int.reduceEq, Int.reduceLT, Int.reduceLE, Int.reduceNeg, Int.reduceAdd, Int.reduceSub]
            · rw [if_neg (by omega)]
              simp +contextual only [r0, r1, r5, r6, r8, r7, g0, q1, q2, q3, q4, ↓wA, wB, wZ, repeatV, RX.evs, spl, over, ones, Ex.ends, evR, oneOf, top, ↓reduceIte, Nat.reduceEqDiff, Nat.reduceLeDiff, Nat.reduceAdd, Nat.reduceSub, Nat.reduceMul, reduceCtorEq, Int.reduceEq, Int.reduceLT, Int.reduceLE, Int.reduceNeg, Int.reduceAdd, Int.reduceSub]
          · rw [if_neg (by omega)]
            simp +contextual only [r0, r1, r5, r6, r8, r7, g0, q1, q2, q3, ↓wA, wB, wZ, repeatV, RX.evs, spl, over, ones, Ex.ends, evR, oneOf, top, ↓reduceIte, Nat.reduceEqDiff, Nat.reduceLeDiff, Nat.reduceAdd, Nat.reduceSub, Nat.reduceMul, reduceCtorEq, Int.reduceEq, Int.reduceLT, Int.reduceLE, Int.reduceNeg, Int.reduceAdd, Int.reduceSub]

theorem cw_le (s : List UInt8) (a : Nat) (ha : a < s.length) : a + cw s a ≤ s.length := by
  have h := charI_cw s a ha
  by_cases hz : cw s a = 0
  · omega
  · unfold charI at h
    simp only at h
    split at h
    · omega
    · rename_i q
      split at h
      · omega
      · unfold charEnd at h
        split at h
        · omega
        · split at h <;> omega

theorem refright_ctr (s : List UInt8) (hs : s.length ≤ 100000) (h : Heap) : CallsV Tryd.prog 14 [.str s] h (.int .i64 (rightM s : Nat)) h := by
  refine pure_calls (c14_ctr rfl (wpK_of ?_))
  unfold c14
  simp +contextual only [↓wA, wB, wZ, repeatV, RX.evs, spl, over, ones, Ex.ends, evR, oneOf, top, ↓reduceIte, Nat.reduceEqDiff, Nat.reduceLeDiff, Nat.reduceAdd, Nat.reduceSub, Nat.reduceMul, reduceCtorEq, Int.reduceEq, Int.reduceLT, Int.reduceLE, Int.reduceNeg, Int.reduceAdd, Int.reduceSub]
  refine loopK_intro (fun r h' => h' = h ∧ r 0 = .str s ∧ ∃ (a : Nat), r 3 = .int .i64 a ∧ a ≤ s.length ∧ rightM s = rightA s a) (fun r h' => s.length - (r 3).toN) ?_ ?_
  · exact ⟨rfl, by simp only [↓wA, wB, wZ, repeatV, RX.evs, spl, over, ones, Ex.ends, evR, oneOf, top, ↓reduceIte, Nat.reduceEqDiff, Nat.reduceLeDiff, Nat.reduceAdd, Nat.reduceSub, Nat.reduceMul, reduceCtorEq, Int.reduceEq, Int.reduceLT, Int.reduceLE, Int.reduceNeg, Int.reduceAdd, Int.reduceSub], 0, by simp only [↓wA, wB, wZ, repeatV, RX.evs, spl, over, ones, Ex.ends, evR, oneOf, top, ↓reduceIte, Nat.reduceEqDiff, Nat.reduceLeDiff, Nat.reduceAdd, Nat.reduceSub, Nat.reduceMul, reduceCtorEq, Int.reduceEq, Int.reduceLT, Int.reduceLE, Int.reduceNeg, Int.reduceAdd, Int.reduceSub]; rfl, by omega, rfl⟩
  · rintro r h' ⟨rfl, r0, a, r3, ha, hok⟩
    unfold c14l1
    by_cases hlt : a < s.length
    · have g0 : ((a : Int) < (s.length : Int)) = True := eq_true (by omega)
      simp +contextual only [r0, r3, g0, ↓wA, wB, wZ, repeatV, RX.evs, spl, over, ones, Ex.ends, evR, oneOf, top, ↓reduceIte, Nat.reduceEqDiff, Nat.reduceLeDiff, Nat.reduceAdd, Nat.reduceSub, Nat.reduceMul, reduceCtorEq, Int.reduceEq, Int.reduceLT, Int.reduceLE, Int.reduceNeg, Int.reduceAdd, Int.reduceSub]
      refine callK_pure (char_ctr s a hlt hs _) ?_
      have hle := cw_le s a hlt
      by_cases hz : cw s a = 0
      · rw [rightA_bad hlt hz] at hok
        rw [hok, hz]
        simp +contextual only [r0, r3, g0, Int.cast_ofNat_Int, ↓wA, wB, wZ, repeatV, RX.evs, spl, over, ones, Ex.ends, evR, oneOf, top, ↓reduceIte, Nat.reduceEqDiff, Nat.reduceLeDiff, Nat.reduceAdd, Nat.reduceSub, Nat.reduceMul, reduceCtorEq, Int.reduceEq, Int.reduceLT, Int.reduceLE, Int.reduceNeg, Int.reduceAdd, Int.reduceSub]
      · rw [rightA_step hlt hz] at hok
        have hz' : ((cw s a : Int) = 0) = False := eq_false (by omega)
        have w : IntKind.i64.wrap ((a : Int) + (cw s a : Int)) = ((a + cw s a : Nat) : Int) := by rw [wrap_i64 (by omega) (by omega)]; omega
        simp +contextual only [r0, r3, g0, hz', w, ↓wA, wB, wZ, repeatV, RX.evs, spl, over, ones, Ex.ends, evR, oneOf, top, ↓reduceIte, Nat.reduceEqDiff, Nat.reduceLeDiff, Nat.reduceAdd, Nat.reduceSub, Nat.reduceMul, reduceCtorEq, Int.reduceEq, Int.reduceLT, Int.reduceLE, Int.reduceNeg, Int.reduceAdd, Int.reduceSub]
        exact ⟨⟨_, rfl, hle, hok⟩, by omega⟩
    · have g0 : ((a : Int) < (s.length : Int)) = False := eq_false (by omega)
      rw [rightA_end (by omega)] at hok
      rw [hok]
      simp +contextual only [r0, r3, g0, ↓wA, wB, wZ, repeatV, RX.evs, spl, over, ones, Ex.ends, evR, oneOf, top, ↓reduceIte, Nat.reduceEqDiff, Nat.reduceLeDiff, Nat.reduceAdd, Nat.reduceSub, Nat.reduceMul, reduceCtorEq, Int.reduceEq, Int.reduceLT, Int.reduceLE, Int.reduceNeg, Int.reduceAdd, Int.reduceSub]
      rw [show a = s.length from by omega]
end Go.Proofs.YthcgccnbhdociaaDoor

namespace Go.Proofs.YthcgccnbhdociaaDoor
open Go Am
set_option linter.unusedSectionVars false
set_option linter.unusedSimpArgs false
set_option linter.unusedVariables false

def strsV (L : List (List UInt8)) : List V := L.map V.str
theorem keys_ctr (h : Heap) : Ctr Tryd.prog 55 [] h fun x h' => x = .slice (pa h.next) 0 20 20 ∧ h' = h.new (.ofL (strsV keyList) 0 false) := by
  refine c55_ctr rfl (wpK_of ?_)
  unfold c55
  simp +contextual only [↓wA, wB, wZ, repeatV, RX.evs, spl, over, ones, Ex.ends, evR, oneOf, top, ↓reduceIte, Nat.reduceEqDiff, Nat.reduceLeDiff, Nat.reduceAdd, Nat.reduceSub, Nat.reduceMul, reduceCtorEq, Int.reduceEq, Int.reduceLT, Int.reduceLE, Int.reduceNeg, Int.reduceAdd, Int.reduceSub]
  rfl
theorem refsigns_ctr (h : Heap) : Ctr Tryd.prog 59 [] h fun x h' => x = .slice (pa h.next) 0 17 17 ∧ h' = h.new (.ofL (strsV signList) 0 false) := by
  refine c59_ctr rfl (wpK_of ?_)
  unfold c59
  simp +contextual only [↓wA, wB, wZ, repeatV, RX.evs, spl, over, ones, Ex.ends, evR, oneOf, top, ↓reduceIte, Nat.reduceEqDiff, Nat.reduceLeDiff, Nat.reduceAdd, Nat.reduceSub, Nat.reduceMul, reduceCtorEq, Int.reduceEq, Int.reduceLT, Int.reduceLE, Int.reduceNeg, Int.reduceAdd, Int.reduceSub]
  rfl
theorem strsV_len (L : List (List UInt8)) : (strsV L).length = L.length := by simp [strsV]
theorem strsV_get {L : List (List UInt8)} {i : Nat} (hi : i < L.length) : (strsV L)[i]? = some (.str L[i]) := by
  unfold strsV
  rw [List.getElem?_map, List.getElem?_eq_getElem hi]
  rfl
theorem drop_contains {t : List UInt8} {L : List (List UInt8)} {i : Nat} (hi : i < L.length) : (L.drop i).contains t = (decide (L[i] = t) || (L.drop (i + 1)).contains t) := by
  rw [List.drop_eq_getElem_cons hi, List.contains_cons]
  congr 1
  rw [Bool.eq_iff_iff]
  simp
  exact eq_comm

/-- In, over a list in a block of its own -/
theorem in_pure (t : List UInt8) (L : List (List UInt8)) (b : Pa) (cap : Nat) (h : Heap) (hL : L.length ≤ 100000) (hg : h.get b = .ofL (strsV L) 0 false) :
    CallsV Tryd.prog 54 [.str t, .slice b 0 L.length cap] h (.bool (L.contains t)) h := by
  refine pure_calls (c54_ctr rfl (wpK_of ?_))
  unfold c54
  simp +contextual only [↓wA, wB, wZ, repeatV, RX.evs, spl, over, ones, Ex.ends, evR, oneOf, top, ↓reduceIte, Nat.reduceEqDiff, Nat.reduceLeDiff, Nat.reduceAdd, Nat.reduceSub, Nat.reduceMul, reduceCtorEq, Int.reduceEq, Int.reduceLT, Int.reduceLE, Int.reduceNeg, Int.reduceAdd, Int.reduceSub]
  refine loopK_intro (fun r h' => h' = h ∧ r 0 = .str t ∧ r 1 = .slice b 0 L.length cap ∧ ∃ i : Nat, r 5 = .int .i64 i ∧ i ≤ L.length ∧ L.contains t = (L.drop i).contains t) (fun r h' => L.length - (r 5).toN) ?_ ?_
  · exact ⟨rfl, by simp only [↓wA, wB, wZ, repeatV, RX.evs, spl, over, ones, Ex.ends, evR, oneOf, top, ↓reduceIte, Nat.reduceEqDiff, Nat.reduceLeDiff, Nat.reduceAdd, Nat.reduceSub, Nat.reduceMul, reduceCtorEq, Int.reduceEq, Int.reduceLT, Int.reduceLE, Int.reduceNeg, Int.reduceAdd, Int.reduceSub], by simp only [↓wA, wB, wZ, repeatV, RX.evs, spl, over, ones, Ex.ends, evR, oneOf, top, ↓reduceIte, Nat.reduceEqDiff, Nat.reduceLeDiff, Nat.reduceAdd, Nat.reduceSub, Nat.reduceMul, reduceCtorEq, Int.reduceEq, Int.reduceLT, Int.reduceLE, Int.reduceNeg, Int.reduceAdd, Int.reduceSub], 0, by simp only [↓wA, wB, wZ, repeatV, RX.evs, spl, over, ones, Ex.ends, evR, oneOf, top, ↓reduceIte, Nat.reduceEqDiff, Nat.reduceLeDiff, Nat.reduceAdd, Nat.reduceSub, Nat.reduceMul, reduceCtorEq, Int.reduceEq, Int.reduceLT, Int.reduceLE, Int.reduceNeg, Int.reduceAdd, Int.reduceSub]; rfl, by omega, rfl⟩
  · rintro r h' ⟨rfl, r0, r1, i, r5, hi, hok⟩
    unfold c54l1
    by_cases hlt : i < L.length
    · have g0 : ((i : Int) < (L.length : Int)) = True := eq_true (by omega)
      have g1 : (0 ≤ (i : Int)) = True := eq_true (by omega)
      rw [drop_contains hlt] at hok
      by_cases he : L[i] = t
      · simp +contextual only [r0, r1, r5, g0, g1, hg, he, Int.toNat_natCast, Nat.mul_one, strsV_get hlt, ↓wA, wB, wZ, repeatV, RX.evs, spl, over, ones, Ex.ends, evR, oneOf, top, ↓reduceIte, Nat.reduceEqDiff, Nat.reduceLeDiff, Nat.reduceAdd, Nat.reduceSub, Nat.reduceMul, reduceCtorEq, Int.reduceEq, Int.reduceLT, Int.reduceLE, Int.reduceNeg, Int.reduceAdd, Int.reduceSub]
        rw [hok]
        simp [he]
      · have w : IntKind.i64.wrap ((i : Int) + 1) = ((i + 1 : Nat) : Int) := by rw [wrap_i64 (by omega) (by omega)]; rfl
        simp +contextual only [r0, r1, r5, g0, g1, hg, he, w, Int.toNat_natCast, Nat.mul_one, strsV_get hlt, ↓wA, wB, wZ, repeatV, RX.evs, spl, over, ones, Ex.ends, evR, oneOf, top, ↓reduceIte, Nat.reduceEqDiff, Nat.reduceLeDiff, Nat.reduceAdd, Nat.reduceSub, Nat.reduceMul, reduceCtorEq, Int.reduceEq, Int.reduceLT, Int.reduceLE, Int.reduceNeg, Int.reduceAdd, Int.reduceSub]
        refine ⟨⟨i + 1, rfl, hlt, ?_⟩, by omega⟩
        rw [hok]
        simp [he]
    · have g0 : ((i : Int) < (L.length : Int)) = False := eq_false (by omega)
      rw [List.drop_eq_nil_of_le (by omega)] at hok
      rw [hok]
      simp +contextual only [r0, r1, r5, g0, ↓wA, wB, wZ, repeatV, RX.evs, spl, over, ones, Ex.ends, evR, oneOf, top, ↓reduceIte, Nat.reduceEqDiff, Nat.reduceLeDiff, Nat.reduceAdd, Nat.reduceSub, Nat.reduceMul, reduceCtorEq, Int.reduceEq, Int.reduceLT, Int.reduceLE, Int.reduceNeg, Int.reduceAdd, Int.reduceSub]
      rfl

theorem number_pure (n : Int) (h : Heap) (h0 : 0 ≤ n) (h1 : n ≤ 2147483648) : CallsV Tryd.prog 57 [.int .i64 n] h (.int .i64 (if 1073741823 < n then n - 2147483648 else n)) h := by
  refine pure_calls (c57_ctr rfl (wpK_of ?_))
  unfold c57
  have w : IntKind.i64.wrap (n - 2147483648) = n - 2147483648 := wrap_i64 (by omega) (by omega)
  by_cases hn : 1073741823 < n
  · simp +contextual only [hn, w, ↓wA, wB, wZ, repeatV, RX.evs, spl, over, ones, Ex.ends, evR, oneOf, top, ↓reduceIte, Nat.reduceEqDiff, Nat.reduceLeDiff, Nat.reduceAdd, Nat.reduceSub, Nat.reduceMul, reduceCtorEq, Int.reduceEq, Int.reduceLT, Int.reduceLE, Int.reduceNeg, Int.reduceAdd, Int.reduceSub]
  · simp +contextual only [hn, w, ↓wA, wB, wZ, repeatV, RX.evs, spl, over, ones, Ex.ends, evR, oneOf, top, ↓reduceIte, Nat.reduceEqDiff, Nat.reduceLeDiff, Nat.reduceAdd, Nat.reduceSub, Nat.reduceMul, reduceCtorEq, Int.reduceEq, Int.reduceLT, Int.reduceLE, Int.reduceNeg, Int.reduceAdd, Int.reduceSub]

/-- what the reader may change -/
abbrev RM (b : Pa) (B : Nat) : Pa → Prop := fun q => q = b ∨ B ≤ unPa q
theorem add_ctr (s : List UInt8) (a fr : Nat) (e : Int) (k n : Int) (t : List UInt8) (ws : List Wd) (v : V) (b : Pa) (B : Nat) (h : Heap) (hb : h.get b = rdB s a fr e v) (hS : SlO B h 4 v ws.length (wdsV ws)) (hob : Old h b) (hbB : unPa b < B) (hB : B ≤ h.next) (hw : ws.length ≤ 100000) :
    Ctr Tryd.prog 56 [.ptr b 0, .int .i64 k, .int .i64 n, .str t] h fun x h' => Mod (RM b B) h h' ∧ ∃ v2, h'.get b = rdB s a fr e v2 ∧ SlO B h' 4 v2 (ws.length + 1) (wdsV (ws ++ [⟨k, n, fr, t⟩])) := by
  refine c56_ctr rfl (wpK_of ?_)
  unfold c56
  unfold rdB at hb ⊢
  have nb : (b = pa h.next) = False := new_ne hob (Nat.le_refl _)
  have bn : (pa h.next = b) = False := by rw [← nb]; exact propext eq_comm
  obtain ⟨v3, h3, q1, q2, q3, q4, q5⟩ := app_one (cs := [.int .i64 k, .int .i64 n, .int .i64 fr, .str t]) (by omega) hS hB (by unfold top; omega) rfl rfl
  have hg3 : h3.get b = .ofL [.str s, .int .i64 a, .int .i64 fr, .int .i64 e, v] 0 false := by
    rw [q3.get _ hob (fun hq => by have := hS.base hq; omega), hb]
  obtain ⟨one3, cl3, gd3⟩ := q2.v.one
  simp +contextual only [hb, q1, hg3, one3, cl3, gd3, nb, bn, ↓wA, wB, wZ, repeatV, RX.evs, spl, over, ones, Ex.ends, evR, oneOf, top, ↓reduceIte, Nat.reduceEqDiff, Nat.reduceLeDiff, Nat.reduceAdd, Nat.reduceSub, Nat.reduceMul, reduceCtorEq, Int.reduceEq, Int.reduceLT, Int.reduceLE, Int.reduceNeg, Int.reduceAdd, Int.reduceSub]
  refine ⟨(q3.mono fun q _ hq => .inr (hS.base hq)).set (fun _ => .inl rfl) _, ?_⟩
  rw [wdsV_append]
  refine ⟨v3, rfl, ?_⟩
  exact q2.mod ((Mod.refl (fun q => q = b) h3).self _) (fun q hq e => by
    have := q2.base hq
    rw [show q = b from e] at this
    omega)

theorem skip_ctr (s : List UInt8) (a0 : Nat) (fr0 : Int) (v : V) (b : Pa) (h : Heap) (hb : h.get b = rdB s a0 fr0 0 v) (h0 : a0 ≤ s.length) (hs : s.length ≤ 100000) (hob : Old h b) :
    Ctr Tryd.prog 27 [.ptr b 0] h fun x h' => Mod (fun q => q = b) h h' ∧ ((∃ (a : Nat) (fr : Int), h'.get b = rdB s a fr 0 v ∧ a0 ≤ a ∧ a ≤ s.length ∧ lexR (s.drop a0) a0 = lexR (s.drop a) a ∧ ∀ hlt : a < s.length, blank s[a] = false ∧ ([40, 42] : List UInt8).isPrefixOf (s.drop a) = false) ∨
      (∃ (fr : Nat), h'.get b = rdB s s.length fr 253 v ∧ lexR (s.drop a0) a0 = .error (253, fr))) := by
  refine c27_ctr rfl (wpK_of ?_)
  unfold c27
  unfold rdB at hb ⊢
  simp +contextual only [↓wA, wB, wZ, repeatV, RX.evs, spl, over, ones, Ex.ends, evR, oneOf, top, ↓reduceIte, Nat.reduceEqDiff, Nat.reduceLeDiff, Nat.reduceAdd, Nat.reduceSub, Nat.reduceMul, reduceCtorEq, Int.reduceEq, Int.reduceLT, Int.reduceLE, Int.reduceNeg, Int.reduceAdd, Int.reduceSub]
  refine loopK_intro (fun r h' => r 0 = .ptr b 0 ∧ Mod (fun q => q = b) h h' ∧ ((∃ (a : Nat) (fr : Int), h'.get b = .ofL [.str s, .int .i64 a, .int .i64 fr, .int .i64 0, v] 0 false ∧ a0 ≤ a ∧ a ≤ s.length ∧ lexR (s.drop a0) a0 = lexR (s.drop a) a) ∨
      (∃ (fr : Nat), h'.get b = .ofL [.str s, .int .i64 s.length, .int .i64 fr, .int .i64 253, v] 0 false ∧ lexR (s.drop a0) a0 = .error (253, fr)))) (fun r h' => s.length - ((ld1B (h'.get b) 1).getD .bad).toN) ?_ ?_
  · exact ⟨by simp only [↓wA, wB, wZ, repeatV, RX.evs, spl, over, ones, Ex.ends, evR, oneOf, top, ↓reduceIte, Nat.reduceEqDiff, Nat.reduceLeDiff, Nat.reduceAdd, Nat.reduceSub, Nat.reduceMul, reduceCtorEq, Int.reduceEq, Int.reduceLT, Int.reduceLE, Int.reduceNeg, Int.reduceAdd, Int.reduceSub], Mod.refl _ _, .inl ⟨a0, fr0, hb, Nat.le_refl _, h0, rfl⟩⟩
  · rintro r h' ⟨r0, hm, ⟨a, fr, hg, k0, k1, hok⟩ | ⟨fr, hg, hok⟩⟩
    · unfold c27l1
      by_cases hlt : a < s.length
      · have g0 : ((a : Int) < (s.length : Int)) = True := eq_true (by omega)
        have g1 : (0 ≤ (a : Int)) = True := eq_true (by omega)
        simp +contextual (maxSteps := 1000000) only [r0, hg, g0, g1, List.getElem?_eq_getElem hlt, Int.toNat_natCast, ↓wA, wB, wZ, repeatV, RX.evs, spl, over, ones, Ex.ends, evR, oneOf, top, ↓reduceIte, Nat.reduceEqDiff, Nat.reduceLeDiff, Nat.reduceAdd, Nat.reduceSub, Nat.reduceMul, reduceCtorEq, Int.reduceEq, Int.reduceLT, Int.reduceLE, Int.reduceNeg, Int.reduceAdd, Int.reduceSub]
        have hg2 : ∀ k, (h'.set b k).get b = k := fun k => by rw [get_set, if_pos rfl]
        have hpure := starts_pure s [40, 42] (a : Int) [.int .i64 a, .int .i64 0, v] b 0 false (h'.set b (.ofL [.str s, .int .i64 a, .int .i64 a, .int .i64 0, v] 0 false)) (hg2 _) (by omega) (by omega) hs (by simp)
        rw [Int.toNat_natCast] at hpure
        refine callK_pure hpure ?_
        have hok2 := hok
        rw [drop_cons hlt, lexR_cons, ← drop_cons hlt] at hok
        have hm2 : ∀ k, Am.Mod (fun q => q = b) h (h'.set b k) := fun k => hm.self k
        cases hpre : ([40, 42] : List UInt8).isPrefixOf (s.drop a) with
        | true =>
          have hnb : ¬ blank s[a] = true := by
            have := hpre
            rw [drop_cons hlt] at this
            simp only [List.isPrefixOf, Bool.and_eq_true, beq_iff_eq] at this
            rw [← this.1]
            decide
          rw [if_neg hnb, hpre, if_pos rfl] at hok
          simp +contextual only [r0, hg, g0, g1, List.getElem?_eq_getElem hlt, Int.toNat_natCast, ↓wA, wB, wZ, repeatV, RX.evs, spl, over, ones, Ex.ends, evR, oneOf, top, ↓reduceIte, Nat.reduceEqDiff, Nat.reduceLeDiff, Nat.reduceAdd, Nat.reduceSub, Nat.reduceMul, reduceCtorEq, Int.reduceEq, Int.reduceLT, Int.reduceLE, Int.reduceNeg, Int.reduceAdd, Int.reduceSub]
          refine callK_intro (refnote_ctr s a a 0 v b _ (by rw [get_set, if_pos rfl]; rfl) k1 hs ((hm2 _).old hob)) ?_
          rintro x h2 ⟨rfl, hm3, hn⟩
          cases hnote : noteM (s.drop a) 0 with
          | some n =>
            rw [hnote] at hn hok
            obtain ⟨hg3, hle⟩ := hn
            have hpos := noteM_pos hnote
            unfold rdB at hg3
            simp +contextual only [r0, hg3, ↓wA, wB, wZ, repeatV, RX.evs, spl, over, ones, Ex.ends, evR, oneOf, top, ↓reduceIte, Nat.reduceEqDiff, Nat.reduceLeDiff, Nat.reduceAdd, Nat.reduceSub, Nat.reduceMul, reduceCtorEq, Int.reduceEq, Int.reduceLT, Int.reduceLE, Int.reduceNeg, Int.reduceAdd, Int.reduceSub]
            refine ⟨⟨(hm2 _).trans hm3, .inl ⟨a + n, a, rfl, by omega, hle, ?_⟩⟩, ?_⟩
            · rw [hok]
              simp only [List.drop_drop]
            · omega
          | none =>
            rw [hnote] at hn hok
            unfold rdB at hn
            simp +contextual only [r0, hn, ↓wA, wB, wZ, repeatV, RX.evs, spl, over, ones, Ex.ends, evR, oneOf, top, ↓reduceIte, Nat.reduceEqDiff, Nat.reduceLeDiff, Nat.reduceAdd, Nat.reduceSub, Nat.reduceMul, reduceCtorEq, Int.reduceEq, Int.reduceLT, Int.reduceLE, Int.reduceNeg, Int.reduceAdd, Int.reduceSub]
            refine ⟨⟨(hm2 _).trans hm3, .inr ⟨a, rfl, hok⟩⟩, ?_⟩
            omega
        | false =>
          have e9 : (((s[a]).toNat : Int) = 9) = (s[a] = 9) := u8_eq _ 9 (by omega)
          have e10 : (((s[a]).toNat : Int) = 10) = (s[a] = 10) := u8_eq _ 10 (by omega)
          have e13 : (((s[a]).toNat : Int) = 13) = (s[a] = 13) := u8_eq _ 13 (by omega)
          have e32 : (((s[a]).toNat : Int) = 32) = (s[a] = 32) := u8_eq _ 32 (by omega)
          have w1 : IntKind.i64.wrap ((a : Int) + 1) = ((a + 1 : Nat) : Int) := by rw [wrap_i64 (by omega) (by omega)]; rfl
          cases hbl : blank s[a] with
          | true =>
            rw [hbl, if_pos rfl] at hok
            have hbl' := hbl
            unfold blank at hbl'
            simp +contextual only [r0, hg, g0, g1, e9, e10, e13, e32, w1, hbl', List.getElem?_eq_getElem hlt, Int.toNat_natCast, ↓wA, wB, wZ, repeatV, RX.evs, spl, over, ones, Ex.ends, evR, oneOf, top, ↓reduceIte, Nat.reduceEqDiff, Nat.reduceLeDiff, Nat.reduceAdd, Nat.reduceSub, Nat.reduceMul, reduceCtorEq, Int.reduceEq, Int.reduceLT, Int.reduceLE, Int.reduceNeg, Int.reduceAdd, Int.reduceSub]
            refine ⟨⟨(hm2 _).self _, .inl ⟨a + 1, a, rfl, by omega, by omega, hok⟩⟩, by omega⟩
          | false =>
            have hbl' := hbl
            unfold blank at hbl'
            simp +contextual only [r0, hg, g0, g1, e9, e10, e13, e32, w1, hbl', List.getElem?_eq_getElem hlt, Int.toNat_natCast, ↓wA, wB, wZ, repeatV, RX.evs, spl, over, ones, Ex.ends, evR, oneOf, top, ↓reduceIte, Nat.reduceEqDiff, Nat.reduceLeDiff, Nat.reduceAdd, Nat.reduceSub, Nat.reduceMul, reduceCtorEq, Int.reduceEq, Int.reduceLT, Int.reduceLE, Int.reduceNeg, Int.reduceAdd, Int.reduceSub]
            exact ⟨hm2 _, .inl ⟨a, a, rfl, k0, k1, hok2, fun _ => ⟨hbl, hpre⟩⟩⟩
      · have g0 : ((a : Int) < (s.length : Int)) = False := eq_false (by omega)
        simp +contextual only [r0, hg, g0, ↓wA, wB, wZ, repeatV, RX.evs, spl, over, ones, Ex.ends, evR, oneOf, top, ↓reduceIte, Nat.reduceEqDiff, Nat.reduceLeDiff, Nat.reduceAdd, Nat.reduceSub, Nat.reduceMul, reduceCtorEq, Int.reduceEq, Int.reduceLT, Int.reduceLE, Int.reduceNeg, Int.reduceAdd, Int.reduceSub]
        exact ⟨hm, .inl ⟨a, fr, rfl, k0, k1, hok, fun q => absurd q hlt⟩⟩
    · unfold c27l1
      have g0 : ((s.length : Int) < (s.length : Int)) = False := eq_false (by omega)
      simp +contextual only [r0, hg, g0, ↓wA, wB, wZ, repeatV, RX.evs, spl, over, ones, Ex.ends, evR, oneOf, top, ↓reduceIte, Nat.reduceEqDiff, Nat.reduceLeDiff, Nat.reduceAdd, Nat.reduceSub, Nat.reduceMul, reduceCtorEq, Int.reduceEq, Int.reduceLT, Int.reduceLE, Int.reduceNeg, Int.reduceAdd, Int.reduceSub]
      exact ⟨hm, .inr ⟨fr, rfl, hok⟩⟩
end Go.Proofs.YthcgccnbhdociaaDoor
