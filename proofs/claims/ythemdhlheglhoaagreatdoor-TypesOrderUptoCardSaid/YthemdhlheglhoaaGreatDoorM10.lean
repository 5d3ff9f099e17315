/- The chapter's functions, walked by the abstract machine: plain lemmas, no condition. Printed by a program from longer texts: names made short. -/
import Derived.Test.YthemdhlheglhoaaGreatDoorM8
import Derived.Test.YthemdhlheglhoaaGreatDoorM9
import Derived.Shelf.LaysM
import Derived.Shelf.Strconv.Itoa3
import Derived.Shelf.Unicode.Decode
import Derived.Shelf.Unicode.DecodeSlow
import Derived.Shelf.Unicode.DecodeAny
import Derived.Shelf.Strconv.Atoi
import Derived.Shelf.Pu.ParseUintPublic10
import Derived.Lib.LaidU8T
import Derived.Test.YthemdhlheglhoaaGreatDoorM6
set_option linter.unusedSectionVars false
set_option linter.unusedSimpArgs false
set_option linter.unusedVariables false
namespace Go.Proofs.YthemdhlheglhoaaGreatDoor
open Go aY
theorem Vt:Extern.findNext Tryz.f153=none:=by kernel_rfl
theorem Vs:(Extern.find Tryz.f153)=some Extern.BytealgIndexByte.indexByte:=by kernel_rfl
theorem Yx (s:List UInt8) (c:Int) (h:af):gp Tryz.prog 153 [.str s,.int .u8 c] h (.int .i64 (Lib.indexByte s c.toNat.toUInt8)) h:=
 Yz (by decide) Tryz.func153 (by kernel_rfl) (by kernel_rfl) Vt Vs s c h
theorem Yw (s:List UInt8) (c:Int) (h:af):gp Tryz.prog 138 [.str s,.int .u8 c] h (.int .i64 (Lib.indexByte s c.toNat.toUInt8)) h:=by
 refine q' (St rfl (eA ?_))
 unfold c138
 simp +contextual only [↓aA,aI,simprocAttr]
 refine hK (Yx _ _ _) ?_
 simp +contextual only [↓aA,aI,simprocAttr]
theorem Ml (s:List UInt8) (c:Int) (h:af):gp Tryz.prog 124 [.str s,.int .u8 c] h (.int .i64 (Lib.indexByte s c.toNat.toUInt8)) h:=by
 refine q' (Sg rfl (eA ?_))
 unfold DN
 simp +contextual only [↓aA,aI,simprocAttr]
 refine hK (Yw _ _ _) ?_
 simp +contextual only [↓aA,aI,simprocAttr]
end Go.Proofs.YthemdhlheglhoaaGreatDoor
namespace Go.Proofs.YthemdhlheglhoaaGreatDoor
open Go Go.Shelf
def Tryz.aaQ:Go.Shelf.Ren:=⟨fun | 197=>137 | 260=>152 | n=>n,fun | 9=>9 | 21=>21 | 3=>3 | 4=>4 | 5=>5 | 105=>182 | 119=>199 | 0=>0 | 46=>141 | 139=>202 | 138=>201 | n=>n,fun | 3=>2 | 4=>3 | n=>n⟩
theorem Tryz.aaP:Go.Proofs.Lays.n197 Tryz.prog Tryz.aaQ:={
 mixed:=by kernel_rfl,
 f197:=Tryz.func137.trans (congrArg some (by kernel_rfl)),
 f260:=Tryz.func152.trans (congrArg some (by kernel_rfl)),
 t0:=Tryz.underlying0,
 a0:=Tryz.isAgg0,
 z0:=Tryz.sizeOf0,
 v0:=Tryz.zeroValue0,
 t3:=Tryz.underlying3,
 a3:=Tryz.isAgg3,
 z3:=Tryz.sizeOf3,
 v3:=Tryz.zeroValue3,
 t4:=Tryz.underlying4,
 a4:=Tryz.isAgg4,
 z4:=Tryz.sizeOf4,
 v4:=Tryz.zeroValue4,
 t5:=Tryz.underlying5,
 a5:=Tryz.isAgg5,
 z5:=Tryz.sizeOf5,
 v5:=Tryz.zeroValue5,
 t9:=Tryz.underlying9,
 a9:=Tryz.isAgg9,
 z9:=Tryz.sizeOf9,
 v9:=Tryz.zeroValue9,
 t21:=Tryz.underlying21,
 a21:=Tryz.isAgg21,
 z21:=Tryz.sizeOf21,
 v21:=Tryz.zeroValue21,
 t46:=Tryz.underlying141,
 a46:=Tryz.isAgg141,
 z46:=Tryz.sizeOf141,
 v46:=Tryz.zeroValue141,
 t105:=Tryz.underlying182,
 a105:=Tryz.isAgg182,
 z105:=Tryz.sizeOf182,
 v105:=Tryz.zeroValue182,
 t119:=Tryz.underlying199,
 a119:=Tryz.isAgg199,
 z119:=Tryz.sizeOf199,
 t138:=Tryz.underlying201,
 a138:=Tryz.isAgg201,
 z138:=Tryz.sizeOf201,
 v138:=Tryz.zeroValue201,
 t139:=Tryz.underlying202,
 a139:=Tryz.isAgg202,
 z139:=Tryz.sizeOf202,
 v139:=Tryz.zeroValue202,
 g3:=by kernel_rfl,
 g4:=by kernel_rfl}
def Tryz.aaO:Go.Shelf.Ren:=⟨fun | 172=>166 | 244=>176 | 245=>165 | 247=>180 | 279=>172 | 280=>173 | 281=>174 | 282=>175 | 287=>164 | 316=>178 | 171=>94 | 205=>179 | 321=>170 | 322=>171 | 243=>109 | 246=>128 | 283=>147 | 284=>148 | 285=>149 | 286=>150 | 129=>122 | 317=>160 | 318=>161 | 319=>162 | 320=>163 | 337=>168 | 338=>169 | n=>n,fun | 9=>9 | 3=>3 | 75=>133 | 76=>134 | 4=>4 | 5=>5 | 167=>205 | 37=>128 | 0=>0 | 85=>216 | 2=>2 | 168=>207 | 53=>166 | 175=>192 | 46=>141 | 210=>214 | 127=>155 | 145=>220 | 143=>218 | 21=>21 | 171=>186 | 173=>188 | 212=>197 | 51=>164 | 20=>20 | 213=>198 | 232=>210 | 233=>211 | 80=>136 | n=>n,fun | 15=>6 | 16=>7 | 17=>1 | 18=>4 | 19=>5 | n=>n⟩
theorem Tryz.aaN:Go.Proofs.Lays.n172 Tryz.prog Tryz.aaO:={
 mixed:=by kernel_rfl,
 f129:=Tryz.func122.trans (congrArg some (by kernel_rfl)),
 f171:=Tryz.func94.trans (congrArg some (by kernel_rfl)),
 f172:=Tryz.func166.trans (congrArg some (by kernel_rfl)),
 f205:=Tryz.func179.trans (congrArg some (by kernel_rfl)),
 f243:=Tryz.func109.trans (congrArg some (by kernel_rfl)),
 f244:=Tryz.func176.trans (congrArg some (by kernel_rfl)),
 f245:=Tryz.func165.trans (congrArg some (by kernel_rfl)),
 f246:=Tryz.func128.trans (congrArg some (by kernel_rfl)),
 f247:=Tryz.func180.trans (congrArg some (by kernel_rfl)),
 f279:=Tryz.func172.trans (congrArg some (by kernel_rfl)),
 f280:=Tryz.func173.trans (congrArg some (by kernel_rfl)),
 f281:=Tryz.func174.trans (congrArg some (by kernel_rfl)),
 f282:=Tryz.func175.trans (congrArg some (by kernel_rfl)),
 f283:=Tryz.func147.trans (congrArg some (by kernel_rfl)),
 f284:=Tryz.func148.trans (congrArg some (by kernel_rfl)),
 f285:=Tryz.func149.trans (congrArg some (by kernel_rfl)),
 f286:=Tryz.func150.trans (congrArg some (by kernel_rfl)),
 f287:=Tryz.func164.trans (congrArg some (by kernel_rfl)),
 f316:=Tryz.func178.trans (congrArg some (by kernel_rfl)),
 f317:=Tryz.func160.trans (congrArg some (by kernel_rfl)),
 f318:=Tryz.func161.trans (congrArg some (by kernel_rfl)),
 f319:=Tryz.func162.trans (congrArg some (by kernel_rfl)),
 f320:=Tryz.func163.trans (congrArg some (by kernel_rfl)),
 f321:=Tryz.func170.trans (congrArg some (by kernel_rfl)),
 f322:=Tryz.func171.trans (congrArg some (by kernel_rfl)),
 f337:=Tryz.func168.trans (congrArg some (by kernel_rfl)),
 f338:=Tryz.func169.trans (congrArg some (by kernel_rfl)),
 t0:=Tryz.underlying0,
 a0:=Tryz.isAgg0,
 z0:=Tryz.sizeOf0,
 v0:=Tryz.zeroValue0,
 t2:=Tryz.underlying2,
 a2:=Tryz.isAgg2,
 z2:=Tryz.sizeOf2,
 v2:=Tryz.zeroValue2,
 t3:=Tryz.underlying3,
 a3:=Tryz.isAgg3,
 z3:=Tryz.sizeOf3,
 v3:=Tryz.zeroValue3,
 t4:=Tryz.underlying4,
 a4:=Tryz.isAgg4,
 z4:=Tryz.sizeOf4,
 v4:=Tryz.zeroValue4,
 t5:=Tryz.underlying5,
 a5:=Tryz.isAgg5,
 z5:=Tryz.sizeOf5,
 v5:=Tryz.zeroValue5,
 t9:=Tryz.underlying9,
 a9:=Tryz.isAgg9,
 z9:=Tryz.sizeOf9,
 v9:=Tryz.zeroValue9,
 t20:=Tryz.underlying20,
 a20:=Tryz.isAgg20,
 z20:=Tryz.sizeOf20,
 v20:=Tryz.zeroValue20,
 t21:=Tryz.underlying21,
 a21:=Tryz.isAgg21,
 z21:=Tryz.sizeOf21,
 v21:=Tryz.zeroValue21,
 t37:=Tryz.underlying128,
 a37:=Tryz.isAgg128,
 z37:=Tryz.sizeOf128,
 v37:=Tryz.zeroValue128,
 t46:=Tryz.underlying141,
 a46:=Tryz.isAgg141,
 z46:=Tryz.sizeOf141,
 v46:=Tryz.zeroValue141,
 t51:=Tryz.underlying164,
 a51:=Tryz.isAgg164,
 z51:=Tryz.sizeOf164,
 v51:=Tryz.zeroValue164,
 t53:=Tryz.underlying166,
 a53:=Tryz.isAgg166,
 z53:=Tryz.sizeOf166,
 v53:=Tryz.zeroValue166,
 t75:=Tryz.underlying133,
 a75:=Tryz.isAgg133,
 z75:=Tryz.sizeOf133,
 v75:=Tryz.zeroValue133,
 t76:=Tryz.underlying134,
 a76:=Tryz.isAgg134,
 z76:=Tryz.sizeOf134,
 v76:=Tryz.zeroValue134,
 t85:=Tryz.underlying216,
 a85:=Tryz.isAgg216,
 z85:=Tryz.sizeOf216,
 v85:=Tryz.zeroValue216,
 t127:=Tryz.underlying155,
 a127:=Tryz.isAgg155,
 z127:=Tryz.sizeOf155,
 v127:=Tryz.zeroValue155,
 t143:=Tryz.underlying218,
 a143:=Tryz.isAgg218,
 z143:=Tryz.sizeOf218,
 v143:=Tryz.zeroValue218,
 t145:=Tryz.underlying220,
 a145:=Tryz.isAgg220,
 z145:=Tryz.sizeOf220,
 v145:=Tryz.zeroValue220,
 t167:=Tryz.underlying205,
 a167:=Tryz.isAgg205,
 z167:=Tryz.sizeOf205,
 v167:=Tryz.zeroValue205,
 t168:=Tryz.underlying207,
 a168:=Tryz.isAgg207,
 z168:=Tryz.sizeOf207,
 v168:=Tryz.zeroValue207,
 t171:=Tryz.underlying186,
 a171:=Tryz.isAgg186,
 z171:=Tryz.sizeOf186,
 v171:=Tryz.zeroValue186,
 t173:=Tryz.underlying188,
 a173:=Tryz.isAgg188,
 z173:=Tryz.sizeOf188,
 v173:=Tryz.zeroValue188,
 t175:=Tryz.underlying192,
 a175:=Tryz.isAgg192,
 z175:=Tryz.sizeOf192,
 v175:=Tryz.zeroValue192,
 t210:=Tryz.underlying214,
 a210:=Tryz.isAgg214,
 z210:=Tryz.sizeOf214,
 v210:=Tryz.zeroValue214,
 t212:=Tryz.underlying197,
 a212:=Tryz.isAgg197,
 z212:=Tryz.sizeOf197,
 v212:=Tryz.zeroValue197,
 t213:=Tryz.underlying198,
 a213:=Tryz.isAgg198,
 z213:=Tryz.sizeOf198,
 t232:=Tryz.underlying210,
 a232:=Tryz.isAgg210,
 z232:=Tryz.sizeOf210,
 v232:=Tryz.zeroValue210,
 t233:=Tryz.underlying211,
 a233:=Tryz.isAgg211,
 z233:=Tryz.sizeOf211,
 v233:=Tryz.zeroValue211,
 g15:=by kernel_rfl,
 g16:=by kernel_rfl,
 g17:=by kernel_rfl,
 g18:=by kernel_rfl,
 g19:=by kernel_rfl}
def Tryz.GH:Go.Shelf.Ren:=⟨fun | 14=>155 | 16=>164 | 17=>165 | 19=>170 | 20=>171 | 21=>172 | 22=>173 | 23=>174 | 24=>175 | 25=>178 | 27=>94 | 26=>179 | 28=>109 | 29=>128 | 30=>147 | 31=>148 | 32=>149 | 33=>150 | 35=>122 | 34=>160 | 36=>161 | 37=>162 | 38=>163 | 39=>168 | 40=>169 | n=>n,fun | 9=>9 | 3=>3 | 22=>166 | 24=>133 | 25=>192 | 4=>4 | 34=>205 | 5=>5 | 36=>141 | 37=>128 | 0=>0 | 39=>207 | 21=>21 | 44=>214 | 47=>155 | 50=>220 | 48=>218 | 2=>2 | 52=>186 | 55=>188 | 59=>197 | 60=>164 | 20=>20 | 61=>198 | 65=>210 | 66=>211 | 67=>136 | n=>n,fun | 0=>6 | 1=>7 | 2=>1 | 3=>4 | 4=>5 | n=>n⟩
theorem Tryz.MK:Go.Proofs.LaysPu.n14 Tryz.prog Tryz.GH:={
 mixed:=by kernel_rfl,
 f14:=Tryz.func155.trans (congrArg some (by kernel_rfl)),
 f16:=Tryz.func164.trans (congrArg some (by kernel_rfl)),
 f17:=Tryz.func165.trans (congrArg some (by kernel_rfl)),
 f19:=Tryz.func170.trans (congrArg some (by kernel_rfl)),
 f20:=Tryz.func171.trans (congrArg some (by kernel_rfl)),
 f21:=Tryz.func172.trans (congrArg some (by kernel_rfl)),
 f22:=Tryz.func173.trans (congrArg some (by kernel_rfl)),
 f23:=Tryz.func174.trans (congrArg some (by kernel_rfl)),
 f24:=Tryz.func175.trans (congrArg some (by kernel_rfl)),
 f25:=Tryz.func178.trans (congrArg some (by kernel_rfl)),
 f26:=Tryz.func179.trans (congrArg some (by kernel_rfl)),
 f27:=Tryz.func94.trans (congrArg some (by kernel_rfl)),
 f28:=Tryz.func109.trans (congrArg some (by kernel_rfl)),
 f29:=Tryz.func128.trans (congrArg some (by kernel_rfl)),
 f30:=Tryz.func147.trans (congrArg some (by kernel_rfl)),
 f31:=Tryz.func148.trans (congrArg some (by kernel_rfl)),
 f32:=Tryz.func149.trans (congrArg some (by kernel_rfl)),
 f33:=Tryz.func150.trans (congrArg some (by kernel_rfl)),
 f34:=Tryz.func160.trans (congrArg some (by kernel_rfl)),
 f35:=Tryz.func122.trans (congrArg some (by kernel_rfl)),
 f36:=Tryz.func161.trans (congrArg some (by kernel_rfl)),
 f37:=Tryz.func162.trans (congrArg some (by kernel_rfl)),
 f38:=Tryz.func163.trans (congrArg some (by kernel_rfl)),
 f39:=Tryz.func168.trans (congrArg some (by kernel_rfl)),
 f40:=Tryz.func169.trans (congrArg some (by kernel_rfl)),
 t0:=Tryz.underlying0,
 a0:=Tryz.isAgg0,
 z0:=Tryz.sizeOf0,
 v0:=Tryz.zeroValue0,
 i0:=by kernel_rfl,
 t2:=Tryz.underlying2,
 a2:=Tryz.isAgg2,
 z2:=Tryz.sizeOf2,
 v2:=Tryz.zeroValue2,
 i2:=by kernel_rfl,
 t3:=Tryz.underlying3,
 a3:=Tryz.isAgg3,
 z3:=Tryz.sizeOf3,
 v3:=Tryz.zeroValue3,
 i3:=by kernel_rfl,
 t4:=Tryz.underlying4,
 a4:=Tryz.isAgg4,
 z4:=Tryz.sizeOf4,
 v4:=Tryz.zeroValue4,
 i4:=by kernel_rfl,
 t5:=Tryz.underlying5,
 a5:=Tryz.isAgg5,
 z5:=Tryz.sizeOf5,
 v5:=Tryz.zeroValue5,
 i5:=by kernel_rfl,
 t9:=Tryz.underlying9,
 a9:=Tryz.isAgg9,
 z9:=Tryz.sizeOf9,
 v9:=Tryz.zeroValue9,
 i9:=by kernel_rfl,
 t20:=Tryz.underlying20,
 a20:=Tryz.isAgg20,
 z20:=Tryz.sizeOf20,
 v20:=Tryz.zeroValue20,
 i20:=by kernel_rfl,
 t21:=Tryz.underlying21,
 a21:=Tryz.isAgg21,
 z21:=Tryz.sizeOf21,
 v21:=Tryz.zeroValue21,
 i21:=by kernel_rfl,
 t22:=Tryz.underlying166,
 a22:=Tryz.isAgg166,
 z22:=Tryz.sizeOf166,
 v22:=Tryz.zeroValue166,
 i22:=by kernel_rfl,
 t24:=Tryz.underlying133,
 a24:=Tryz.isAgg133,
 z24:=Tryz.sizeOf133,
 v24:=Tryz.zeroValue133,
 i24:=by kernel_rfl,
 t25:=Tryz.underlying192,
 a25:=Tryz.isAgg192,
 z25:=Tryz.sizeOf192,
 v25:=Tryz.zeroValue192,
 i25:=by kernel_rfl,
 t34:=Tryz.underlying205,
 a34:=Tryz.isAgg205,
 z34:=Tryz.sizeOf205,
 v34:=Tryz.zeroValue205,
 i34:=by kernel_rfl,
 c34:=by kernel_rfl,
 t36:=Tryz.underlying141,
 a36:=Tryz.isAgg141,
 z36:=Tryz.sizeOf141,
 v36:=Tryz.zeroValue141,
 i36:=by kernel_rfl,
 t37:=Tryz.underlying128,
 a37:=Tryz.isAgg128,
 z37:=Tryz.sizeOf128,
 v37:=Tryz.zeroValue128,
 i37:=by kernel_rfl,
 t39:=Tryz.underlying207,
 a39:=Tryz.isAgg207,
 z39:=Tryz.sizeOf207,
 v39:=Tryz.zeroValue207,
 i39:=by kernel_rfl,
 t44:=Tryz.underlying214,
 a44:=Tryz.isAgg214,
 z44:=Tryz.sizeOf214,
 v44:=Tryz.zeroValue214,
 i44:=by kernel_rfl,
 t47:=Tryz.underlying155,
 a47:=Tryz.isAgg155,
 z47:=Tryz.sizeOf155,
 v47:=Tryz.zeroValue155,
 i47:=by kernel_rfl,
 t48:=Tryz.underlying218,
 a48:=Tryz.isAgg218,
 z48:=Tryz.sizeOf218,
 v48:=Tryz.zeroValue218,
 i48:=by kernel_rfl,
 t50:=Tryz.underlying220,
 a50:=Tryz.isAgg220,
 z50:=Tryz.sizeOf220,
 v50:=Tryz.zeroValue220,
 i50:=by kernel_rfl,
 t52:=Tryz.underlying186,
 a52:=Tryz.isAgg186,
 z52:=Tryz.sizeOf186,
 v52:=Tryz.zeroValue186,
 i52:=by kernel_rfl,
 t55:=Tryz.underlying188,
 a55:=Tryz.isAgg188,
 z55:=Tryz.sizeOf188,
 v55:=Tryz.zeroValue188,
 i55:=by kernel_rfl,
 t59:=Tryz.underlying197,
 a59:=Tryz.isAgg197,
 z59:=Tryz.sizeOf197,
 v59:=Tryz.zeroValue197,
 i59:=by kernel_rfl,
 t60:=Tryz.underlying164,
 a60:=Tryz.isAgg164,
 z60:=Tryz.sizeOf164,
 v60:=Tryz.zeroValue164,
 i60:=by kernel_rfl,
 t61:=Tryz.underlying198,
 a61:=Tryz.isAgg198,
 z61:=Tryz.sizeOf198,
 t65:=Tryz.underlying210,
 a65:=Tryz.isAgg210,
 z65:=Tryz.sizeOf210,
 v65:=Tryz.zeroValue210,
 i65:=by kernel_rfl,
 t66:=Tryz.underlying211,
 a66:=Tryz.isAgg211,
 z66:=Tryz.sizeOf211,
 v66:=Tryz.zeroValue211,
 i66:=by kernel_rfl,
 t67:=Tryz.underlying136,
 a67:=Tryz.isAgg136,
 z67:=Tryz.sizeOf136,
 v67:=Tryz.zeroValue136,
 i67:=by kernel_rfl,
 g0:=by kernel_rfl,
 m0:=by kernel_rfl,
 g1:=by kernel_rfl,
 m1:=by kernel_rfl,
 g2:=by kernel_rfl,
 m2:=by kernel_rfl,
 g3:=by kernel_rfl,
 m3:=by kernel_rfl,
 g4:=by kernel_rfl,
 m4:=by kernel_rfl}
def Tryz.yw:Go.Shelf.Ren:=⟨fun | 260=>152 | n=>n,fun | 9=>9 | 21=>21 | 3=>3 | 4=>4 | 5=>5 | 119=>199 | 0=>0 | 46=>141 | 139=>202 | 138=>201 | n=>n,fun | 3=>2 | 4=>3 | n=>n⟩
theorem Tryz.aaR:Go.Proofs.Lays.n260 Tryz.prog Tryz.yw:={
 mixed:=by kernel_rfl,
 f260:=Tryz.func152.trans (congrArg some (by kernel_rfl)),
 t0:=Tryz.underlying0,
 a0:=Tryz.isAgg0,
 z0:=Tryz.sizeOf0,
 v0:=Tryz.zeroValue0,
 t3:=Tryz.underlying3,
 a3:=Tryz.isAgg3,
 z3:=Tryz.sizeOf3,
 v3:=Tryz.zeroValue3,
 t4:=Tryz.underlying4,
 a4:=Tryz.isAgg4,
 z4:=Tryz.sizeOf4,
 v4:=Tryz.zeroValue4,
 t5:=Tryz.underlying5,
 a5:=Tryz.isAgg5,
 z5:=Tryz.sizeOf5,
 v5:=Tryz.zeroValue5,
 t9:=Tryz.underlying9,
 a9:=Tryz.isAgg9,
 z9:=Tryz.sizeOf9,
 v9:=Tryz.zeroValue9,
 t21:=Tryz.underlying21,
 a21:=Tryz.isAgg21,
 z21:=Tryz.sizeOf21,
 v21:=Tryz.zeroValue21,
 t46:=Tryz.underlying141,
 a46:=Tryz.isAgg141,
 z46:=Tryz.sizeOf141,
 v46:=Tryz.zeroValue141,
 t119:=Tryz.underlying199,
 a119:=Tryz.isAgg199,
 z119:=Tryz.sizeOf199,
 t138:=Tryz.underlying201,
 a138:=Tryz.isAgg201,
 z138:=Tryz.sizeOf201,
 v138:=Tryz.zeroValue201,
 t139:=Tryz.underlying202,
 a139:=Tryz.isAgg202,
 z139:=Tryz.sizeOf202,
 v139:=Tryz.zeroValue202,
 g3:=by kernel_rfl,
 g4:=by kernel_rfl}
end Go.Proofs.YthemdhlheglhoaaGreatDoor
namespace Go.Proofs.YthemdhlheglhoaaGreatDoor
open Go aY Go.RowKit
section
open Go.Shelf
theorem UN (s:ByteArray) (w:World) (d_:Lib.Utf8Tabs 2 3 w):
 Calls Tryz.prog 137 #[.string s] w fun e aj=>e=.returned (.tuple #[.int .i32 (Lib.decodeGo s).1,.int .i64 (Lib.decodeGo s).2])∧Below w.heap.size w aj:=Any.utf8_DecodeRuneInString Tryz.aaP s w d_
theorem RM (s:ByteArray) (n:Int) (ao:s.size≤18) (h:Lib.atoi s.data.toList=some n) (w:World):
 Calls Tryz.prog 166 #[.string s] w fun e aj=>e=.returned (.tuple #[.int .i64 n,.nilIface])∧Below w.heap.size w aj:=(Any.strconv_Atoi Tryz.aaN s n ao h w).mono fun e aj q=>⟨q.1,by obtain ⟨t,rfl⟩:=q.2;exact Lib.bytesWorld_below _ _ _⟩
theorem acM (s:ByteArray) (vI:s.size≤9223372036854775806) (u:Nat) (h:Lib.parseUintB 64 s.data.toList=.ok u) (w:World):
 Calls Tryz.prog 155 #[.string s,.int .i64 10,.int .i64 64] w fun e aj=>e=.returned (.tuple #[.int .u64 u,.nilIface])∧Below w.heap.size w aj:=(Any.strconv_ParseUint_10_at64_ok Tryz.MK s vI u h w).mono fun e aj q=>⟨q.1,by
  rcases q.2 with rfl | rfl
  · exact Below.refl _ _
  · exact Lib.bytesWorld_below _ _ _⟩
theorem acO (s:ByteArray) (tK:s.size≤281474976710656) (h:Lib.parseUintB 64 s.data.toList=.range) (w:World) (he:uM w 7):
 Calls Tryz.prog 155 #[.string s,.int .i64 10,.int .i64 64] w fun e aj=>(∃p,e=.returned (.tuple #[.int .u64 18446744073709551615,.iface (Tryz.GH.t 39) p]))∧Below w.heap.size w aj:=by
 obtain ⟨aV,aa,ae⟩:=he
 refine (Any.strconv_ParseUint_10_at64_range Tryz.MK s tK h aV w aa ae).mono fun e aj q=>?_
 obtain ⟨N,aH,_,_,b8⟩:=q
 exact ⟨⟨_,aH⟩,b8⟩
end
theorem yt {f:FuncId} (a7:Nat.beq f da=false) {args:List V} {v:V} {h:af} (jU:∃fn,Tryz.prog.funcs[f]? =some fn∧fn.body.isSome=true) (H:∀E xs w,C6 w→a8 E args xs→Calls Tryz.prog f xs.toArray w fun e aj=>∃x,e=.returned x∧Rel E v x∧Below w.heap.size w aj):gp Tryz.prog f args h v h:=by
 refine ⟨fun e=>by subst e;simp at a7,.inl ⟨jU,fun aq E w xs ak s=>?_⟩⟩
 refine (H E xs w (Lay.gS s.laid s.frame) ak).mono fun e aj q=>?_
 obtain ⟨x,rfl,br,ah⟩:=q
 exact ⟨E,x,rfl,fun _ _ q=>q,br,s.below ah⟩
theorem UL (s:List UInt8) (h:af):gp Tryz.prog 137 [.str s] h (.tuple [.int .i32 (Lib.decodeGo ⟨⟨s⟩⟩).1,.int .i64 (Lib.decodeGo ⟨⟨s⟩⟩).2]) h:=by
 refine yt (by decide) ⟨_,Tryz.func137,by kernel_rfl⟩ fun E xs w ao ak=>?_
 obtain ⟨y,cA,rfl,au,rfl⟩:=ak
 simp only [Rel] at au
 subst au
 refine (UN ⟨⟨s⟩⟩ w ao.PU).mono fun e aj q=>?_
 obtain ⟨rfl,ah⟩:=q
 refine ⟨_,rfl,?_,ah⟩
 simp only [Rel]
 exact ⟨_,rfl,_,_,rfl,rfl,_,_,rfl,rfl,rfl⟩
theorem Uz (s sub:List UInt8) (aO:s.length≤100000) (h:af):gp Tryz.prog 159 [.str s,.str sub] h (.bool (Lib.contains s sub)) h:=by
 refine yt (by decide) ⟨_,Tryz.func159,by kernel_rfl⟩ fun E xs w ao ak=>?_
 obtain ⟨y,cA,rfl,au,z,jg,rfl,az,rfl⟩:=ak
 simp only [Rel] at au az
 subst au az
 obtain ⟨m,hm⟩:=ao.maxLen
 refine (J0 ⟨⟨s⟩⟩ ⟨⟨sub⟩⟩ m w (by show s.length<4294967281;omega) hm).mono fun e aj q=>?_
 obtain ⟨rfl,rfl⟩:=q
 refine ⟨_,rfl,?_,Below.refl _ _⟩
 simp only [Rel]
theorem RL (s:List UInt8) (n:Int) (ao:s.length≤18) (h:Lib.atoi s=some n) (ag:af):gp Tryz.prog 166 [.str s] ag (.tuple [.int .i64 n,.nilIface]) ag:=by
 refine yt (by decide) ⟨_,Tryz.func166,by kernel_rfl⟩ fun E xs w tJ ak=>?_
 obtain ⟨y,cA,rfl,au,rfl⟩:=ak
 simp only [Rel] at au
 subst au
 refine (RM ⟨⟨s⟩⟩ n ao h w).mono fun e aj q=>?_
 obtain ⟨rfl,ah⟩:=q
 refine ⟨_,rfl,?_,ah⟩
 simp only [Rel]
 exact ⟨_,rfl,_,_,rfl,rfl,_,_,rfl,rfl,rfl⟩
theorem acL (s:List UInt8) (u:Nat) (ao:s.length≤100000) (h:Lib.parseUintB 64 s=.ok u) (ag:af):gp Tryz.prog 155 [.str s,.int .i64 10,.int .i64 64] ag (.tuple [.int .u64 u,.nilIface]) ag:=by
 refine yt (by decide) ⟨_,Tryz.func155,by kernel_rfl⟩ fun E xs w tJ ak=>?_
 obtain ⟨y,cA,rfl,au,z,jg,rfl,az,t,cr,rfl,aM,rfl⟩:=ak
 simp only [Rel] at au az aM
 subst au az aM
 refine (acM ⟨⟨s⟩⟩ (by show s.length≤9223372036854775806;omega) u h w).mono fun e aj q=>?_
 obtain ⟨rfl,ah⟩:=q
 refine ⟨_,rfl,?_,ah⟩
 simp only [Rel]
 exact ⟨_,rfl,_,_,rfl,rfl,_,_,rfl,rfl,rfl⟩
def U':TypeId:=Tryz.GH.t 39
theorem acN (s:List UInt8) (ao:s.length≤100000) (h:Lib.parseUintB 64 s=.range) (ag:af):gp Tryz.prog 155 [.str s,.int .i64 10,.int .i64 64] ag (.tuple [.int .u64 18446744073709551615,.iface U' .bad]) ag:=by
 refine yt (by decide) ⟨_,Tryz.func155,by kernel_rfl⟩ fun E xs w tJ ak=>?_
 obtain ⟨y,cA,rfl,au,z,jg,rfl,az,t,cr,rfl,aM,rfl⟩:=ak
 simp only [Rel] at au az aM
 subst au az aM
 refine (acO ⟨⟨s⟩⟩ (by show s.length≤281474976710656;omega) h w tJ.KC).mono fun e aj q=>?_
 obtain ⟨⟨p,rfl⟩,ah⟩:=q
 refine ⟨_,rfl,?_,ah⟩
 simp only [Rel]
 exact ⟨_,rfl,_,_,rfl,rfl,_,_,rfl,⟨p,rfl,trivial⟩,rfl⟩
end Go.Proofs.YthemdhlheglhoaaGreatDoor
namespace Go.Proofs.YthemdhlheglhoaaGreatDoor
open Go aY
def mi (s:List UInt8) (i:Nat):Nat:=if decodeL s i=(65533,1) then 0 else (decodeL s i).2
def rb:Nat→List UInt8→Nat→Nat
 | 0,s,_=>s.length
 | f+1,s,a=>if a<s.length then (if mi s a=0 then a else rb f s (a+mi s a)) else s.length
def qa (s:List UInt8) (a:Nat):Nat:=rb (s.length-a) s a
def sx (s:List UInt8):Nat:=qa s 0
theorem OU (s:List UInt8):∀(f g a:Nat),s.length-a≤f→s.length-a≤g→rb f s a=rb g s a
 | 0,g,a,aa,ae=>by
   cases g with
   | zero=>rfl
   | succ g=>simp only [rb];rw [if_neg (by omega)]
 | f+1,0,a,aa,ae=>by simp only [rb];rw [if_neg (by omega)]
 | f+1,g+1,a,aa,ae=>by
   simp only [rb]
   by_cases bd:a<s.length
   · rw [if_pos bd,if_pos bd]
     by_cases aD:mi s a=0
     · rw [if_pos aD,if_pos aD]
     · rw [if_neg aD,if_neg aD]
       exact OU s f g _ (by omega) (by omega)
   · rw [if_neg bd,if_neg bd]
theorem OT {s:List UInt8} {a:Nat} (h:s.length≤a):qa s a=s.length:=by
 unfold qa
 rw [show s.length-a=0 from by omega]
 rfl
theorem adA {s:List UInt8} {a:Nat} (h:a<s.length) (aD:mi s a=0):qa s a=a:=by
 unfold qa
 rw [show s.length-a=s.length-a-1+1 from by omega,rb,if_pos h,if_pos aD]
theorem HR {s:List UInt8} {a:Nat} (h:a<s.length) (aD:mi s a≠0):qa s a=qa s (a+mi s a):=by
 unfold qa
 rw [show s.length-a=s.length-a-1+1 from by omega,rb,if_pos h,if_neg aD]
 exact OU s _ _ _ (by omega) (by omega)
def fc (c:UInt8):Bool:=mZ c.toNat
def gf (c:UInt8):Bool:=uf c.toNat
def iB (l:List UInt8):Nat:=l.foldl (fun n c=>10 * n + (c.toNat-48)) 0
abbrev rI:=Except Int (Int × Int × List UInt8 × Nat)
def wy (r:List UInt8):rI:=
 let t:=r.takeWhile fc
 if 2147483647<iB t then .error 254 else .ok (1,(if 1073741823 < (iB t:Int) then (iB t:Int)-2147483648 else iB t),[],t.length)
def oJ:List UInt8→Option (UInt8 × Nat)
 | []=>none
 | c::r=>if c=110 then some (10,1) else if c=116 then some (9,1) else if c=34 then some (34,1) else if c=92 then some (92,1) else
   if 2≤r.length∧fc c∧fc (r[0]?.getD 0)∧fc (r[1]?.getD 0)∧iB (c::r.take 2)<256 then some ((iB (c::r.take 2)).toUInt8,3) else none
def uE:Nat→List UInt8→Option (List UInt8 × Nat)
 | 0,_=>none
 | _+1,[]=>none
 | f+1,c::r=>if c=34 then some ([],1) else if c=92 then (match oJ r with
    | none=>none
    | some (b,n)=>(uE f (r.drop n)).map fun q=>(b::q.1,q.2+n+1))
   else if c<32∨c=127 then none else (uE f r).map fun q=>(c::q.1,q.2+1)
def pc (r:List UInt8):Option (List UInt8 × Nat):=uE r.length r
def rj (r:List UInt8):rI:=
 match pc r with
 | none=>.error 252
 | some (b,n)=>if 4096<b.length then .error 255 else .ok (2,0,b,n+1)
def GD:List (List UInt8):=[[97,110,100],[98,101,103,105,110],[101,108,115,101],[101,110,100],[101,120,99,101,112,116,105,111,110],[102,97,108,115,101],[102,117,110],[105,102],[105,110],[108,101,116],[109,97,116,99,104],[109,111,100],[111,102],[114,97,105,115,101],[114,101,99],[116,104,101,110],[116,114,117,101],[116,114,121],[116,121,112,101],[119,105,116,104]]
def jb:List (List UInt8):=[[59,59],[58,61],[45,62],[60,61],[59],[40],[41],[44],[61],[60],[43],[45],[42],[47],[124],[33],[95]]
def q0 (t:List UInt8):Bool:=GD.contains t
def j1 (kind:Int) (r:List UInt8):rI:=
 let t:=r.takeWhile gf
 if kind=3∧t=[95] then .ok (7,0,t,t.length) else if kind=3∧q0 t then .ok (6,0,t,t.length) else if 64<t.length then .error 255 else .ok (kind,0,t,t.length)
def wO (r:List UInt8):rI:=
 match jb.find? (·.isPrefixOf r) with
 | some t=>.ok (7,0,t,t.length)
 | none=>.error 251
def pK:List UInt8→Bool
 | d::_=>iA d.toNat
 | []=>false
def gT:List UInt8→rI
 | []=>.error 0
 | c::r=>if fc c then wy (c::r) else if c=34 then rj r else if iA c.toNat||c=95 then j1 3 (c::r) else if nN c.toNat then j1 4 (c::r) else
   if c=39∧pK r then (j1 5 r).map fun q=>(q.1,q.2.1,q.2.2.1,q.2.2.2+1) else wO (c::r)
structure ca where
 kind:Int
 num:Int
 pos:Nat
 text:List UInt8
deriving DecidableEq
def blank (c:UInt8):Bool:=c=9||c=10||c=13||c=32
def xB (w:ca):Except (Int × Nat) (List ca)→Except (Int × Nat) (List ca)
 | .ok ws=>.ok (w::ws)
 | .error e=>.error e
def nk:Nat→List UInt8→Nat→Except (Int × Nat) (List ca)
 | 0,_,_=>.ok []
 | _+1,[],_=>.ok []
 | f+1,c::r,p=>if blank c then nk f r (p+1) else if ([40,42]:List UInt8).isPrefixOf (c::r) then (match h8 (c::r) 0 with
    | none=>.error (253,p)
    | some n=>nk f ((c::r).drop n) (p+n))
   else match gT (c::r) with
    | .error e=>.error (e,p)
    | .ok q=>xB ⟨q.1,q.2.1,p,q.2.2.1⟩ (nk f ((c::r).drop q.2.2.2) (p+q.2.2.2))
def p5 (r:List UInt8) (p:Nat):Except (Int × Nat) (List ca):=nk r.length r p
def nm (s:List UInt8):Except (Int × Nat) (List ca):=
 if 65536<s.length then .error (3,0) else if sx s<s.length then .error (250,sx s) else p5 s 0
theorem Ig {p:UInt8→Bool} {c:UInt8} {r:List UInt8} (h:p c=true):1≤((c::r).takeWhile p).length:=by
 simp only [List.takeWhile_cons,h,if_true,List.length_cons]
 omega
theorem adZ {t:List UInt8} (h:t ∈ jb):1≤t.length:=by
 revert t
 decide
theorem H4 {c:UInt8} (h:iA c.toNat=true):gf c=true:=by unfold gf uf;rw [h];simp
theorem K4 {c:UInt8} (h:nN c.toNat=true):gf c=true:=by unfold gf uf;rw [h];simp
theorem PQ {c:UInt8} (h:c=95):gf c=true:=by subst h;decide
theorem Nq {k:Int} {r:List UInt8} {q:Int × Int × List UInt8 × Nat} (h:j1 k r=.ok q):q.2.2.2=(r.takeWhile gf).length:=by
 unfold j1 at h
 simp only at h
 split at h
 · cases h;rfl
 · split at h
   · cases h;rfl
   · split at h
     · cases h
     · cases h;rfl
theorem G3 {r:List UInt8} {q:Int × Int × List UInt8 × Nat} (h:gT r=.ok q):1≤q.2.2.2:=by
 match r,h with
 | c::r,h=>
   simp only [gT] at h
   split at h
   · rename_i aX
     unfold wy at h
     simp only at h
     split at h
     · cases h
     · cases h
       exact Ig aX
   · split at h
     · unfold rj at h
       split at h
       · cases h
       · split at h
         · cases h
         · cases h;simp only;omega
     · split at h
       · rename_i aO
         rw [Nq h]
         simp only [Bool.or_eq_true,decide_eq_true_eq] at aO
         exact Ig (aO.elim H4 PQ)
       · split at h
         · rename_i aO
           rw [Nq h]
           exact Ig (K4 aO)
         · split at h
           · cases aS:j1 5 r with
             | error e=>rw [aS] at h;cases h
             | ok ew=>rw [aS] at h;cases h;simp only;omega
           · unfold wO at h
             split at h
             · rename_i t ax
               cases h
               exact adZ (List.mem_of_find?_eq_some ax)
             · cases h
theorem BR:∀{r:List UInt8} {d:Int} {n:Nat},h8 r d=some n→2≤n
 | [],d,n,h=>by simp [h8] at h
 | [_],d,n,h=>by simp [h8] at h
 | x::y::r,d,n,h=>by
   rw [h8] at h
   split at h
   · cases av:h8 r (d+1) with
     | none=>rw [av] at h;cases h
     | some m=>rw [av] at h;cases h;simp only;omega
   · split at h
     · split at h
       · cases h;omega
       · cases av:h8 r (d-1) with
         | none=>rw [av] at h;cases h
         | some m=>rw [av] at h;cases h;simp only;omega
     · cases av:h8 (y::r) d with
       | none=>rw [av] at h;cases h
       | some m=>rw [av] at h;cases h;have:=BR av;simp only;omega
theorem yz:∀(f g:Nat) (r:List UInt8) (p:Nat),r.length≤f→r.length≤g→nk f r p=nk g r p
 | 0,g,r,p,aa,ae=>by
   have:r=[]:=List.length_eq_zero_iff.1 (by omega)
   subst this
   cases g<;>rfl
 | f+1,0,r,p,aa,ae=>by
   have:r=[]:=List.length_eq_zero_iff.1 (by omega)
   subst this
   rfl
 | f+1,g+1,[],p,aa,ae=>rfl
 | f+1,g+1,c::r,p,aa,ae=>by
   simp only [List.length_cons] at aa ae
   simp only [nk]
   split
   · exact yz f g _ _ (by omega) (by omega)
   · split
     · split
       · rfl
       · rename_i n aS
         have:=BR aS
         exact yz f g _ _ (by rw [List.length_drop,List.length_cons];omega) (by rw [List.length_drop,List.length_cons];omega)
     · split
       · rfl
       · rename_i q av
         have:=G3 av
         rw [yz f g _ _ (by rw [List.length_drop,List.length_cons];omega) (by rw [List.length_drop,List.length_cons];omega)]
theorem MX (c:UInt8) (r:List UInt8) (p:Nat):p5 (c::r) p=if blank c then p5 r (p+1) else if ([40,42]:List UInt8).isPrefixOf (c::r) then (match h8 (c::r) 0 with
 | none=>.error (253,p)
 | some n=>p5 ((c::r).drop n) (p+n))
 else match gT (c::r) with
  | .error e=>.error (e,p)
  | .ok q=>xB ⟨q.1,q.2.1,p,q.2.2.1⟩ (p5 ((c::r).drop q.2.2.2) (p+q.2.2.2)):=by
 unfold p5
 simp only [List.length_cons,nk]
 split
 · rfl
 · split
   · split
     · rfl
     · rename_i n aS
       have:=BR aS
       exact yz _ _ _ _ (by rw [List.length_drop,List.length_cons];omega) (Nat.le_refl _)
   · split
     · rfl
     · rename_i q av
       have:=G3 av
       rw [yz _ _ _ _ (by rw [List.length_drop,List.length_cons];omega) (Nat.le_refl _)]
theorem Ii:∀(f g:Nat) (r:List UInt8),r.length≤f→r.length≤g→uE f r=uE g r
 | 0,g,r,aa,ae=>by
   have:r=[]:=List.length_eq_zero_iff.1 (by omega)
   subst this
   cases g<;>rfl
 | f+1,0,r,aa,ae=>by
   have:r=[]:=List.length_eq_zero_iff.1 (by omega)
   subst this
   rfl
 | f+1,g+1,[],aa,ae=>rfl
 | f+1,g+1,c::r,aa,ae=>by
   simp only [List.length_cons] at aa ae
   simp only [uE]
   split
   · rfl
   · split
     · split
       · rfl
       · rw [Ii f g _ (by rw [List.length_drop];omega) (by rw [List.length_drop];omega)]
     · split
       · rfl
       · rw [Ii f g _ (by omega) (by omega)]
theorem aeD:pc []=none:=rfl
theorem aeC (c:UInt8) (r:List UInt8):pc (c::r)=if c=34 then some ([],1) else if c=92 then (match oJ r with
 | none=>none
 | some (b,n)=>(pc (r.drop n)).map fun q=>(b::q.1,q.2+n+1))
 else if c<32∨c=127 then none else (pc r).map fun q=>(c::q.1,q.2+1):=by
 unfold pc
 simp only [List.length_cons,uE]
 split
 · rfl
 · split
   · split
     · rfl
     · rw [Ii _ _ _ (by rw [List.length_drop];omega) (Nat.le_refl _)]
   · rfl
theorem KU:∀(l:List UInt8) (a:Nat),a≤l.foldl (fun n c=>10 * n + (c.toNat-48)) a
 | [],a=>Nat.le_refl _
 | c::l,a=>by
   simp only [List.foldl_cons]
   exact Nat.le_trans (by omega) (KU l _)
def rV (a:Nat) (l:List UInt8):Nat:=l.foldl (fun n c=>10 * n + (c.toNat-48)) a
theorem VD (a:Nat) (c:UInt8) (l:List UInt8):rV a (c::l)=rV (10 * a + (c.toNat-48)) l:=by unfold rV;rw [List.foldl_cons]
theorem acK (M:Nat) (cO:M<18446744073709551620) (l:List UInt8):∀(a:Nat),(∀c ∈ l,fc c=true)→(rV a l≤M→Lib.parseUintM M a l=.ok (rV a l))∧(a≤M→¬rV a l≤M→Lib.parseUintM M a l=.range):=by
 induction l with
 | nil=>
   intro a _
   refine ⟨fun _=>?_,fun aa ae=>absurd aa ae⟩
   simp only [Lib.parseUintM,rV,List.foldl_nil]
 | cons c l Yr=>
   intro a h
   have aD:=h c (List.mem_cons_self ..)
   simp only [fc,mZ,Bool.and_eq_true,decide_eq_true_eq] at aD
   have WI:48≤c.toNat∧c.toNat≤57:=by omega
   have bj:=Yr (10 * a + (c.toNat-48)) (fun x ak=>h x (List.mem_cons_of_mem _ ak))
   have hm:10 * a + (c.toNat-48)≤rV (10 * a + (c.toNat-48)) l:=KU l (10 * a + (c.toNat-48))
   simp only [Lib.parseUintM,WI,and_self,if_true]
   rw [Nat.mul_comm a 10,VD]
   have m_:10 * a≤10 * a + (c.toNat-48):=Nat.le_add_right _ _
   generalize 10 * a + (c.toNat-48)=A at bj hm m_ ⊢
   refine ⟨fun aW=>?_,fun bd js=>?_⟩
   · rw [if_neg (by omega),if_neg (by omega)]
     exact bj.1 aW
   · by_cases aa:1844674407370955162≤a
     · rw [if_pos aa]
     · rw [if_neg aa]
       by_cases ae:M<A
       · rw [if_pos ae]
       · rw [if_neg ae]
         exact bj.2 (by omega) js
theorem acJ (l:List UInt8) (h:∀c ∈ l,fc c=true) (ao:l≠[]):(iB l≤18446744073709551615→Lib.parseUintB 64 l=.ok (iB l))∧(¬iB l≤18446744073709551615→Lib.parseUintB 64 l=.range):=by
 unfold Lib.parseUintB
 rw [if_neg ao,show (2 ^ 64-1:Nat)=18446744073709551615 from by decide]
 have:=acK 18446744073709551615 (by omega) l 0 h
 exact ⟨this.1,this.2 (Nat.zero_le _)⟩
structure nG (s:List UInt8) (p:Nat) (b:aN) (h:af) (res:rI) (x:V) (ab:af):Prop where
 mod:Mod (fun q=>q=b) h ab
 res:∃k n t,x=.agg [.int .i64 k,.int .i64 n,.int .i64 0,.str t]∧match res with
  | .ok q=>k=q.1∧n=q.2.1∧t=q.2.2.1∧ab.get b=e_ s ((p+q.2.2.2:Nat):Int) 0∧p+q.2.2.2≤s.length
  | .error e=>e≠0∧∃bh:Int,ab.get b=e_ s bh e
theorem G0 {P:Program}:(eW.kD true 5).run P .nilIface .nilIface=some (.bool false):=rfl
theorem abG {P:Program} (T:TypeId) (x:V):(eW.kD true 5).run P (.iface T x) .nilIface=some (.bool true):=rfl
theorem PD {p:UInt8→Bool} {l:List UInt8}:∀c ∈ l.takeWhile p,p c=true:=fun c aD=>by
 induction l with
 | nil=>simp at aD
 | cons x l bj=>
   simp only [List.takeWhile_cons] at aD
   split at aD
   · rename_i ak
     rcases List.mem_cons.1 aD with rfl | aD
     · exact ak
     · exact bj aD
   · simp at aD
theorem PE (p:UInt8→Bool) (s:List UInt8) (a:Nat):((s.drop a).takeWhile p).length≤s.length-a:=by
 have:=PF p (s.drop a)
 rwa [List.length_drop] at this
theorem abX (s:List UInt8) (a0:Nat) (b:aN) (h:af) (ah:h.get b=e_ s a0 0) (a6:a0<s.length) (aO:s.length≤100000) (gE:Old h b) (aX:fc s[a0]=true):
 b_ Tryz.prog 141 [.ptr b 0] h (nG s a0 b h (wy (s.drop a0))):=by
 refine SC rfl (eA ?_)
 unfold DT
 have bO:(b=ai h.next)=False:=yI gE (Nat.le_refl _)
 have cN:(ai h.next=b)=False:=by rw [←bO];exact propext eq_comm
 simp +contextual only [ah,bO,cN,↓aA,aI,simprocAttr]
 have ak:Ext h (h.new (.bg [.int .i64 0,.int .i64 0,.int .i64 0,.str []] 0 false)):=(Ext.refl h).new _
 refine bM (OY s a0 0 b 140 mZ _ (by rw [ak.get _ gE,ah]) (by omega) aO (by decide) (fun c h=>va c h)) ?_
 rintro x aa ⟨rfl,hm,aE⟩
 have ka:(fun c:UInt8=>mZ (c.toNat:Int))=fc:=rfl
 rw [ka] at aE ⊢
 have tL:Mod (fun q=>q=b) h aa:=(ak.mod _).trans hm
 have g1:aa.get (ai h.next)=.bg [.int .i64 0,.int .i64 0,.int .i64 0,.str []] 0 false:=by
  rw [hm.get _ (e3 (by rw [fs];omega)) (by rw [cN];exact id)]
  simp only [↓aA,aI,simprocAttr]
 have dJ:(s.drop a0).takeWhile fc≠[]:=by
  rw [drop_cons a6,List.takeWhile_cons,aX]
  simp
 have hlen:=PE fc s a0
 have ag:=acJ ((s.drop a0).takeWhile fc) PD dJ
 unfold e_ at aE
 have tN:wy (s.drop a0)=if 2147483647<iB ((s.drop a0).takeWhile fc) then .error 254 else .ok (1,(if 1073741823 < (iB ((s.drop a0).takeWhile fc):Int) then (iB ((s.drop a0).takeWhile fc):Int)-2147483648 else iB ((s.drop a0).takeWhile fc)),[],((s.drop a0).takeWhile fc).length):=rfl
 rw [tN]
 generalize (s.drop a0).takeWhile fc=t at *
 simp +contextual only [↓aA,aI,simprocAttr]
 by_cases xN:iB t≤18446744073709551615
 · refine hK (acL t (iB t) (by omega) (ag.1 xN) aa) ?_
   generalize iB t=u at *
   by_cases E5:(2147483647:Int) < (u:Int)
   · have vp:2147483647<u:=by omega
     simp +contextual only [G0,E5,g1,aE,bO,cN,↓aA,aI,simprocAttr]
     refine ⟨(tL.set (fun _=>rfl) _).set (fun q=>absurd (show e9 (ai h.next)<h.next from q) (by rw [c8];omega)) _,?_⟩
     rw [if_pos vp]
     refine ⟨_,_,_,rfl,by decide,((a0+t.length:Nat):Int),?_⟩
     simp only [e_,bO,cN,↓aA,aI,simprocAttr]
   · have vp:¬2147483647<u:=by omega
     have bT:IntKind.i64.wrap (u:Int)=(u:Int):=wrap_i64 (by omega) (by omega)
     have bP:IntKind.i64.wrap ((u:Int)-2147483648)=(u:Int)-2147483648:=wrap_i64 (by omega) (by omega)
     by_cases K9:(1073741823:Int) < (u:Int)
     · simp +contextual only [G0,E5,vp,K9,g1,aE,bO,cN,bT,bP,↓aA,aI,simprocAttr]
       refine ⟨(tL.set (fun q=>absurd (show e9 (ai h.next)<h.next from q) (by rw [c8];omega)) _),?_⟩
       refine ⟨_,_,_,rfl,rfl,rfl,rfl,?_,by show a0+t.length≤s.length;omega⟩
       simp only [e_,aE,bO,cN,↓aA,aI,simprocAttr]
     · simp +contextual only [G0,E5,vp,K9,g1,aE,bO,cN,bT,bP,↓aA,aI,simprocAttr]
       refine ⟨(tL.set (fun q=>absurd (show e9 (ai h.next)<h.next from q) (by rw [c8];omega)) _),?_⟩
       refine ⟨_,_,_,rfl,rfl,rfl,rfl,?_,by show a0+t.length≤s.length;omega⟩
       simp only [e_,aE,bO,cN,↓aA,aI,simprocAttr]
 · refine hK (acN t (by omega) (ag.2 xN) aa) ?_
   have vp:2147483647<iB t:=by omega
   rw [if_pos vp]
   simp +contextual only [abG,g1,aE,bO,cN,↓aA,aI,simprocAttr]
   refine ⟨(tL.set (fun _=>rfl) _).set (fun q=>absurd (show e9 (ai h.next)<h.next from q) (by rw [c8];omega)) _,?_⟩
   refine ⟨_,_,_,rfl,by decide,((a0+t.length:Nat):Int),?_⟩
   simp only [e_,bO,cN,↓aA,aI,simprocAttr]
theorem PM (c:UInt8):((c.toNat:Int)).toNat.toUInt8=c:=by
 rw [Int.toNat_natCast]
 simp
theorem wV (c:UInt8) (n:Nat) (aS:n<256):((c.toNat:Int)=(n:Int))=(c=n.toUInt8):=by
 apply propext
 constructor
 · intro q
   have:c.toNat=n:=by omega
   rw [←UInt8.toNat_inj,this]
   simp
   omega
 · intro q
   subst q
   simp
   omega
theorem Vb (c:UInt8):Lib.indexByte [110,116,34,92] c=if c=110 then 0 else if c=116 then 1 else if c=34 then 2 else if c=92 then 3 else -1:=by
 simp only [Lib.indexByte,beq_iff_eq]
 by_cases aa:c=110
 · subst aa;decide
 · by_cases ae:c=116
   · subst ae;decide
   · by_cases aH:c=34
     · subst aH;decide
     · by_cases bf:c=92
       · subst bf;decide
       · have aP:¬(110:UInt8)=c:=fun q=>aa q.symm
         have bl:¬(116:UInt8)=c:=fun q=>ae q.symm
         have bW:¬(34:UInt8)=c:=fun q=>aH q.symm
         have eu:¬(92:UInt8)=c:=fun q=>bf q.symm
         simp only [aa,ae,aH,bf,aP,bl,bW,eu,if_false]
         rfl
theorem EA {c:UInt8} (h:fc c=true):Lib.digitVal c=some (c.toNat-48):=by
 unfold Lib.digitVal
 unfold fc mZ at h
 simp only [Bool.and_eq_true,decide_eq_true_eq] at h
 rw [if_pos (by omega)]
theorem RJ {a b c:UInt8} (aa:fc a=true) (ae:fc b=true) (aH:fc c=true):Lib.atoi [a,b,c]=some ((iB [a,b,c]:Nat):Int):=by
 have bd:=aa
 unfold fc mZ at bd
 simp only [Bool.and_eq_true,decide_eq_true_eq] at bd
 have cz:(a == 45)=false:=by rw [beq_eq_false_iff_ne];rintro rfl;revert bd;decide
 have ha:(a == 43)=false:=by rw [beq_eq_false_iff_ne];rintro rfl;revert bd;decide
 simp [Lib.atoi,cz,ha,Lib.decNat,Lib.decFrom,EA aa,EA ae,EA aH,iB]
 omega
theorem Vc (s:List UInt8) (a0:Nat) (b:aN) (h:af) (ah:h.get b=e_ s a0 0) (a6:a0<s.length) (aO:s.length≤100000) (gE:Old h b):
 b_ Tryz.prog 157 [.ptr b 0] h fun x ab=>Mod (fun q=>q=b) h ab∧match oJ (s.drop (a0+1)) with
  | some (c,n)=>x=.int .u8 (c.toNat:Int)∧ab.get b=e_ s ((a0+1+n:Nat):Int) 0∧a0+1+n≤s.length
  | none=>x=.int .u8 0∧ab.get b=e_ s ((a0+1:Nat):Int) 252:=by
 refine S1 rfl (eA ?_)
 unfold D1
 unfold e_ at ah ⊢
 have bT:IntKind.i64.wrap ((a0:Int)+1)=((a0+1:Nat):Int):=by rw [wrap_i64 (by omega) (by omega)];rfl
 have f0:(0≤((a0+1:Nat):Int))=True:=eq_true (by omega)
 have f1:(((a0+1:Nat):Int)≤(s.length:Int))=True:=eq_true (by omega)
 have tI:(s.drop (a0+1)).length=s.length - (a0+1):=List.length_drop
 have z0:((0:Int)≤0)=True:=eq_true (by omega)
 have oc:∀v,aY.Mod (fun q=>q=b) h ((h.set b v)):=fun v=>(Mod.refl (fun q=>q=b) h).set (fun _=>rfl) _
 cases cC:s.drop (a0+1) with
 | nil=>
   simp +contextual only [ah,bT,f0,f1,Int.toNat_natCast,cC,List.length_nil,Int.natCast_zero,↓aA,aI,simprocAttr]
   refine ⟨(oc _).set (fun _=>rfl) _,?_⟩
   simp only [oJ,c0,if_true,true_and]
 | cons c r=>
   rw [cC] at tI
   rw [List.length_cons] at tI
   have cR:(c::r=[])=False:=eq_false (by simp)
   have f2:((0:Int) < ((r.length+1:Nat):Int))=True:=eq_true (by omega)
   simp +contextual only [ah,bT,f0,f1,f2,cR,Int.toNat_natCast,cC,Int.reduceToNat,z0,↓aA,aI,simprocAttr]
   refine hK (Ml _ _ _) ?_
   rw [PM,Vb]
   have bP:IntKind.i64.wrap (((a0+1:Nat):Int)+1)=((a0+2:Nat):Int):=by rw [wrap_i64 (by omega) (by omega)];omega
   by_cases bL:c=110
   · subst bL
     simp +contextual only [ah,bT,bP,f0,f1,f2,cR,Int.toNat_natCast,cC,Int.reduceToNat,z0,List.length_cons,List.length_nil,Nat.reduceAdd,Int.reduceLT,Int.cast_ofNat_Int,↓aA,aI,simprocAttr]
     refine ⟨(oc _).set (fun _=>rfl) _,rfl,?_⟩
     simp only [c0,if_true]
     refine ⟨trivial,by omega⟩
   by_cases b0:c=116
   · subst b0
     simp +contextual only [ah,bT,bP,f0,f1,f2,cR,Int.toNat_natCast,cC,Int.reduceToNat,z0,List.length_cons,List.length_nil,Nat.reduceAdd,Int.reduceLT,Int.cast_ofNat_Int,bL,↓aA,aI,simprocAttr]
     refine ⟨(oc _).set (fun _=>rfl) _,rfl,?_⟩
     simp only [c0,if_true]
     refine ⟨trivial,by omega⟩
   by_cases c3:c=34
   · subst c3
     simp +contextual only [ah,bT,bP,f0,f1,f2,cR,Int.toNat_natCast,cC,Int.reduceToNat,z0,List.length_cons,List.length_nil,Nat.reduceAdd,Int.reduceLT,Int.cast_ofNat_Int,bL,b0,↓aA,aI,simprocAttr]
     refine ⟨(oc _).set (fun _=>rfl) _,rfl,?_⟩
     simp only [c0,if_true]
     refine ⟨trivial,by omega⟩
   by_cases fj:c=92
   · subst fj
     simp +contextual only [ah,bT,bP,f0,f1,f2,cR,Int.toNat_natCast,cC,Int.reduceToNat,z0,List.length_cons,List.length_nil,Nat.reduceAdd,Int.reduceLT,Int.cast_ofNat_Int,bL,b0,c3,↓aA,aI,simprocAttr]
     refine ⟨(oc _).set (fun _=>rfl) _,rfl,?_⟩
     simp only [c0,if_true]
     refine ⟨trivial,by omega⟩
   match r,cC,tI,f2,cR with
   | [],cC,tI,f2,cR=>
     simp +contextual only [ah,bT,bP,f0,f1,f2,cR,Int.toNat_natCast,cC,Int.reduceToNat,z0,List.length_cons,List.length_nil,Nat.reduceAdd,Int.reduceLT,Int.cast_ofNat_Int,bL,b0,c3,fj,↓aA,aI,simprocAttr]
     refine ⟨(oc _).set (fun _=>rfl) _,?_⟩
     simp [oJ,bL,b0,c3,fj,c0]
   | [_],cC,tI,f2,cR=>
     simp +contextual only [ah,bT,bP,f0,f1,f2,cR,Int.toNat_natCast,cC,Int.reduceToNat,z0,List.length_cons,List.length_nil,Nat.reduceAdd,Int.reduceLT,Int.cast_ofNat_Int,bL,b0,c3,fj,↓aA,aI,simprocAttr]
     refine ⟨(oc _).set (fun _=>rfl) _,?_⟩
     simp [oJ,bL,b0,c3,fj,c0]
   | d1::d2::bq,cC,tI,f2,cR=>
     simp only [List.length_cons] at tI
     have g3:((3:Int)≤((bq.length+3:Nat):Int))=True:=eq_true (by omega)
     have g2:((2:Int) < ((bq.length+3:Nat):Int))=True:=eq_true (by omega)
     have g1:((1:Int) < ((bq.length+3:Nat):Int))=True:=eq_true (by omega)
     have g0:((0:Int) < ((bq.length+3:Nat):Int))=True:=eq_true (by omega)
     have em:oJ (c::d1::d2::bq)=if fc c∧fc d1∧fc d2∧iB [c,d1,d2]<256 then some ((iB [c,d1,d2]).toUInt8,3) else none:=by
      simp [oJ,bL,b0,c3,fj]
     rw [em]
     simp +contextual only [ah,bT,bP,f0,f1,g0,g1,g2,g3,cR,Int.toNat_natCast,cC,Int.reduceToNat,z0,List.length_cons,List.length_nil,Nat.reduceAdd,Int.reduceLT,Int.cast_ofNat_Int,bL,b0,c3,fj,↓aA,aI,simprocAttr]
     refine hK (va _ _) ?_
     have dg:∀x:UInt8,mZ (x.toNat:Int)=fc x:=fun _=>rfl
     simp only [dg]
     cases WT:fc c with
     | false=>
       simp +contextual only [ah,bT,bP,f0,f1,g0,g1,g2,g3,cR,Int.toNat_natCast,cC,Int.reduceToNat,z0,List.length_cons,List.length_nil,Nat.reduceAdd,Int.reduceLT,Int.cast_ofNat_Int,bL,b0,c3,fj,false_and,Bool.false_eq_true,↓aA,aI,simprocAttr]
       exact (oc _).set (fun _=>rfl) _
     | true=>
       simp +contextual only [ah,bT,bP,f0,f1,g0,g1,g2,g3,cR,Int.toNat_natCast,cC,Int.reduceToNat,z0,List.length_cons,List.length_nil,Nat.reduceAdd,Int.reduceLT,Int.cast_ofNat_Int,bL,b0,c3,fj,↓aA,aI,simprocAttr]
       refine hK (va _ _) ?_
       simp only [dg]
       cases AW:fc d1 with
       | false=>
         simp +contextual only [ah,bT,bP,f0,f1,g0,g1,g2,g3,cR,Int.toNat_natCast,cC,Int.reduceToNat,z0,List.length_cons,List.length_nil,Nat.reduceAdd,Int.reduceLT,Int.cast_ofNat_Int,bL,b0,c3,fj,false_and,and_false,Bool.false_eq_true,↓aA,aI,simprocAttr]
         exact (oc _).set (fun _=>rfl) _
       | true=>
         simp +contextual only [ah,bT,bP,f0,f1,g0,g1,g2,g3,cR,Int.toNat_natCast,cC,Int.reduceToNat,z0,List.length_cons,List.length_nil,Nat.reduceAdd,Int.reduceLT,Int.cast_ofNat_Int,bL,b0,c3,fj,↓aA,aI,simprocAttr]
         refine hK (va _ _) ?_
         simp only [dg]
         cases AX:fc d2 with
         | false=>
           simp +contextual only [ah,bT,bP,f0,f1,g0,g1,g2,g3,cR,Int.toNat_natCast,cC,Int.reduceToNat,z0,List.length_cons,List.length_nil,Nat.reduceAdd,Int.reduceLT,Int.cast_ofNat_Int,bL,b0,c3,fj,false_and,and_false,Bool.false_eq_true,↓aA,aI,simprocAttr]
           exact (oc _).set (fun _=>rfl) _
         | true=>
           have z3:((0:Int)≤3)=True:=eq_true (by omega)
           simp +contextual only [ah,bT,bP,f0,f1,g0,g1,g2,g3,z3,cR,Int.toNat_natCast,cC,Int.reduceToNat,z0,List.length_cons,List.length_nil,Nat.reduceAdd,Int.reduceLT,Int.cast_ofNat_Int,bL,b0,c3,fj,↓aA,aI,simprocAttr]
           refine hK (RL [c,d1,d2] _ (by simp) (RJ WT AW AX) _) ?_
           have iD:IntKind.i64.wrap (((a0+1:Nat):Int)+3)=((a0+4:Nat):Int):=by rw [wrap_i64 (by omega) (by omega)];omega
           generalize br:iB [c,d1,d2]=v
           by_cases L8:(v:Int)<256
           · have jd:IntKind.u8.wrap (v:Int)=((v.toUInt8).toNat:Int):=by
              simp [IntKind.wrap,IntKind.bits,IntKind.signed]
             have Gi:v<256:=by omega
             simp +contextual only [ah,bT,bP,iD,jd,f0,f1,g0,g1,g2,g3,cR,L8,Gi,Int.toNat_natCast,cC,Int.reduceToNat,z0,List.length_cons,List.length_nil,Nat.reduceAdd,Int.reduceLT,Int.cast_ofNat_Int,bL,b0,c3,fj,and_self,true_and,↓aA,aI,simprocAttr]
             refine ⟨(oc _).set (fun _=>rfl) _,?_⟩
             first | omega | (refine ⟨?_,by omega⟩;simp [c0]) | skip
           · have Gi:¬v<256:=by omega
             simp +contextual only [ah,bT,bP,iD,f0,f1,g0,g1,g2,g3,cR,L8,Gi,Int.toNat_natCast,cC,Int.reduceToNat,z0,List.length_cons,List.length_nil,Nat.reduceAdd,Int.reduceLT,Int.cast_ofNat_Int,bL,b0,c3,fj,and_false,↓aA,aI,simprocAttr]
             exact (oc _).set (fun _=>rfl) _
theorem aeS (c:UInt8) (n:Nat) (aS:n<256):((c.toNat:Int) < (n:Int))=(c<n.toUInt8):=by
 apply propext
 rw [UInt8.lt_iff_toNat_lt]
 have:(n.toUInt8).toNat=n:=by simp;omega
 rw [this]
 omega
theorem aeE (s:List UInt8) (a0:Nat) (b:aN) (h:af) (ah:h.get b=e_ s a0 0) (a6:a0<s.length) (aO:s.length≤100000) (gE:Old h b):
 b_ Tryz.prog 142 [.ptr b 0] h (nG s a0 b h (rj (s.drop (a0+1)))):=by
 refine SF rfl (eA ?_)
 unfold DU
 have bO:(b=ai h.next)=False:=yI gE (Nat.le_refl _)
 have cN:(ai h.next=b)=False:=by rw [←bO];exact propext eq_comm
 have bT:IntKind.i64.wrap ((a0:Int)+1)=((a0+1:Nat):Int):=by rw [wrap_i64 (by omega) (by omega)];rfl
 unfold e_ at ah
 simp +contextual only [ah,bO,cN,bT,↓aA,aI,simprocAttr]
 have wx:∀{v:V} {ab:af} {n:Nat} {us:List V},dL (h.next+1) ab 1 v n us→∀q,v.bc q→¬(fun q=>q=b) q:=by
  intro v ab n us eo q av he
  have aa:=eo.base av
  rw [show q=b from he] at aa
  have ae:e9 b<h.next:=gE
  omega
 have RZ:∀{v:V} {ab:af} {n:Nat} {us:List V},dL (h.next+1) ab 1 v n us→∀i,i<h.next+1→¬v.bc (ai i):=by
  intro v ab n us eo i aF av
  have aa:=eo.base av
  rw [c8] at aa
  omega
 refine ll (fun r ab=>r 0=.ptr b 0∧r 2=.ptr (ai h.next) 0∧∃(a:Nat) (e:Int) (fi:List UInt8) (v:V),r 3=v∧ab.get b=.bg [.str s,.int .i64 a,.int .i64 e] 0 false∧a≤s.length∧a0+1≤a∧fi.length≤a∧
  ab.get (ai h.next)=.bg [.int .i64 0,.int .i64 0,.int .i64 0,.str []] 0 false∧Mod (fun q=>q=b) h ab∧h.next+1≤ab.next∧dL (h.next+1) ab 1 v fi.length (h0 fi)∧
  ((e=0∧pc (s.drop (a0+1))=(pc (s.drop a)).map fun q=>(fi++q.1,q.2 + (a - (a0+1))))∨(e=252∧pc (s.drop (a0+1))=none)))
  (fun r ab=>(s.length - ((j0 (ab.get b) 1).getD .bad).toN) + (252 - ((j0 (ab.get b) 2).getD .bad).toN)) ?_ ?_
 · refine ⟨by simp only [bO,cN,↓aA,aI,simprocAttr],by simp only [bO,cN,↓aA,aI,simprocAttr],a0+1,0,[],.cq,by simp only [bO,cN,↓aA,aI,simprocAttr],by simp only [bO,cN,↓aA,aI,simprocAttr],by omega,by omega,by simp,by simp only [bO,cN,↓aA,aI,simprocAttr],?_,?_,⟨rfl,rfl⟩,.inl ⟨rfl,?_⟩⟩
   · exact (((Ext.refl h).new _).mod (fun q=>q=b)).self _
   · rw [nr,fs];exact Nat.le_refl _
   · rw [Nat.sub_self]
     cases pc (s.drop (a0+1))<;>rfl
 · rintro r ab ⟨bQ,b7,a,e,fi,v,cT,aE,bX,p2,wg,bs,hm,lP,eo,bA⟩
   unfold JK
   have LM:Old ab b:=hm.bY gE
   have fin:∀(ae:af) (bh:Int),pc (s.drop (a0+1))=none→Mod (fun q=>q=b) h ae→ae.get b=.bg [.str s,.int .i64 bh,.int .i64 252] 0 false→
    nG s a0 b h (rj (s.drop (a0+1))) (.agg [.int .i64 0,.int .i64 0,.int .i64 0,.str []]) (ae.set (ai h.next) (.bg [.int .i64 0,.int .i64 0,.int .i64 0,.str []] 0 false)):=by
    intro ae bh aS lN xS
    unfold rj
    rw [aS]
    refine ⟨lN.set (fun q=>absurd (show e9 (ai h.next)<h.next from q) (by rw [c8];omega)) _,_,_,_,rfl,by decide,bh,?_⟩
    rw [c0,if_neg (by rw [cN];exact id),xS]
    rfl
   have step:∀(ae:af),Mod (fun q=>q=b) h ae→ab.next≤ae.next→dL (h.next+1) ae 1 v fi.length (h0 fi)→∀(c:UInt8),∃v3 aH,mY 1 v (.slice (ai ae.next) 0 1 1) (ae.new (.bg [.int .u8 (c.toNat:Int)] 0 false))=.val v3 aH∧dL (h.next+1) aH 1 v3 (fi++[c]).length (h0 (fi++[c]))∧Mod (fun q=>q=b) h aH∧h.next+1≤aH.next∧aH.get b=ae.get b∧aH.get (ai h.next)=ae.get (ai h.next):=by
    intro ae lN agj kG c
    obtain ⟨v3,aH,au,az,aM,bU,ey⟩:=zR (cs:=[.int .u8 (c.toNat:Int)]) (by omega) kG (by omega) (by unfold top;omega) rfl rfl
    refine ⟨v3,aH,au,by rw [List.length_append,JE];exact az,lN.PG aM (fun q av=>Nat.le_trans (Nat.le_succ _) (kG.base av)),by omega,?_,?_⟩
    · exact aM.get _ (lN.bY gE) (fun av=>wx kG _ av rfl)
    · exact aM.get _ (e3 (by omega)) (RZ kG _ (by omega))
   rcases bA with ⟨rfl,bA⟩ | ⟨rfl,bA⟩
   · by_cases fU:(s.length:Int)≤(a:Int)
     · have bd:a=s.length:=by omega
       rw [bd,List.drop_length,aeD] at bA
       simp +contextual only [bQ,b7,cT,aE,fU,bs,bO,cN,↓aA,aI,simprocAttr]
       exact fin _ _ bA (hm.set (fun _=>rfl) _) (by rw [c0,if_pos rfl])
     · have aW:a<s.length:=by omega
       rw [drop_cons aW,aeC] at bA
       have f0:(0≤(a:Int))=True:=eq_true (by omega)
       have f1:((a:Int) < (s.length:Int))=True:=eq_true (by omega)
       have bP:IntKind.i64.wrap ((a:Int)+1)=((a+1:Nat):Int):=by rw [wrap_i64 (by omega) (by omega)];rfl
       have kC:(((s[a]).toNat:Int)=34)=(s[a]=34):=wV _ 34 (by omega)
       have EH:(((s[a]).toNat:Int)=92)=(s[a]=92):=wV _ 92 (by omega)
       have Kn:(((s[a]).toNat:Int)=127)=(s[a]=127):=wV _ 127 (by omega)
       have MH:(((s[a]).toNat:Int)<32)=(s[a]<32):=aeS _ 32 (by omega)
       by_cases bL:s[a]=34
       · rw [if_pos bL] at bA
         replace bL:(s[a]=34)=True:=eq_true bL
         simp only [Option.map_some,List.append_nil] at bA
         by_cases xN:(4096:Int) < (fi.length:Int)
         · have kG:∀k b',dL (h.next+1) ((ab.set b k).set b b') 1 v fi.length (h0 fi):=fun k b'=>eo.mod (((Mod.refl (fun q=>q=b) ab).set (fun _=>rfl) _).set (fun _=>rfl) _) (wx eo)
           simp +contextual only [bQ,b7,cT,aE,fU,bs,bO,cN,f0,f1,bP,kC,bL,eo.v.len,xN,J1 (kG _ _),List.getElem?_eq_getElem aW,Int.toNat_natCast,↓aA,aI,simprocAttr]
           refine ⟨((hm.set (fun _=>rfl) _).set (fun _=>rfl) _).set (fun q=>absurd (show e9 (ai h.next)<h.next from q) (by rw [c8];omega)) _,_,_,_,rfl,?_⟩
           unfold rj
           rw [bA]
           simp only
           rw [if_pos (by omega)]
           refine ⟨by decide,((a+1:Nat):Int),?_⟩
           simp only [e_,bO,cN,↓aA,aI,simprocAttr]
         · have kG:∀k,dL (h.next+1) (ab.set b k) 1 v fi.length (h0 fi):=fun k=>eo.mod ((Mod.refl (fun q=>q=b) ab).set (fun _=>rfl) _) (wx eo)
           simp +contextual only [bQ,b7,cT,aE,fU,bs,bO,cN,f0,f1,bP,kC,bL,eo.v.len,xN,J1 (kG _),List.getElem?_eq_getElem aW,Int.toNat_natCast,↓aA,aI,simprocAttr]
           refine ⟨(hm.set (fun _=>rfl) _).set (fun q=>absurd (show e9 (ai h.next)<h.next from q) (by rw [c8];omega)) _,_,_,_,rfl,?_⟩
           unfold rj
           rw [bA]
           simp only
           rw [if_neg (by omega)]
           refine ⟨rfl,rfl,rfl,?_,?_⟩
           · simp only [e_,bO,cN,↓aA,aI,simprocAttr]
             rw [show a0 + (1 + (a - (a0+1))+1)=a+1 from by omega]
           · simp only;omega
       rw [if_neg bL] at bA
       by_cases b0:s[a]=92
       · rw [if_pos b0] at bA
         replace b0:(s[a]=92)=True:=eq_true b0
         simp +contextual only [bQ,b7,cT,aE,fU,bs,bO,cN,f0,f1,bP,kC,EH,bL,b0,List.getElem?_eq_getElem aW,Int.toNat_natCast,↓aA,aI,simprocAttr]
         refine bM (Vc s a b ab aE aW aO LM) ?_
         rintro x ae ⟨lN,ak⟩
         have kG:=eo.mod lN (wx eo)
         have pZ:ae.get (ai h.next)=.bg [.int .i64 0,.int .i64 0,.int .i64 0,.str []] 0 false:=by
          rw [lN.get _ (e3 (by omega)) (by rw [cN];exact id),bs]
         have o5:=lN.next
         obtain ⟨c,aD,Bc⟩:∃c:UInt8,x=.int .u8 (c.toNat:Int)∧((∃n,oJ (s.drop (a+1))=some (c,n)∧ae.get b=e_ s ((a+1+n:Nat):Int) 0∧a+1+n≤s.length)∨(oJ (s.drop (a+1))=none∧ae.get b=e_ s ((a+1:Nat):Int) 252)):=by
          cases vE:oJ (s.drop (a+1)) with
          | none=>rw [vE] at ak;exact ⟨0,ak.1,.inr ⟨rfl,ak.2⟩⟩
          | some q=>rw [vE] at ak;exact ⟨q.1,ak.1,.inl ⟨q.2,rfl,ak.2⟩⟩
         subst aD
         obtain ⟨v3,aH,au,az,aM,bU,ey,fP⟩:=step ae (hm.trans lN) o5 kG c
         have Hy:dL (h.next+1) aH 1 v3 (fi.length+1) (h0 (fi++[c])):=by rw [List.length_append] at az;exact az
         have yj:aH.get (ai h.next)=.bg [.int .i64 0,.int .i64 0,.int .i64 0,.str []] 0 false:=by rw [fP,pZ]
         unfold e_ at Bc
         rcases Bc with ⟨n,vE,xS,hle⟩ | ⟨vE,xS⟩
         · simp +contextual only [au,bQ,b7,aE,xS,ey,bO,cN,↓aA,aI,simprocAttr]
           rw [vE] at bA
           simp only at bA
           refine ⟨⟨a+1+n,0,fi++[c],rfl,hle,by omega,by simp;omega,yj,aM,bU,az,.inl ⟨rfl,?_⟩⟩,by omega⟩
           rw [bA,List.drop_drop,Option.map_map]
           congr 1
           funext q
           simp only [Function.comp,List.append_assoc,List.singleton_append,Prod.mk.injEq,true_and]
           omega
         · simp +contextual only [au,bQ,b7,aE,xS,ey,bO,cN,↓aA,aI,simprocAttr]
           rw [vE] at bA
           exact ⟨⟨a+1,252,fi++[c],rfl,by omega,by omega,by simp;omega,yj,aM,bU,az,.inr ⟨rfl,bA⟩⟩,by omega⟩
       rw [if_neg b0] at bA
       by_cases c3:s[a]<32∨s[a]=127
       · rw [if_pos c3] at bA
         have oF:(decide (s[a]<32)||decide (s[a]=127))=true:=by simpa using c3
         simp +contextual only [bQ,b7,cT,aE,fU,bs,bO,cN,f0,f1,bP,kC,EH,Kn,MH,bL,b0,oF,List.getElem?_eq_getElem aW,Int.toNat_natCast,↓aA,aI,simprocAttr]
         exact ⟨⟨a,252,fi,rfl,bX,p2,wg,hm.self _,lP,eo.mod ((Mod.refl (fun q=>q=b) ab).self _) (wx eo),.inr ⟨rfl,bA⟩⟩,by omega⟩
       · rw [if_neg c3] at bA
         have oF:(decide (s[a]<32)||decide (s[a]=127))=false:=by simpa using c3
         obtain ⟨v3,aH,au,az,aM,bU,ey,fP⟩:=step (ab.set b (.bg [.str s,.int .i64 ((a+1:Nat):Int),.int .i64 0] 0 false)) (hm.self _) (by rw [nr];exact Nat.le_refl _) (eo.mod ((Mod.refl (fun q=>q=b) ab).self _) (wx eo)) s[a]
         simp only [nr,c0,bO,cN,if_true,if_false] at au ey fP
         simp +contextual only [au,bQ,b7,cT,aE,fU,bs,bO,cN,f0,f1,bP,kC,EH,Kn,MH,bL,b0,oF,ey,List.getElem?_eq_getElem aW,Int.toNat_natCast,↓aA,aI,simprocAttr]
         refine ⟨⟨a+1,0,fi++[s[a]],rfl,by omega,by omega,by simp;omega,by rw [fP,bs],aM,bU,az,.inl ⟨rfl,?_⟩⟩,by omega⟩
         rw [bA,Option.map_map]
         congr 1
         funext q
         simp only [Function.comp,List.append_assoc,List.singleton_append,Prod.mk.injEq,true_and]
         omega
   · simp +contextual only [bQ,b7,cT,aE,bs,bO,cN,↓aA,aI,simprocAttr]
     exact fin _ _ bA hm aE
def GF:List UInt8:=[32,97,110,100,32,98,101,103,105,110,32,101,108,115,101,32,101,110,100,32,101,120,99,101,112,116,105,111,110,32,102,97,108,115,101,32,102,117,110,32,105,102,32,105,110,32,108,101,116,32,109,97,116,99,104,32,109,111,100,32,111,102,32,114,97,105,115,101,32,114,101,99,32,116,104,101,110,32,116,114,117,101,32,116,114,121,32,116,121,112,101,32,119,105,116,104,32]
def rT:List (List UInt8)→List UInt8
 | []=>[32]
 | w::L=>32::(w++rT L)
theorem Vy:rT GD=GF:=by decide
theorem Vx (L:List (List UInt8)):∃r,rT L=32::r:=by cases L<;>exact ⟨_,rfl⟩
theorem index_ge (sub:List UInt8):∀l:List UInt8,-1≤Lib.index l sub
 | []=>by simp only [Lib.index];split<;>decide
 | b::l=>by
   have:=index_ge sub l
   simp only [Lib.index]
   split
   · decide
   · split<;>omega
theorem Mn (sub:List UInt8) (b:UInt8) (l:List UInt8):(0≤Lib.index (b::l) sub)↔(sub.isPrefixOf (b::l)=true∨0≤Lib.index l sub):=by
 have:=index_ge sub l
 simp only [Lib.index]
 split
 · rename_i h;simp [h]
 · rename_i h
   split
   · rename_i ae
     have:Lib.index l sub=-1:=by simpa using ae
     simp [h,this]
   · rename_i ae
     have aH:¬Lib.index l sub=-1:=by simpa using ae
     simp only [h,Bool.false_eq_true,false_or]
     omega
theorem Mq (x:List UInt8) (r:List UInt8):∀w:List UInt8,(32:UInt8) ∉ w→((0≤Lib.index (w++r) (32::x))↔0≤Lib.index r (32::x))
 | [],_=>Iff.rfl
 | b::w,h=>by
   rw [List.cons_append,Mn,Mq x r w (fun q=>h (List.mem_cons_of_mem _ q))]
   have ah:((32:UInt8) == b)=false:=by rw [beq_eq_false_iff_ne];rintro rfl;exact h (List.mem_cons_self ..)
   simp [List.isPrefixOf,ah]
theorem N5 (r:List UInt8):∀(t w:List UInt8),(32:UInt8) ∉ t→(32:UInt8) ∉ w→((t++[32]).isPrefixOf (w++32::r)=true↔t=w)
 | [],[],_,_=>by simp [List.isPrefixOf]
 | [],b::w,_,h=>by
   have ah:((32:UInt8) == b)=false:=by rw [beq_eq_false_iff_ne];rintro rfl;exact h (List.mem_cons_self ..)
   simp [List.isPrefixOf,ah]
 | a::t,[],h,_=>by
   have ah:(a == (32:UInt8))=false:=by rw [beq_eq_false_iff_ne];rintro rfl;exact h (List.mem_cons_self ..)
   simp [List.isPrefixOf,ah]
 | a::t,b::w,h,ab=>by
   have bj:=N5 r t w (fun q=>h (List.mem_cons_of_mem _ q)) (fun q=>ab (List.mem_cons_of_mem _ q))
   simp only [List.cons_append,List.isPrefixOf,Bool.and_eq_true,beq_iff_eq,bj,List.cons.injEq]
theorem Mo (t:List UInt8) (ax:(32:UInt8) ∉ t):∀L:List (List UInt8),(∀w ∈ L,(32:UInt8) ∉ w)→((0≤Lib.index (rT L) (32::(t++[32])))↔t ∈ L)
 | [],_=>by
   cases t<;>simp [rT,Lib.index,List.isPrefixOf]
 | w::L,h=>by
   have bj:=Mo t ax L (fun x ak=>h x (List.mem_cons_of_mem _ ak))
   have hw:=h w (List.mem_cons_self ..)
   obtain ⟨r,aG⟩:=Vx L
   simp only [rT]
   rw [Mn,Mq _ _ _ hw,bj,List.mem_cons]
   have:(32::(t++[32])).isPrefixOf (32::(w++rT L))=(t++[32]).isPrefixOf (w++rT L):=by simp [List.isPrefixOf]
   rw [this,aG,N5 r t w ax hw]
theorem UA (t:List UInt8) (ax:(32:UInt8) ∉ t):Lib.contains GF (32::(t++[32]))=q0 t:=by
 have:=Mo t ax GD (by decide)
 rw [Vy] at this
 unfold Lib.contains q0
 rw [Bool.eq_iff_iff,decide_eq_true_eq,this]
 simp
theorem abl {l:List UInt8}:(32:UInt8) ∉ l.takeWhile gf:=fun h=>by
 have:=PD _ h
 revert this
 decide
theorem BL (s:List UInt8) (a0:Nat) (k:Int) (b:aN) (h:af) (ah:h.get b=e_ s a0 0) (a6:a0≤s.length) (aO:s.length≤100000) (gE:Old h b):
 b_ Tryz.prog 144 [.ptr b 0,.int .i64 k] h (nG s a0 b h (j1 k (s.drop a0))):=by
 refine SL rfl (eA ?_)
 unfold DW
 have bO:(b=ai h.next)=False:=yI gE (Nat.le_refl _)
 have cN:(ai h.next=b)=False:=by rw [←bO];exact propext eq_comm
 simp +contextual only [ah,bO,cN,↓aA,aI,simprocAttr]
 have ak:Ext h (h.new (.bg [.int .i64 0,.int .i64 0,.int .i64 0,.str []] 0 false)):=(Ext.refl h).new _
 refine bM (OY s a0 0 b 158 uf _ (by rw [ak.get _ gE,ah]) a6 aO (by decide) (fun c h=>aa7 c h)) ?_
 rintro x aa ⟨rfl,hm,aE⟩
 have ka:(fun c:UInt8=>uf (c.toNat:Int))=gf:=rfl
 rw [ka] at aE ⊢
 have tL:Mod (fun q=>q=b) h aa:=(ak.mod _).trans hm
 have g1:aa.get (ai h.next)=.bg [.int .i64 0,.int .i64 0,.int .i64 0,.str []] 0 false:=by
  rw [hm.get _ (e3 (by rw [fs];omega)) (by rw [cN];exact id)]
  simp only [↓aA,aI,simprocAttr]
 have hlen:=PE gf s a0
 have Wd:(32:UInt8) ∉ (s.drop a0).takeWhile gf:=abl
 unfold e_ at aE
 have tN:j1 k (s.drop a0)=if k=3∧(s.drop a0).takeWhile gf=[95] then .ok (7,0,(s.drop a0).takeWhile gf,((s.drop a0).takeWhile gf).length) else if k=3∧q0 ((s.drop a0).takeWhile gf) then .ok (6,0,(s.drop a0).takeWhile gf,((s.drop a0).takeWhile gf).length) else if 64 < ((s.drop a0).takeWhile gf).length then .error 255 else .ok (k,0,(s.drop a0).takeWhile gf,((s.drop a0).takeWhile gf).length):=rfl
 rw [tN]
 generalize (s.drop a0).takeWhile gf=t at *
 have BU:∀(cV:Int),nG s a0 b h (.ok (cV,0,t,t.length)) (.agg [.int .i64 cV,.int .i64 0,.int .i64 0,.str t]) (aa.set (ai h.next) (.bg [.int .i64 cV,.int .i64 0,.int .i64 0,.str t] 0 false)):=by
  intro cV
  refine ⟨tL.fresh (Nat.le_refl _) _,_,_,_,rfl,rfl,rfl,rfl,?_,by show a0+t.length≤s.length;omega⟩
  rw [c0,if_neg (by rw [cN];exact id),aE]
  rfl
 have tail:(64<t.length→nG s a0 b h (.error 255) (.agg [.int .i64 k,.int .i64 0,.int .i64 0,.str t]) ((aa.set b (.bg [.str s,.int .i64 ((a0+t.length:Nat):Int),.int .i64 255] 0 false)).set (ai h.next) (.bg [.int .i64 k,.int .i64 0,.int .i64 0,.str t] 0 false))):=by
  intro ao
  refine ⟨(tL.self _).fresh (Nat.le_refl _) _,_,_,_,rfl,by decide,((a0+t.length:Nat):Int),?_⟩
  simp only [e_,bO,cN,↓aA,aI,simprocAttr]
 by_cases ay:k=3
 · subst ay
   by_cases hu:t=[95]
   · simp +contextual only [g1,aE,bO,cN,hu,true_and,↓aA,aI,simprocAttr]
     subst hu
     exact BU 7
   · have t1:(1+t.length≤top)=True:=eq_true (by unfold top;omega)
     have t2:(t.length+1+1≤top)=True:=eq_true (by unfold top;omega)
     simp only [top] at t1 t2
     simp +contextual only [g1,aE,bO,cN,hu,true_and,List.length_append,t1,t2,↓aA,aI,simprocAttr]
     refine hK (Uz GF (32::(t++[32])) (by decide) _) ?_
     rw [UA t Wd]
     cases FG:q0 t with
     | true=>
       simp +contextual only [g1,aE,bO,cN,hu,true_and,and_false,FG,List.length_append,t1,t2,↓aA,aI,simprocAttr]
       exact BU 6
     | false=>
       by_cases ao:64<t.length
       · have hl:(64:Int) < (t.length:Int):=by omega
         simp +contextual only [g1,aE,bO,cN,hu,ao,hl,true_and,and_false,FG,List.length_append,t1,t2,Bool.false_eq_true,↓aA,aI,simprocAttr]
         exact tail ao
       · have hl:¬(64:Int) < (t.length:Int):=by omega
         simp +contextual only [g1,aE,bO,cN,hu,ao,hl,true_and,and_false,FG,List.length_append,t1,t2,Bool.false_eq_true,↓aA,aI,simprocAttr]
         exact BU 3
 · by_cases ao:64<t.length
   · have hl:(64:Int) < (t.length:Int):=by omega
     simp +contextual only [g1,aE,bO,cN,ay,ao,hl,false_and,↓aA,aI,simprocAttr]
     exact tail ao
   · have hl:¬(64:Int) < (t.length:Int):=by omega
     simp +contextual only [g1,aE,bO,cN,ay,ao,hl,false_and,↓aA,aI,simprocAttr]
     exact BU k
def wP:List V:=jb.map V.str
theorem ad0 (h:af):b_ Tryz.prog 146 [] h fun x ab=>x=.slice (ai h.next) 0 17 17∧ab=h.new (.bg wP 0 false):=by
 refine SR rfl (eA ?_)
 unfold DY
 simp +contextual only [↓aA,aI,simprocAttr]
 rfl
theorem adY {i:Nat} (aF:i<17):wP[i]? =some (.str (jb[i]'aF)):=by
 unfold wP
 rw [List.getElem?_map,List.getElem?_eq_getElem (show i<jb.length from aF)]
 rfl
theorem Vv (p:List UInt8→Bool) {i:Nat} (aF:i<17):(jb.drop i).find? p=if p (jb[i]'aF) then some (jb[i]'aF) else (jb.drop (i+1)).find? p:=by
 rw [List.drop_eq_getElem_cons (show i<jb.length from aF),List.find?_cons]
 cases p jb[i]<;>rfl
theorem nG.store {s:List UInt8} {p:Nat} {b:aN} {h:af} {z b':b4} {res:rI} {x:V} {aa:af} (w:nG s p b (h.new z) res x aa) (gE:Old h b):nG s p b h res x (aa.set (ai h.next) b'):=by
 have cN:¬(ai h.next=b):=by
  intro q
  have:e9 b<h.next:=gE
  rw [←q,c8] at this
  omega
 obtain ⟨hm,k,n,t,ak,aG⟩:=w
 refine ⟨((((Ext.refl h).new z).mod _).trans hm).fresh (Nat.le_refl _) _,k,n,t,ak,?_⟩
 cases res with
 | ok q=>simpa only [c0,if_neg cN] using aG
 | error e=>simpa only [c0,if_neg cN] using aG
theorem abN (s:List UInt8) (a0:Nat) (b:aN) (h:af) (ah:h.get b=e_ s a0 0) (a6:a0<s.length) (aO:s.length≤100000) (gE:Old h b):
 b_ Tryz.prog 127 [.ptr b 0] h (nG s a0 b h (gT (s.drop a0))):=by
 refine Sq rfl (eA ?_)
 unfold DQ
 have bO:(b=ai h.next)=False:=yI gE (Nat.le_refl _)
 have cN:(ai h.next=b)=False:=by rw [←bO];exact propext eq_comm
 have ik:=ah
 unfold e_ at ah
 have f0:(0≤(a0:Int))=True:=eq_true (by omega)
 have f1:((a0:Int) < (s.length:Int))=True:=eq_true (by omega)
 have ak:Ext h (h.new (.bg [.int .i64 0,.int .i64 0,.int .i64 0,.str []] 0 false)):=(Ext.refl h).new _
 have vM:Old (h.new (.bg [.int .i64 0,.int .i64 0,.int .i64 0,.str []] 0 false)) b:=ak.bY gE
 have xP:(h.new (.bg [.int .i64 0,.int .i64 0,.int .i64 0,.str []] 0 false)).get b=e_ s a0 0:=by rw [ak.get _ gE,ik]
 have vo:∀{res:rI} {x:V} {aa:af},nG s a0 b (h.new (.bg [.int .i64 0,.int .i64 0,.int .i64 0,.str []] 0 false)) res x aa→aa.get (ai h.next)=.bg [.int .i64 0,.int .i64 0,.int .i64 0,.str []] 0 false:=by
  intro res x aa w
  rw [w.mod.get _ (e3 (by rw [fs];omega)) (by rw [cN];exact id)]
  simp only [↓aA,aI,simprocAttr]
 have aX:=drop_cons a6
 rw [aX]
 have dg:mZ ((s[a0]).toNat:Int)=fc s[a0]:=rfl
 have kC:(((s[a0]).toNat:Int)=34)=(s[a0]=34):=wV _ 34 (by omega)
 have rR:(((s[a0]).toNat:Int)=95)=(s[a0]=95):=wV _ 95 (by omega)
 have vc:(((s[a0]).toNat:Int)=39)=(s[a0]=39):=wV _ 39 (by omega)
 simp +contextual only [ah,bO,cN,f0,f1,List.getElem?_eq_getElem a6,Int.toNat_natCast,↓aA,aI,simprocAttr]
 refine hK (va _ _) ?_
 rw [dg]
 cases aa:fc s[a0] with
 | true=>
   have dT:gT (s[a0]::s.drop (a0+1))=wy (s.drop a0):=by rw [aX];simp only [gT,aa,if_true]
   rw [dT]
   simp +contextual only [ah,bO,cN,f0,f1,List.getElem?_eq_getElem a6,Int.toNat_natCast,↓aA,aI,simprocAttr]
   refine bM (abX s a0 b _ xP a6 aO vM aa) ?_
   rintro x ag w
   have g1:=vo w
   obtain ⟨k,n,t,rfl,_⟩:=w.res
   simp +contextual only [g1,ah,bO,cN,f0,f1,↓aA,aI,simprocAttr]
   exact w.store gE
 | false=>
   by_cases ae:s[a0]=34
   · have dT:gT (s[a0]::s.drop (a0+1))=rj (s.drop (a0+1)):=by simp only [gT];rw [if_neg (by rw [aa];exact Bool.false_ne_true),if_pos ae]
     rw [dT]
     replace ae:=eq_true ae
     simp +contextual only [ah,bO,cN,f0,f1,kC,ae,List.getElem?_eq_getElem a6,Int.toNat_natCast,↓aA,aI,simprocAttr]
     refine bM (aeE s a0 b _ xP a6 aO vM) ?_
     rintro x ag w
     have g1:=vo w
     obtain ⟨k,n,t,rfl,_⟩:=w.res
     simp +contextual only [g1,ah,bO,cN,f0,f1,↓aA,aI,simprocAttr]
     exact w.store gE
   simp +contextual only [ah,bO,cN,f0,f1,kC,ae,List.getElem?_eq_getElem a6,Int.toNat_natCast,↓aA,aI,simprocAttr]
   refine hK (Cu _ _) ?_
   by_cases aH:(iA ((s[a0]).toNat:Int)||decide (s[a0]=95))=true
   · have dT:gT (s[a0]::s.drop (a0+1))=j1 3 (s.drop a0):=by rw [aX];simp only [gT,aa,ae,aH,Bool.false_eq_true,if_false,if_true]
     rw [dT]
     have fin:px Tryz.prog 144 [.ptr b 0,.int .i64 3] (some 33) none [] [] (fun _=>.bad) h (fun _ _ _=>True)→True:=fun _=>trivial
     cases hO:iA ((s[a0]).toNat:Int) with
     | true=>
       simp +contextual only [ah,bO,cN,f0,f1,kC,ae,hO,List.getElem?_eq_getElem a6,Int.toNat_natCast,↓aA,aI,simprocAttr]
       refine bM (BL s a0 3 b _ xP (by omega) aO vM) ?_
       rintro x ag w
       have g1:=vo w
       obtain ⟨k,n,t,rfl,_⟩:=w.res
       simp +contextual only [g1,ah,bO,cN,f0,f1,↓aA,aI,simprocAttr]
       exact w.store gE
     | false=>
       rw [hO,Bool.false_or,decide_eq_true_eq] at aH
       replace aH:=eq_true aH
       simp +contextual only [ah,bO,cN,f0,f1,kC,rR,ae,aH,hO,List.getElem?_eq_getElem a6,Int.toNat_natCast,↓aA,aI,simprocAttr]
       refine bM (BL s a0 3 b _ xP (by omega) aO vM) ?_
       rintro x ag w
       have g1:=vo w
       obtain ⟨k,n,t,rfl,_⟩:=w.res
       simp +contextual only [g1,ah,bO,cN,f0,f1,↓aA,aI,simprocAttr]
       exact w.store gE
   · have K8:=aH
     rw [Bool.not_eq_true,Bool.or_eq_false_iff,decide_eq_false_iff_not] at K8
     obtain ⟨Wf,Wg⟩:=K8
     simp +contextual only [ah,bO,cN,f0,f1,kC,rR,ae,Wf,Wg,List.getElem?_eq_getElem a6,Int.toNat_natCast,↓aA,aI,simprocAttr]
     refine hK (K5 _ _) ?_
     cases bf:nN ((s[a0]).toNat:Int) with
     | true=>
       have dT:gT (s[a0]::s.drop (a0+1))=j1 4 (s.drop a0):=by rw [aX];simp only [gT,aa,ae,aH,bf,Bool.false_eq_true,if_false,if_true]
       rw [dT]
       simp +contextual only [ah,bO,cN,f0,f1,List.getElem?_eq_getElem a6,Int.toNat_natCast,↓aA,aI,simprocAttr]
       refine bM (BL s a0 4 b _ xP (by omega) aO vM) ?_
       rintro x ag w
       have g1:=vo w
       obtain ⟨k,n,t,rfl,_⟩:=w.res
       simp +contextual only [g1,ah,bO,cN,f0,f1,↓aA,aI,simprocAttr]
       exact w.store gE
     | false=>
       have bT:IntKind.i64.wrap ((a0:Int)+1)=((a0+1:Nat):Int):=by rw [wrap_i64 (by omega) (by omega)];rfl
       have f2:(0≤((a0+1:Nat):Int))=True:=eq_true (by omega)
       by_cases cB:s[a0]=39∧pK (s.drop (a0+1))
       · have dT:gT (s[a0]::s.drop (a0+1))=(j1 5 (s.drop (a0+1))).map fun q=>(q.1,q.2.1,q.2.2.1,q.2.2.2+1):=by simp only [gT];rw [if_neg (by rw [aa];exact Bool.false_ne_true),if_neg ae,if_neg aH,if_neg (by rw [bf];exact Bool.false_ne_true),if_pos cB]
         rw [dT]
         obtain ⟨AN,AO⟩:=cB
         replace AN:=eq_true AN
         have aW:a0+1<s.length:=by
          by_cases q:a0+1<s.length
          · exact q
          · rw [List.drop_eq_nil_of_le (by omega)] at AO
            cases AO
         rw [drop_cons aW] at AO
         have f3:(((a0+1:Nat):Int) < (s.length:Int))=True:=eq_true (by omega)
         simp +contextual (maxSteps:=1000000) only [ah,bO,cN,f0,f1,f2,f3,bT,kC,rR,vc,ae,AN,List.getElem?_eq_getElem a6,List.getElem?_eq_getElem aW,Int.toNat_natCast,↓aA,aI,simprocAttr]
         refine hK (Cu _ _) ?_
         rw [show iA ((s[a0+1]).toNat:Int)=true from AO]
         simp +contextual (maxSteps:=1000000) only [ah,bO,cN,f0,f1,f2,f3,bT,kC,rR,vc,ae,AN,List.getElem?_eq_getElem a6,List.getElem?_eq_getElem aW,Int.toNat_natCast,↓aA,aI,simprocAttr]
         have LJ:Mod (fun q=>q=b) (h.new (.bg [.int .i64 0,.int .i64 0,.int .i64 0,.str []] 0 false)) ((h.new (.bg [.int .i64 0,.int .i64 0,.int .i64 0,.str []] 0 false)).set b (.bg [.str s,.int .i64 ((a0+1:Nat):Int),.int .i64 0] 0 false)):=(Mod.refl _ _).self _
         refine bM (BL s (a0+1) 5 b _ (by rw [c0,if_pos rfl];rfl) (by omega) aO (LJ.bY vM)) ?_
         rintro x ag w
         have aj:nG s a0 b (h.new (.bg [.int .i64 0,.int .i64 0,.int .i64 0,.str []] 0 false)) ((j1 5 (s.drop (a0+1))).map fun q=>(q.1,q.2.1,q.2.2.1,q.2.2.2+1)) x ag:=by
          obtain ⟨afb,k,n,t,afl,wr⟩:=w
          refine ⟨LJ.trans afb,k,n,t,afl,?_⟩
          cases aS:j1 5 (s.drop (a0+1)) with
          | error e=>rw [aS] at wr;exact wr
          | ok q=>
            rw [aS] at wr
            obtain ⟨bS,b7,cT,fB,hd⟩:=wr
            refine ⟨bS,b7,cT,?_,?_⟩
            · rw [fB]
              show e_ s ((a0+1+q.2.2.2:Nat):Int) 0=e_ s ((a0 + (q.2.2.2+1):Nat):Int) 0
              rw [show a0+1+q.2.2.2=a0 + (q.2.2.2+1) from by omega]
            · show a0 + (q.2.2.2+1)≤s.length
              omega
         have g1:=vo aj
         obtain ⟨k,n,t,rfl,_⟩:=aj.res
         simp +contextual only [g1,ah,bO,cN,f0,f1,↓aA,aI,simprocAttr]
         exact aj.store gE
       · have dT:gT (s[a0]::s.drop (a0+1))=wO (s.drop a0):=by rw [aX];simp only [gT];rw [if_neg (by rw [aa];exact Bool.false_ne_true),if_neg ae,if_neg aH,if_neg (by rw [bf];exact Bool.false_ne_true),if_neg cB]
         rw [dT]
         have WJ:((s[a0]=39)=False)∨(((s[a0]=39)=True)∧¬a0+1<s.length)∨(((s[a0]=39)=True)∧∃aW:a0+1<s.length,iA ((s[a0+1]).toNat:Int)=false):=by
          by_cases q:s[a0]=39
          · by_cases aW:a0+1<s.length
            · refine .inr (.inr ⟨eq_true q,aW,?_⟩)
              cases av:iA ((s[a0+1]).toNat:Int) with
              | false=>rfl
              | true=>exact absurd ⟨q,by rw [drop_cons aW];exact av⟩ cB
            · exact .inr (.inl ⟨eq_true q,aW⟩)
          · exact .inl (eq_false q)
         have two:∀t ∈ jb,t.length≤2:=by decide
         have u7:((17:Nat):Int)=17:=rfl
         rcases WJ with au | ⟨au,az⟩ | ⟨au,aW,az⟩
         case' neg.inl=>
          simp +contextual (maxSteps:=1000000) only [ah,bO,cN,f0,f1,f2,bT,kC,rR,vc,ae,au,List.getElem?_eq_getElem a6,Int.toNat_natCast,↓aA,aI,simprocAttr]
         case' neg.inr.inl=>
          have f3:(((a0+1:Nat):Int) < (s.length:Int))=False:=eq_false (by omega)
          simp +contextual (maxSteps:=1000000) only [ah,bO,cN,f0,f1,f2,f3,bT,kC,rR,vc,ae,au,List.getElem?_eq_getElem a6,Int.toNat_natCast,↓aA,aI,simprocAttr]
         case' neg.inr.inr=>
          have f3:(((a0+1:Nat):Int) < (s.length:Int))=True:=eq_true (by omega)
          simp +contextual (maxSteps:=1000000) only [ah,bO,cN,f0,f1,f2,f3,bT,kC,rR,vc,ae,au,List.getElem?_eq_getElem a6,List.getElem?_eq_getElem aW,Int.toNat_natCast,↓aA,aI,simprocAttr]
          refine hK (Cu _ _) ?_
          rw [az]
          simp +contextual (maxSteps:=1000000) only [ah,bO,cN,f0,f1,f2,f3,bT,kC,rR,vc,ae,au,List.getElem?_eq_getElem a6,List.getElem?_eq_getElem aW,Int.toNat_natCast,↓aA,aI,simprocAttr]
         all_goals
          refine bM (ad0 _) ?_
          rintro x ag ⟨rfl,rfl⟩
          simp +contextual only [↓aA,aI,simprocAttr]
          refine ll (fun r ab=>r 0=.ptr b 0∧r 2=.ptr (ai h.next) 0∧r 77=.slice (ai (h.next+1)) 0 17 17∧r 78=.int .i64 17∧∃i:Nat,i≤17∧r 79=.int .i64 i∧ab=(h.new (.bg [.int .i64 0,.int .i64 0,.int .i64 0,.str []] 0 false)).new (.bg wP 0 false)∧
           jb.find? (·.isPrefixOf (s.drop a0))=(jb.drop i).find? (·.isPrefixOf (s.drop a0))) (fun r ab=>17 - (r 79).toN) ?_ ?_
          · exact ⟨by simp only [↓aA,aI,simprocAttr],by simp only [↓aA,aI,simprocAttr],by simp only [↓aA,aI,simprocAttr],by simp only [u7,↓aA,aI,simprocAttr],0,by omega,by simp only [↓aA,aI,simprocAttr]<;>rfl,rfl,rfl⟩
          · rintro r ab ⟨bQ,b7,Cc,Cd,i,aF,Ce,rfl,r2⟩
            unfold JJ
            have LM:Old ((h.new (.bg [.int .i64 0,.int .i64 0,.int .i64 0,.str []] 0 false)).new (.bg wP 0 false)) b:=(ak.new _).bY gE
            have tC:((h.new (.bg [.int .i64 0,.int .i64 0,.int .i64 0,.str []] 0 false)).new (.bg wP 0 false)).get b=.bg [.str s,.int .i64 a0,.int .i64 0] 0 false:=by rw [(ak.new _).get _ gE,ah]
            have yH:(b=ai (h.next+1))=False:=yI gE (by omega)
            have zX:(ai (h.next+1)=b)=False:=by rw [←yH];exact propext eq_comm
            by_cases mr:i<17
            · have g0:((i:Int)<17)=True:=eq_true (by omega)
              have g1:(0≤(i:Int))=True:=eq_true (by omega)
              rw [Vv _ mr] at r2
              have hlen:=two _ (List.getElem_mem (h:=(show i<jb.length from mr)))
              simp +contextual only [u7,bQ,b7,Cc,Cd,Ce,g0,g1,bO,cN,yH,zX,Int.toNat_natCast,Nat.mul_one,adY mr,↓aA,aI,simprocAttr]
              refine hK (E_ s _ (a0:Int) [.int .i64 0] b 0 false _ tC (by omega) (by omega)) ?_
              rw [Int.toNat_natCast]
              cases pT:(jb[i]'mr).isPrefixOf (s.drop a0) with
              | true=>
                rw [pT,if_pos rfl] at r2
                have mq:(jb[i]'mr).length≤s.length-a0:=by
                 rw [List.isPrefixOf_iff_prefix] at pT
                 have:=pT.length_le
                 rwa [List.length_drop] at this
                have iD:IntKind.i64.wrap ((a0:Int) + ((jb[i]'mr).length:Int))=((a0 + (jb[i]'mr).length:Nat):Int):=by rw [wrap_i64 (by omega) (by omega)];rfl
                simp +contextual only [u7,bQ,b7,Cc,Cd,Ce,g0,g1,iD,bO,cN,yH,zX,ah,↓aA,aI,simprocAttr]
                unfold wO
                rw [r2]
                refine ⟨(((ak.new _).mod _).self _).fresh (Nat.le_refl _) _,_,_,_,rfl,rfl,rfl,rfl,?_,by show a0 + (jb[i]'mr).length≤s.length;omega⟩
                simp only [e_,bO,cN,↓aA,aI,simprocAttr]
              | false=>
                rw [pT,if_neg Bool.false_ne_true] at r2
                have iD:IntKind.i64.wrap ((i:Int)+1)=((i+1:Nat):Int):=by rw [wrap_i64 (by omega) (by omega)];rfl
                simp +contextual only [u7,bQ,b7,Cc,Cd,Ce,g0,g1,iD,bO,cN,yH,zX,ah,↓aA,aI,simprocAttr]
                exact ⟨⟨i+1,by omega,rfl,r2⟩,by omega⟩
            · obtain rfl:i=17:=by omega
              have cZ:jb.find? (·.isPrefixOf (s.drop a0))=none:=by rw [r2];rfl
              have g0:((17:Int)<17)=False:=eq_false (by omega)
              simp +contextual only [u7,bQ,b7,Cc,Cd,Ce,g0,tC,bO,cN,yH,zX,ah,↓aA,aI,simprocAttr]
              unfold wO
              rw [cZ]
              refine ⟨(((ak.new _).mod _).self _).fresh (Nat.le_refl _) _,_,_,_,rfl,by decide,(a0:Int),?_⟩
              simp only [e_,bO,cN,↓aA,aI,simprocAttr]
theorem K0 (s:List UInt8) (i:Nat):(ByteArray.mk ⟨s⟩).get! i=(s[i]?).getD 0:=by
 show (Array.mk s)[i]! =_
 simp
 rfl
theorem UM (s:List UInt8) (a:Nat):Lib.decodeGo ⟨⟨s.drop a⟩⟩=if a<s.length then decodeL s a else (65533,0):=by
 unfold Lib.decodeGo decodeL
 have bs:(ByteArray.mk ⟨s.drop a⟩).size=s.length-a:=by
  show (s.drop a).length=_
  rw [List.length_drop]
 have pZ:(ByteArray.mk ⟨s⟩).size=s.length:=rfl
 by_cases bd:a<s.length
 · rw [if_pos bd,if_neg (by rw [bs];omega),Lib.decode_at,Lib.decode_at,bs,pZ]
   simp only [K0,List.getElem?_drop,Nat.add_zero,Nat.sub_zero,Nat.zero_add]
 · rw [if_neg bd,if_pos (by rw [bs];omega)]
theorem abL {h:af} {b:aN} {s:List UInt8} {a:Nat} (aE:h.get b=.iter s a):
 uk (.ptr b 0) h=if a<s.length then .val (.tuple [.bool true,.int .i64 a,.int .i32 (decodeL s a).1]) (h.set b (.iter s (a + (decodeL s a).2))) else .val (.tuple [.bool false]) h:=by
 unfold uk
 simp only [V.iY,aE]
 rw [show Nat.beq 0 0=true from rfl]
 simp only [cond_true]
 by_cases bd:a<s.length
 · rw [if_pos bd,show Nat.blt a s.length=true from by rw [Nat.blt_eq];exact bd]
   rfl
 · rw [if_neg bd,show Nat.blt a s.length=false from by rw [←Bool.not_eq_true,Nat.blt_eq];exact bd]
   rfl
def YM (s:List UInt8):b4→Nat
 | .iter _ a=>s.length-a
 | _=>0
theorem UK (s:List UInt8) (a:Nat):1≤(decodeL s a).2:=by
 unfold decodeL
 rw [Lib.decode_at]
 unfold Lib.decodeN
 repeat' split
 all_goals simp
theorem adB (s:List UInt8) (aO:s.length≤100000) (h:af):b_ Tryz.prog 123 [.str s] h fun x ab=>x=.int .i64 (sx s:Nat)∧Ext h ab:=by
 refine Sd rfl (eA ?_)
 unfold DM
 simp +contextual only [↓aA,aI,simprocAttr]
 refine ll (fun r ab=>r 0=.str s∧r 8=.ptr (ai h.next) 0∧Ext h ab∧∃a,ab.get (ai h.next)=.iter s a∧sx s=qa s a) (fun r ab=>YM s (ab.get (ai h.next))) ?_ ?_
 · exact ⟨by simp only [↓aA,aI,simprocAttr],by simp only [↓aA,aI,simprocAttr],(Ext.refl h).new _,0,by simp only [↓aA,aI,simprocAttr],rfl⟩
 · rintro r ab ⟨bQ,p_,ak,a,aE,bd⟩
   unfold JH
   have lP:=abL aE
   by_cases aW:a<s.length
   · rw [if_pos aW] at lP
     have ag:=UK s a
     by_cases aD:(decodeL s a).1=65533
     · have oN:(((decodeL s a).1:Int)=65533)=True:=eq_true (by omega)
       have f0:(0≤(a:Int))=True:=eq_true (by omega)
       have f1:((a:Int)≤(s.length:Int))=True:=eq_true (by omega)
       simp +contextual only [bQ,p_,lP,oN,f0,f1,Int.toNat_natCast,↓aA,aI,simprocAttr]
       refine hK (UL _ _) ?_
       rw [UM,if_pos aW]
       by_cases hw:(decodeL s a).2=1
       · have Gk:(((decodeL s a).2:Int)=1)=True:=eq_true (by omega)
         have tx:mi s a=0:=by unfold mi;rw [if_pos (Prod.ext aD hw)]
         rw [adA aW tx] at bd
         simp +contextual only [bQ,p_,lP,oN,Gk,f0,f1,Int.toNat_natCast,↓aA,aI,simprocAttr]
         rw [bd]
         exact ⟨rfl,ak.set (Nat.le_refl _) _⟩
       · have Gk:(((decodeL s a).2:Int)=1)=False:=eq_false (by omega)
         have tx:mi s a=(decodeL s a).2:=by unfold mi;rw [if_neg (fun q=>hw (congrArg Prod.snd q))]
         rw [HR aW (by rw [tx];omega),tx] at bd
         simp +contextual only [bQ,p_,lP,oN,Gk,f0,f1,Int.toNat_natCast,↓aA,aI,simprocAttr]
         refine ⟨⟨ak.set (Nat.le_refl _) _,_,rfl,bd⟩,?_⟩
         rw [aE]
         show s.length - (a + (decodeL s a).2)<s.length-a
         omega
     · have oN:(((decodeL s a).1:Int)=65533)=False:=eq_false (by omega)
       have tx:mi s a=(decodeL s a).2:=by unfold mi;rw [if_neg (fun q=>aD (congrArg Prod.fst q))]
       rw [HR aW (by rw [tx];omega),tx] at bd
       simp +contextual only [bQ,p_,lP,oN,Int.toNat_natCast,↓aA,aI,simprocAttr]
       refine ⟨⟨ak.set (Nat.le_refl _) _,_,rfl,bd⟩,?_⟩
       rw [aE]
       show s.length - (a + (decodeL s a).2)<s.length-a
       omega
   · rw [if_neg aW] at lP
     rw [OT (by omega)] at bd
     simp +contextual only [bQ,p_,lP,Int.toNat_natCast,↓aA,aI,simprocAttr]
     rw [bd]
     exact ⟨rfl,ak⟩
def ca.enc (w:ca):List V:=[.int .i64 w.kind,.int .i64 w.num,.int .i64 w.pos,.str w.text]
def pd:List ca→List V
 | []=>[]
 | w::ws=>w.enc++pd ws
theorem P1:∀a b:List ca,pd (a++b)=pd a++pd b
 | [],b=>rfl
 | w::a,b=>by simp only [pd,List.cons_append,P1 a b,List.append_assoc]
def ss (ws:List ca):Except (Int × Nat) (List ca)→Except (Int × Nat) (List ca)
 | .ok bP=>.ok (ws++bP)
 | .error e=>.error e
theorem acW (ws:List ca) (w:ca) (r:Except (Int × Nat) (List ca)):ss ws (xB w r)=ss (ws++[w]) r:=by
 cases r with
 | ok bP=>simp [ss,xB]
 | error e=>rfl
theorem acX (r:Except (Int × Nat) (List ca)):ss [] r=r:=by cases r<;>rfl
def Qw (s:List UInt8) (h:af) (x:V) (ab:af):Prop:=Ext h ab∧match nm s with
 | .ok ws=>∃v,x=.tuple [v,.agg [.int .i64 0,.int .i64 0]]∧dL h.next ab 4 v ws.length (pd ws)
 | .error e=>x=.tuple [.cq,.agg [.int .i64 e.1,.int .i64 e.2]]
theorem Jx (c:UInt8):(0≤Lib.indexByte [9,10,13,32] c)=(blank c=true):=by
 have a6:∀d:UInt8,(d == c)=decide (c=d):=fun d=>by
  by_cases q:c=d
  · subst q;simp
  · have ew:¬d=c:=fun e=>q e.symm
    simp [q,ew]
 simp only [Lib.indexByte,a6,blank]
 by_cases aa:c=9
 · subst aa;decide
 · by_cases ae:c=10
   · subst ae;decide
   · by_cases aH:c=13
     · subst aH;decide
     · by_cases bf:c=32
       · subst bf;decide
       · simp [aa,ae,aH,bf]
theorem aa9 (s:List UInt8) (h:af):b_ Tryz.prog 104 [.str s] h (Qw s h):=by
 refine R9 rfl (eA ?_)
 unfold DL
 by_cases Lz:(65536:Int) < (s.length:Int)
 · simp +contextual only [Lz,↓aA,aI,simprocAttr]
   refine ⟨((Ext.refl h).new _).set (Nat.le_refl _) _,?_⟩
   unfold nm
   rw [if_pos (by omega)]
   rfl
 simp +contextual only [Lz,↓aA,aI,simprocAttr]
 refine bM (adB s (by omega) _) ?_
 rintro x aa ⟨rfl,Gl⟩
 have ak:Ext h (h.new (.bg [.int .i64 0,.int .i64 0] 0 false)):=(Ext.refl h).new _
 have v8:=ak.trans Gl
 have g1:aa.get (ai h.next)=.bg [.int .i64 0,.int .i64 0] 0 false:=by
  rw [Gl.get _ (e3 (by rw [fs];omega))]
  simp only [↓aA,aI,simprocAttr]
 have q6:h.next+1≤aa.next:=Gl.next
 have cu:(ai aa.next=ai h.next)=False:=by rw [q8];exact eq_false (by omega)
 have cz:(ai h.next=ai aa.next)=False:=by rw [q8];exact eq_false (by omega)
 have nn:(aa.next=h.next)=False:=eq_false (by omega)
 have np:(h.next=aa.next)=False:=eq_false (by omega)
 have hlen:¬65536<s.length:=by omega
 by_cases aG:sx s<s.length
 · have qS:((sx s:Int) < (s.length:Int))=True:=eq_true (by omega)
   simp +contextual only [qS,g1,cu,cz,nn,np,↓aA,aI,simprocAttr]
   refine ⟨v8.set (Nat.le_refl _) _,?_⟩
   unfold nm
   rw [if_neg hlen,if_pos aG]
 have qS:((sx s:Int) < (s.length:Int))=False:=eq_false (by omega)
 have k8:nm s=p5 s 0:=by unfold nm;rw [if_neg hlen,if_neg aG]
 simp +contextual only [qS,g1,cu,cz,nn,np,↓aA,aI,simprocAttr]
 have Yg:Ext h (aa.new (.bg [.str s,.int .i64 0,.int .i64 0] 0 false)):=v8.new _
 refine ll (fun r ab=>r 0=.str s∧r 3=.ptr (ai h.next) 0∧r 5=.ptr (ai aa.next) 0∧∃(a:Nat) (ws:List ca) (v:V),r 6=v∧ab.get (ai aa.next)=.bg [.str s,.int .i64 a,.int .i64 0] 0 false∧a≤s.length∧ws.length≤a∧
  ab.get (ai h.next)=.bg [.int .i64 0,.int .i64 0] 0 false∧Ext h ab∧aa.next+1≤ab.next∧dL (aa.next+1) ab 4 v ws.length (pd ws)∧nm s=ss ws (p5 (s.drop a) a))
  (fun r ab=>s.length - ((j0 (ab.get (ai aa.next)) 1).getD .bad).toN) ?_ ?_
 · refine ⟨by simp only [↓aA,aI,simprocAttr],by simp only [↓aA,aI,simprocAttr],by simp only [↓aA,aI,simprocAttr],0,[],.cq,by simp only [↓aA,aI,simprocAttr],by simp only [↓aA,aI,simprocAttr]<;>rfl,by omega,by simp,by simp only [g1,cu,nn,cz,np,↓aA,aI,simprocAttr],Yg,?_,⟨rfl,rfl⟩,?_⟩
   · rw [fs];exact Nat.le_refl _
   · rw [k8,List.drop_zero,acX]
 · rintro r ab ⟨bQ,cT,hd,a,ws,v,ez,aE,bX,kw,bs,Bl,lP,eo,bA⟩
   unfold JG
   have gE:Old ab (ai aa.next):=e3 (by omega)
   by_cases fU:(s.length:Int)≤(a:Int)
   · have bd:a=s.length:=by omega
     have A':nm s=.ok ws:=by
      rw [bA,bd,List.drop_length]
      show Except.ok (ws++[])=_
      rw [List.append_nil]
     simp +contextual only [bQ,cT,hd,ez,aE,bs,fU,cu,cz,nn,np,↓aA,aI,simprocAttr]
     refine ⟨Bl.set (Nat.le_refl _) _,?_⟩
     rw [A']
     refine ⟨v,rfl,?_⟩
     have:=eo.mod ((Mod.refl (fun q=>q=ai h.next) ab).self (.bg [.int .i64 0,.int .i64 0] 0 false)) (fun q av e=>by
      have ae:=eo.base av
      rw [show q=ai h.next from e,c8] at ae
      omega)
     exact this.mono (by omega)
   · have aW:a<s.length:=by omega
     rw [drop_cons aW,MX,←drop_cons aW] at bA
     have f0:(0≤(a:Int))=True:=eq_true (by omega)
     have f1:((a:Int) < (s.length:Int))=True:=eq_true (by omega)
     have bT:IntKind.i64.wrap ((a:Int)+1)=((a+1:Nat):Int):=by rw [wrap_i64 (by omega) (by omega)];rfl
     simp +contextual only [bQ,cT,hd,ez,aE,bs,fU,cu,cz,nn,np,f0,f1,List.getElem?_eq_getElem aW,Int.toNat_natCast,↓aA,aI,simprocAttr]
     refine hK (Ml _ _ _) ?_
     rw [PM]
     by_cases AU:blank s[a]=true
     · have Ff:(0≤Lib.indexByte [9,10,13,32] s[a])=True:=by rw [Jx,AU];exact eq_self _
       rw [if_pos AU] at bA
       simp +contextual only [Ff,bT,bQ,cT,hd,ez,aE,bs,fU,cu,cz,nn,np,f0,f1,List.getElem?_eq_getElem aW,Int.toNat_natCast,↓aA,aI,simprocAttr]
       refine ⟨⟨a+1,ws,rfl,by omega,by omega,Bl.set (by omega) _,lP,?_,bA⟩,by omega⟩
       exact eo.mod ((Mod.refl (fun q=>q=ai aa.next) ab).self _) (fun q av e=>by
        have ae:=eo.base av
        rw [show q=ai aa.next from e,c8] at ae
        omega)
     · have Ff:(0≤Lib.indexByte [9,10,13,32] s[a])=False:=by rw [Jx];exact eq_false AU
       rw [if_neg AU] at bA
       simp +contextual only [Ff,bT,bQ,cT,hd,ez,aE,bs,fU,cu,cz,nn,np,f0,f1,List.getElem?_eq_getElem aW,Int.toNat_natCast,↓aA,aI,simprocAttr]
       have x6:=E_ s [40,42] (a:Int) [.int .i64 0] (ai aa.next) 0 false ab aE (by omega) (by omega)
       rw [Int.toNat_natCast] at x6
       refine hK x6 ?_
       cases pT:([40,42]:List UInt8).isPrefixOf (s.drop a) with
       | true=>
         rw [pT,if_pos rfl] at bA
         simp +contextual only [bT,bQ,cT,hd,ez,aE,bs,fU,cu,cz,nn,np,f0,f1,List.getElem?_eq_getElem aW,Int.toNat_natCast,↓aA,aI,simprocAttr]
         refine bM (abW s a 0 (ai aa.next) ab aE bX (by omega) gE) ?_
         rintro x ae ⟨rfl,hm,aS⟩
         have pZ:ae.get (ai h.next)=.bg [.int .i64 0,.int .i64 0] 0 false:=by rw [hm.get _ (e3 (by omega)) (by rw [cz];exact id),bs]
         have Bj:Ext h ae:=Bl.od hm (fun b ah=>by rw [show b=ai aa.next from ah,c8];omega)
         have o5:=hm.next
         have kG:=eo.mod hm (fun q av e=>by
          have ae:=eo.base av
          rw [show q=ai aa.next from e,c8] at ae
          omega)
         cases FX:h8 (s.drop a) 0 with
         | some n=>
           rw [FX] at aS bA
           obtain ⟨g2,hle⟩:=aS
           have x5:=BR FX
           unfold e_ at g2
           simp +contextual only [bT,bQ,cT,hd,ez,g2,aE,pZ,fU,cu,cz,nn,np,f0,f1,List.getElem?_eq_getElem aW,Int.toNat_natCast,↓aA,aI,simprocAttr]
           refine ⟨⟨a+n,ws,rfl,hle,by omega,Bj,by omega,kG,?_⟩,by omega⟩
           rw [bA]
           simp only [List.drop_drop]
         | none=>
           rw [FX] at aS bA
           unfold e_ at aS
           simp +contextual only [bT,bQ,cT,hd,ez,aS,aE,pZ,fU,cu,cz,nn,np,f0,f1,List.getElem?_eq_getElem aW,Int.toNat_natCast,↓aA,aI,simprocAttr]
           refine ⟨Bj.set (Nat.le_refl _) _,?_⟩
           rw [bA]
           rfl
       | false=>
         rw [pT,if_neg Bool.false_ne_true] at bA
         simp +contextual only [bT,bQ,cT,hd,ez,aE,bs,fU,cu,cz,nn,np,f0,f1,List.getElem?_eq_getElem aW,Int.toNat_natCast,↓aA,aI,simprocAttr]
         refine bM (abN s a (ai aa.next) ab aE aW (by omega) gE) ?_
         rintro x ae w
         obtain ⟨hm,k,n,t,rfl,vR⟩:=w
         have pZ:ae.get (ai h.next)=.bg [.int .i64 0,.int .i64 0] 0 false:=by rw [hm.get _ (e3 (by omega)) (by rw [cz];exact id),bs]
         have Bj:Ext h ae:=Bl.od hm (fun b ah=>by rw [show b=ai aa.next from ah,c8];omega)
         have o5:=hm.next
         have kG:=eo.mod hm (fun q av e=>by
          have ae:=eo.base av
          rw [show q=ai aa.next from e,c8] at ae
          omega)
         have m0:(ai ae.next=ai h.next)=False:=by rw [q8];exact eq_false (by omega)
         have m1:(ai ae.next=ai aa.next)=False:=by rw [q8];exact eq_false (by omega)
         have M9:(ae.next=h.next)=False:=eq_false (by omega)
         have Na:(ae.next=aa.next)=False:=eq_false (by omega)
         have Bk:Ext ae (((ae.new (.bg [.int .i64 0,.int .i64 0,.int .i64 0,.str []] 0 false)).set (ai ae.next) (.bg [.int .i64 k,.int .i64 n,.int .i64 0,.str t] 0 false)).set (ai ae.next) (.bg [.int .i64 k,.int .i64 n,.int .i64 a,.str t] 0 false)):=(((Ext.refl ae).new _).set (Nat.le_refl _) _).set (Nat.le_refl _) _
         obtain ⟨v3,aH,au,az,aM,bU,ey⟩:=zR (cs:=[.int .i64 k,.int .i64 n,.int .i64 a,.str t]) (by omega) (kG.ext Bk) (by simp only [nr,fs];omega) (by unfold top;omega) rfl rfl
         simp only [nr,fs] at au bU
         have L_:Ext h aH:=(Bj.trans Bk).od aM (fun b ah=>Nat.le_trans (by omega) (kG.base ah))
         have yj:aH.get (ai h.next)=.bg [.int .i64 0,.int .i64 0] 0 false:=by
          rw [aM.get _ (e3 (by simp only [nr,fs];omega)) (fun av=>by have:=kG.base av;rw [c8] at this;omega),Bk.get _ (e3 (by omega)),pZ]
         have mn:aH.get (ai aa.next)=ae.get (ai aa.next):=by
          rw [aM.get _ (e3 (by simp only [nr,fs];omega)) (fun av=>by have:=kG.base av;rw [c8] at this;omega),Bk.get _ (e3 (by omega))]
         cases lP:gT (s.drop a) with
         | ok q=>
           have x5:=G3 lP
           rw [lP] at vR bA
           obtain ⟨rfl,rfl,rfl,g2,hle⟩:=vR
           unfold e_ at g2
           rw [g2] at mn
           simp +contextual only [au,m0,m1,M9,Na,bT,bQ,cT,hd,ez,g2,mn,aE,pZ,fU,cu,cz,nn,np,f0,f1,List.getElem?_eq_getElem aW,Int.toNat_natCast,↓aA,aI,simprocAttr]
           refine ⟨⟨a+q.2.2.2,ws++[⟨q.1,q.2.1,a,q.2.2.1⟩],rfl,hle,by simp;omega,yj,L_,by omega,?_,?_⟩,by omega⟩
           · rw [List.length_append,P1]
             exact az
           · rw [bA,acW]
             simp only [List.drop_drop]
         | error e=>
           rw [lP] at vR bA
           obtain ⟨he,bh,g2⟩:=vR
           unfold e_ at g2
           rw [g2] at mn
           simp +contextual only [he,au,m0,m1,M9,Na,bT,bQ,cT,hd,ez,g2,mn,yj,aE,pZ,fU,cu,cz,nn,np,f0,f1,List.getElem?_eq_getElem aW,Int.toNat_natCast,↓aA,aI,simprocAttr]
           refine ⟨L_.set (Nat.le_refl _) _,?_⟩
           rw [bA]
           rfl
def Fl:List UInt8→Bool
 | d::_=>nN d.toNat
 | []=>false
def nq (k:Int) (s:List UInt8):Bool:=
 decide (s≠[])&&decide (s.length≤64)&&s.all gf&&(if k=3 then (pK s||s.head? == some 95)&&!decide (s=[95])&&!q0 s else if k=4 then Fl s else pK s)
theorem Rw {s:List UInt8} (h:∀c ∈ s,c.toNat<128):sx s=s.length:=by
 have aD:∀a,a<s.length→mi s a=1:=by
  intro a bd
  have aX:decodeL s a=((s[a]).toNat,1):=by
   unfold decodeL
   rw [Lib.decode_at]
   simp only [K0,List.getElem?_eq_getElem bd,Option.getD_some]
   unfold Lib.decodeN
   rw [if_pos (h _ (List.getElem_mem bd))]
  unfold mi
  rw [aX,if_neg (by
   have:=h _ (List.getElem_mem bd)
   simp only [Prod.mk.injEq,and_true]
   omega)]
 have:∀n a,s.length-a=n→a≤s.length→qa s a=s.length:=by
  intro n
  induction n with
  | zero=>intro a aa ae;exact OT (by omega)
  | succ n bj=>
    intro a aa ae
    have aW:a<s.length:=by omega
    rw [HR aW (by rw [aD a aW];decide),aD a aW]
    exact bj _ (by omega) (by omega)
 exact this s.length 0 (by omega) (by omega)
theorem aa8 {s:List UInt8} (h:∀c ∈ s,c.toNat<128):nm s=if 65536<s.length then .error (3,0) else p5 s 0:=by
 unfold nm
 rw [Rw h,if_neg (Nat.lt_irrefl _)]
theorem abm {c:UInt8} (h:gf c=true):blank c=false∧c≠40:=by
 constructor
 · cases ah:blank c with
   | false=>rfl
   | true=>
     unfold blank at ah
     simp only [Bool.or_eq_true,decide_eq_true_eq] at ah
     rcases ah with ((rfl | rfl) | rfl) | rfl<;>exact absurd h (by decide)
 · rintro rfl
   exact absurd h (by decide)
theorem abQ {c:UInt8} (h:c≠40) (r:List UInt8):([40,42]:List UInt8).isPrefixOf (c::r)=false:=by
 have:((40:UInt8) == c)=false:=by rw [beq_eq_false_iff_ne];exact fun q=>h q.symm
 simp [List.isPrefixOf,this]
theorem Pc {c:UInt8} (h:iA c.toNat=true):fc c=false∧c≠34:=by
 unfold iA at h
 simp only [Bool.and_eq_true,decide_eq_true_eq] at h
 refine ⟨?_,by rintro rfl;exact absurd h (by decide)⟩
 unfold fc mZ
 simp only [Bool.and_eq_false_iff,decide_eq_false_iff_not]
 omega
theorem Wb {c:UInt8} (h:nN c.toNat=true):fc c=false∧c≠34∧iA c.toNat=false∧c≠95:=by
 unfold nN at h
 simp only [Bool.and_eq_true,decide_eq_true_eq] at h
 refine ⟨?_,by rintro rfl;exact absurd h (by decide),?_,by rintro rfl;exact absurd h (by decide)⟩
 · unfold fc mZ
   simp only [Bool.and_eq_false_iff,decide_eq_false_iff_not]
   omega
 · unfold iA
   simp only [Bool.and_eq_false_iff,decide_eq_false_iff_not]
   omega
theorem abF {k:Int} {s:List UInt8} (h:nq k s=true):s≠[]∧s.length≤64∧s.all gf=true∧(if k=3 then (pK s||s.head? == some 95)&&!decide (s=[95])&&!q0 s else if k=4 then Fl s else pK s)=true:=by
 unfold nq at h
 rw [Bool.and_eq_true,Bool.and_eq_true,Bool.and_eq_true,decide_eq_true_eq,decide_eq_true_eq] at h
 exact ⟨h.1.1.1,h.1.1.2,h.1.2,h.2⟩
theorem abO {c:UInt8} {t:List UInt8} (h:iA c.toNat=true∨c=95):gT (c::t)=j1 3 (c::t):=by
 have aX:fc c=false:=h.elim (fun q=>(Pc q).1) (fun q=>by rw [q];decide)
 have We:c≠34:=h.elim (fun q=>(Pc q).2) (fun q=>by rw [q];decide)
 have aO:(iA c.toNat||decide (c=95))=true:=by simpa using h
 simp only [gT,aX,aO,if_neg We,Bool.false_eq_true,if_false,if_true]
theorem Rv {c:UInt8} (h:gf c=true):c.toNat<128:=by
 unfold gf uf mZ iA nN at h
 simp only [Bool.or_eq_true,Bool.and_eq_true,decide_eq_true_eq] at h
 omega
theorem PL {p:UInt8→Bool}:∀s:List UInt8,s.all p=true→s.takeWhile p=s
 | [],_=>rfl
 | c::s,h=>by
   rw [List.all_cons,Bool.and_eq_true] at h
   rw [List.takeWhile_cons,h.1,if_pos rfl,PL s h.2]
theorem Jg (p:UInt8→Bool):∀s:List UInt8,(s.takeWhile p).all p=true
 | []=>rfl
 | c::s=>by
   rw [List.takeWhile_cons]
   split
   · rename_i h;rw [List.all_cons,h,Jg p s];rfl
   · rfl
theorem GZ {k:Int} {c:UInt8} {r:List UInt8} {q:Int × Int × List UInt8 × Nat} (ay:(k=3∧(iA c.toNat=true∨c=95))∨(k=4∧nN c.toNat=true)∨(k=5∧iA c.toNat=true)) (h:j1 k (c::r)=.ok q) (av:q.1=3∨q.1=4∨q.1=5):
 q.1=k∧nq k q.2.2.1=true:=by
 have ao:gf c=true:=by
  rcases ay with ⟨_,q | q⟩ | ⟨_,q⟩ | ⟨_,q⟩
  · exact H4 q
  · exact PQ q
  · exact K4 q
  · exact H4 q
 have ax:(c::r).takeWhile gf=c::r.takeWhile gf:=by rw [List.takeWhile_cons,if_pos ao]
 have bd:=Jg gf (c::r)
 rw [ax] at bd
 unfold j1 at h
 simp only [ax] at h
 generalize r.takeWhile gf=t at *
 split at h
 · cases h;simp at av
 · rename_i XO
   split at h
   · cases h;simp at av
   · rename_i vQ
     split at h
     · cases h
     · rename_i hlen
       cases h
       refine ⟨rfl,?_⟩
       have mx:(if k=3 then (pK (c::t)||(c::t).head? == some 95)&&!decide (c::t=[95])&&!q0 (c::t) else if k=4 then Fl (c::t) else pK (c::t))=true:=by
        rcases ay with ⟨rfl,z⟩ | ⟨rfl,z⟩ | ⟨rfl,z⟩
        · rw [if_pos rfl]
          have aa:(pK (c::t)||(c::t).head? == some 95)=true:=by
           rcases z with z | z
           · show (iA c.toNat||_)=true
             rw [z];rfl
           · subst z;simp
          rw [aa,decide_eq_false (fun z=>XO ⟨rfl,z⟩),Bool.eq_false_iff.2 (fun z=>vQ ⟨rfl,z⟩)]
          rfl
        · exact z
        · exact z
       show nq k (c::t)=true
       unfold nq
       rw [mx,bd,decide_eq_true (show c::t≠[] by simp),decide_eq_true (show (c::t).length≤64 by omega)]
       rfl
theorem abJ {r:List UInt8} {q:Int × Int × List UInt8 × Nat} (h:gT r=.ok q) (av:q.1=3∨q.1=4∨q.1=5):nq q.1 q.2.2.1=true:=by
 match r,h with
 | c::r,h=>
   simp only [gT] at h
   split at h
   · unfold wy at h
     simp only at h
     split at h
     · cases h
     · cases h;simp at av
   · split at h
     · unfold rj at h
       split at h
       · cases h
       · split at h
         · cases h
         · cases h;simp at av
     · split at h
       · rename_i aO
         have:=GZ (.inl ⟨rfl,by simpa using aO⟩) h av
         rw [this.1];exact this.2
       · split at h
         · rename_i aO
           have:=GZ (.inr (.inl ⟨rfl,aO⟩)) h av
           rw [this.1];exact this.2
         · split at h
           · rename_i aO
             cases aS:j1 5 r with
             | error e=>rw [aS] at h;cases h
             | ok ew=>
               rw [aS] at h
               cases h
               obtain ⟨d,t,rfl⟩:∃d t,r=d::t:=by
                cases r with
                | nil=>simp [pK] at aO
                | cons d t=>exact ⟨d,t,rfl⟩
               have:=GZ (.inr (.inr ⟨rfl,aO.2⟩)) aS av
               show nq ew.1 ew.2.2.1=true
               rw [this.1];exact this.2
           · unfold wO at h
             split at h
             · cases h;simp at av
             · cases h
theorem BA:∀(f:Nat) (r:List UInt8) (p:Nat) (ws:List ca),nk f r p=.ok ws→∀w ∈ ws,w.kind=3∨w.kind=4∨w.kind=5→nq w.kind w.text=true
 | 0,r,p,ws,h,w,hw,_=>by simp only [nk,Except.ok.injEq] at h;subst h;cases hw
 | f+1,[],p,ws,h,w,hw,_=>by simp only [nk,Except.ok.injEq] at h;subst h;cases hw
 | f+1,c::r,p,ws,h,w,hw,ay=>by
   simp only [nk] at h
   split at h
   · exact BA f _ _ ws h w hw ay
   · split at h
     · split at h
       · cases h
       · exact BA f _ _ ws h w hw ay
     · split at h
       · cases h
       · rename_i q aS
         cases aG:nk f ((c::r).drop q.2.2.2) (p+q.2.2.2) with
         | error aP=>rw [aG] at h;cases h
         | ok bP=>
           rw [aG] at h
           simp only [xB,Except.ok.injEq] at h
           subst h
           rcases List.mem_cons.1 hw with rfl | hw
           · exact abJ aS ay
           · exact BA f _ _ bP aG w hw ay
theorem adq {k:Int} {s:List UInt8} (ay:k=3∨k=4∨k=5) (h:nq k s=true):nm (if k=5 then 39::s else s)=.ok [⟨k,0,0,s⟩]:=by
 obtain ⟨g1,g2,g3,g4⟩:=abF h
 obtain ⟨c,t,rfl⟩:=List.exists_cons_of_ne_nil g1
 have WC:∀d ∈ (if k=5 then 39::c::t else c::t),d.toNat<128:=by
  intro d aX
  have aa:∀d ∈ c::t,d.toNat<128:=fun d aX=>Rv (List.all_eq_true.1 g3 d aX)
  split at aX
  · rcases List.mem_cons.1 aX with rfl | aX
    · decide
    · exact aa d aX
  · exact aa d aX
 rw [aa8 WC,if_neg (by split<;>simp only [List.length_cons] at g2 ⊢<;>omega)]
 have ao:gf c=true:=by rw [List.all_cons,Bool.and_eq_true] at g3;exact g3.1
 obtain ⟨cx,cn⟩:=abm ao
 have rd:∀j:Int,(j=3→c::t≠[95]∧q0 (c::t)=false)→j1 j (c::t)=.ok (j,0,c::t,(c::t).length):=by
  intro j bK
  unfold j1
  simp only [PL _ g3]
  rw [if_neg (fun q=>(bK q.1).1 q.2),if_neg (fun q=>by rw [(bK q.1).2] at q;simp at q),if_neg (by omega)]
 have fin:∀(d:UInt8) (u:List UInt8) (q:Int × Int × List UInt8 × Nat),blank d=false→d≠40→gT (d::u)=.ok q→q.2.2.2=(d::u).length→p5 (d::u) 0=.ok [⟨q.1,q.2.1,0,q.2.2.1⟩]:=by
  intro d u q aP bl bW eu
  rw [MX,aP,if_neg Bool.false_ne_true,abQ bl,if_neg Bool.false_ne_true,bW]
  simp only [eu,List.drop_length]
  rfl
 rcases ay with rfl | rfl | rfl
 · rw [if_neg (by decide)]
   rw [if_pos rfl] at g4
   simp only [Bool.and_eq_true,Bool.not_eq_true',decide_eq_false_iff_not,Bool.or_eq_true,beq_iff_eq] at g4
   have ba:iA c.toNat=true∨c=95:=g4.1.1.imp id (fun q=>Option.some.inj q)
   exact fin c t _ cx cn (by rw [abO ba];exact rd 3 (fun _=>⟨g4.1.2,g4.2⟩)) rfl
 · rw [if_neg (by decide)]
   rw [if_neg (by decide),if_pos rfl] at g4
   have aE:nN c.toNat=true:=g4
   obtain ⟨cz,ha,n3,n4⟩:=Wb aE
   refine fin c t (4,0,c::t,(c::t).length) cx cn ?_ rfl
   simp only [gT,cz,n3,aE,if_neg ha,Bool.false_eq_true,if_false,if_true,Bool.false_or,decide_eq_true_eq,if_neg n4]
   exact rd 4 (fun q=>absurd q (by decide))
 · rw [if_pos rfl]
   rw [if_neg (by decide),if_neg (by decide)] at g4
   refine fin 39 (c::t) (5,0,c::t,(c::t).length+1) (by decide) (by decide) ?_ rfl
   simp only [gT]
   rw [if_neg (by decide),if_neg (by decide),if_neg (by decide),if_neg (by decide),if_pos ⟨trivial,g4⟩,rd 5 (fun q=>absurd q (by decide))]
   rfl
theorem size_eq (t:aB):t.size=1+eH t.l:=by cases t;simp only [aB.size,aB.l]
theorem acP:∀l m:List aB,jB (l++m)=max (jB l) (jB m)
 | [],m=>by simp [jB]
 | t::l,m=>by rw [List.cons_append,jB,jB,acP l m,Nat.max_assoc]
theorem Hu:∀l m:List aB,eH (l++m)=eH l+eH m
 | [],m=>by simp [eH]
 | t::l,m=>by rw [List.cons_append,eH,eH,Hu l m,Nat.add_assoc]
theorem take_one {l:List aB} {i:Nat} (h:i<l.length):l.take (i+1)=l.take i++[l[i]]:=by rw [List.take_succ_eq_append_getElem h]
theorem ac0 {l:List aB} {i:Nat} (h:i<l.length):eH (l.take (i+1))=eH (l.take i)+l[i].size:=by rw [take_one h,Hu,eH,eH,Nat.add_zero]
mutual
theorem J9:∀t:aB,t.deep≤t.size
 | .mk k n s l=>by rw [aB.deep,aB.size];have:=NT l;omega
theorem NT:∀l:List aB,jB l≤eH l
 | []=>Nat.le_refl _
 | t::l=>by rw [jB,eH];have:=J9 t;have:=NT l;omega
end
theorem ac1 (l:List aB) (i:Nat):eH (l.take i)≤eH l:=by
 have:=Hu (l.take i) (l.drop i)
 rw [List.take_append_drop] at this
 omega
theorem acZ {l:List aB} {i:Nat} (aF:i<l.length):eH l[i].l<eH l:=by
 have aa:=y0 (List.getElem_mem aF)
 have ae:=size_eq l[i]
 omega
theorem abq (a b:Nat):(if (a:Int) < (b:Int) then (b:Int) else (a:Int))=((max a b:Nat):Int):=by
 by_cases h:(a:Int) < (b:Int)
 · rw [if_pos h,Nat.max_eq_right (by omega)]
 · rw [if_neg h,Nat.max_eq_left (by omega)]
mutual
def aB.pred:Nat→aB→List (Nat × aB)
 | d,.mk k n s l=>(d,.mk k n s l)::ia (d+1) l
def ia:Nat→List aB→List (Nat × aB)
 | _,[]=>[]
 | d,t::l=>t.pred d++ia d l
end
theorem acT (d:Nat) (t:aB):t.pred d=(d,t)::ia (d+1) t.l:=by cases t;simp only [aB.pred,aB.l]
theorem Hq (d:Nat):∀l m:List aB,ia d (l++m)=ia d l++ia d m
 | [],m=>rfl
 | t::l,m=>by rw [List.cons_append,ia,ia,Hq d l m,List.append_assoc]
theorem acV (d:Nat) (t:aB):ia d [t]=t.pred d:=by rw [ia,ia,List.append_nil]
mutual
theorem B8:∀(d:Nat) (t:aB),(t.pred d).map Prod.snd=t.pre
 | d,.mk k n s l=>by rw [aB.pred,aB.pre,List.map_cons,Hr (d+1) l]
theorem Hr:∀(d:Nat) (l:List aB),(ia d l).map Prod.snd=oh l
 | _,[]=>rfl
 | d,t::l=>by rw [ia,oh,List.map_append,B8 d t,Hr d l]
end
theorem N6 (d:Nat) (t:aB):(t.pred d).length=t.size:=by
 rw [←Ho,←B8 d t,List.length_map]
theorem acU (d:Nat) (l:List aB):(ia d l).length=eH l:=by
 rw [←Hs,←Hr d l,List.length_map]
def maxD (l:List (Nat × aB)):Nat:=l.foldl (fun m x=>max m x.1) 0
theorem foldl_max (l:List (Nat × aB)) (m:Nat):l.foldl (fun m x=>max m x.1) m=max m (maxD l):=by
 unfold maxD
 induction l generalizing m with
 | nil=>simp
 | cons x l bj=>rw [List.foldl_cons,List.foldl_cons,bj,bj (max 0 x.1)];omega
theorem GX (l m:List (Nat × aB)):maxD (l++m)=max (maxD l) (maxD m):=by
 conv=>lhs;unfold maxD
 rw [List.foldl_append,foldl_max]
 rfl
theorem Nf (x:Nat × aB) (l:List (Nat × aB)):maxD (x::l)=max x.1 (maxD l):=by
 have:=GX [x] l
 rw [List.singleton_append] at this
 rw [this]
 congr 1
mutual
theorem N7:∀(d:Nat) (t:aB),maxD (t.pred d)+1=d+t.deep
 | d,.mk k n s l=>by
   rw [aB.pred,aB.deep,Nf]
   have:=N8 (d+1) l
   simp only
   split at this
   · rename_i q;subst q;simp only [ia,jB];unfold maxD;simp
   · omega
theorem N8:∀(d:Nat) (l:List aB),if l=[] then maxD (ia d l)=0 else maxD (ia d l)+1=d+jB l
 | _,[]=>by simp [ia,maxD]
 | d,t::l=>by
   rw [if_neg (by simp),ia,GX,jB]
   have aa:=N7 d t
   have ae:=N8 d l
   split at ae
   · rename_i q;subst q;rw [ae];simp only [jB];omega
   · omega
end
def Jl:List UInt8:=[45,62]
def Pl:List UInt8:=[42]
def aB.own (t:aB):Bool:=
 if t.k=1 then decide (0≤t.n)&&decide (t.n≤1048575)&&decide (t.s=[])&&decide (t.l.length=0)
 else if t.k=2 then (if t.s=Jl∨t.s=Pl then decide (t.n=0)&&decide (t.l.length=2) else decide (t.n=0)&&decide (t.l.length≤64)&&nq 3 t.s)
 else false
mutual
def aB.shape:aB→Bool
 | .mk k n s l=>(aB.mk k n s l).own&&ja l
def ja:List aB→Bool
 | []=>true
 | t::l=>t.shape&&ja l
end
theorem zb (t:aB):t.shape=(t.own&&ja t.l):=by cases t;rw [aB.shape];rfl
mutual
theorem O_:∀t:aB,t.shape=t.pre.all aB.own
 | .mk k n s l=>by rw [aB.shape,aB.pre,List.all_cons,Pa l]
theorem Pa:∀l:List aB,ja l=(oh l).all aB.own
 | []=>rfl
 | t::l=>by rw [ja,oh,List.all_append,O_ t,Pa l]
end
def aB.check (t:aB):Int:=if t.shape then (if t.size≤4096∧t.deep≤200 then 0 else 3) else 2
mutual
def aB.same:aB→aB→Bool
 | .mk k n s l,.mk bp im fY cE=>decide (k=bp)&&decide (n=im)&&decide (s=fY)&&i' l cE
def i':List aB→List aB→Bool
 | [],[]=>true
 | t::l,u::m=>t.same u&&i' l m
 | [],_::_=>false
 | _::_,[]=>false
end
theorem adT (t u:aB):t.same u=(decide (t.k=u.k)&&decide (t.n=u.n)&&decide (t.s=u.s)&&i' t.l u.l):=by
 cases t;cases u;rw [aB.same];rfl
theorem Ob:∀{l m:List aB},i' l m=true→l.length=m.length
 | [],[],_=>rfl
 | t::l,u::m,h=>by
   rw [i',Bool.and_eq_true] at h
   rw [List.length_cons,List.length_cons,Ob h.2]
 | [],_::_,h=>by rw [i'] at h;cases h
 | _::_,[],h=>by rw [i'] at h;cases h
theorem N_:∀{l m:List aB} {i:Nat} (aa:i<l.length) (ae:i<m.length),i' (l.drop i) (m.drop i)=(l[i].same m[i]&&i' (l.drop (i+1)) (m.drop (i+1)))
 | t::l,u::m,0,_,_=>by simp only [List.drop_zero,List.drop_succ_cons,i',List.getElem_cons_zero]
 | t::l,u::m,i+1,aa,ae=>by
   simp only [List.drop_succ_cons,List.getElem_cons_succ]
   exact N_ (by simpa using aa) (by simpa using ae)
mutual
theorem wN:∀t u:aB,t.same u=true↔t=u
 | .mk k n s l,.mk bp im fY cE=>by
   rw [aB.same]
   simp only [Bool.and_eq_true,decide_eq_true_eq,Oa l cE,aB.mk.injEq]
   exact ⟨fun ⟨⟨⟨a,b⟩,c⟩,d⟩=>⟨a,b,c,d⟩,fun ⟨a,b,c,d⟩=>⟨⟨⟨a,b⟩,c⟩,d⟩⟩
theorem Oa:∀l m:List aB,i' l m=true↔l=m
 | [],[]=>by simp [i']
 | t::l,u::m=>by rw [i',Bool.and_eq_true,wN t u,Oa l m,List.cons.injEq]
 | [],_::_=>by simp [i']
 | _::_,[]=>by simp [i']
end
def gC (out:List Int) (t:aB):List Int:=if t.k=1∧¬t.n ∈ out then out++[t.n] else out
def aB.PW (t:aB) (out:List Int):List Int:=t.pre.foldl gC out
def aB.vars (t:aB):List Int:=t.PW []
theorem Rk (out:List Int) (t:aB):(gC out t).length≤out.length+1:=by unfold gC;split<;>simp
theorem EY:∀(l:List aB) (out:List Int),(l.foldl gC out).length≤out.length+l.length
 | [],out=>by simp
 | t::l,out=>by
   rw [List.foldl_cons,List.length_cons]
   have:=EY l (gC out t)
   have:=Rk out t
   omega
theorem PX (t:aB):t.vars.length≤t.size:=by
 have:=EY t.pre []
 rw [Ho] at this
 simpa [aB.vars,aB.PW] using this
end Go.Proofs.YthemdhlheglhoaaGreatDoor
