/- The chapter's functions, walked by the abstract machine: plain lemmas, no condition. Printed by a program from longer texts: names made short. -/
import Derived.Test.YthemdhlheglhoaaGreatDoorM8
import Derived.Test.YthemdhlheglhoaaGreatDoorM9
import Derived.Shelf.LaysM
import Derived.Shelf.Strconv.Itoa3
import Derived.Shelf.Unicode.Decode
import Derived.Shelf.Unicode.DecodeSlow
import Derived.Shelf.Unicode.DecodeAny
import Derived.Shelf.Strconv.Atoi
import Derived.Shelf.Pu.ParseUintPublic10
import Derived.Lib.LaidU8T
import Derived.Test.YthemdhlheglhoaaGreatDoorM6
set_option linter.unusedSectionVars false
set_option linter.unusedSimpArgs false
set_option linter.unusedVariables false
namespace Go.Proofs.YthemdhlheglhoaaGreatDoor
open Go a6
theorem Vi:Extern.findNext Tryz.f153=none:=by kernel_rfl
theorem Vh:(Extern.find Tryz.f153)=some Extern.BytealgIndexByte.indexByte:=by kernel_rfl
theorem Yw (s:List UInt8) (c:Int) (h:af):e7 Tryz.prog 153 [.str s,.int .u8 c] h (.int .i64 (Lib.indexByte s c.toNat.toUInt8)) h:=
 Yy (by decide) Tryz.func153 (by kernel_rfl) (by kernel_rfl) Vi Vh s c h
theorem Yv (s:List UInt8) (c:Int) (h:af):e7 Tryz.prog 138 [.str s,.int .u8 c] h (.int .i64 (Lib.indexByte s c.toNat.toUInt8)) h:=by
 refine mi (RE rfl (df ?_))
 unfold c138
 simp +contextual only [↓aw,aH,simprocAttr]
 refine fe (Yw _ _ _) ?_
 simp +contextual only [↓aw,aH,simprocAttr]
theorem Lf (s:List UInt8) (c:Int) (h:af):e7 Tryz.prog 124 [.str s,.int .u8 c] h (.int .i64 (Lib.indexByte s c.toNat.toUInt8)) h:=by
 refine mi (Rp rfl (df ?_))
 unfold Cp
 simp +contextual only [↓aw,aH,simprocAttr]
 refine fe (Yv _ _ _) ?_
 simp +contextual only [↓aw,aH,simprocAttr]
end Go.Proofs.YthemdhlheglhoaaGreatDoor
namespace Go.Proofs.YthemdhlheglhoaaGreatDoor
open Go Go.Shelf
def Tryz.aaN:Go.Shelf.Ren:=⟨fun | 197=>137 | 260=>152 | n=>n,fun | 9=>9 | 21=>21 | 3=>3 | 4=>4 | 5=>5 | 105=>182 | 119=>199 | 0=>0 | 46=>141 | 139=>202 | 138=>201 | n=>n,fun | 3=>2 | 4=>3 | n=>n⟩
theorem Tryz.aaM:Go.Proofs.Lays.n197 Tryz.prog Tryz.aaN:={
 mixed:=by kernel_rfl,
 f197:=Tryz.func137.trans (congrArg some (by kernel_rfl)),
 f260:=Tryz.func152.trans (congrArg some (by kernel_rfl)),
 t0:=Tryz.underlying0,
 a0:=Tryz.isAgg0,
 z0:=Tryz.sizeOf0,
 v0:=Tryz.zeroValue0,
 t3:=Tryz.underlying3,
 a3:=Tryz.isAgg3,
 z3:=Tryz.sizeOf3,
 v3:=Tryz.zeroValue3,
 t4:=Tryz.underlying4,
 a4:=Tryz.isAgg4,
 z4:=Tryz.sizeOf4,
 v4:=Tryz.zeroValue4,
 t5:=Tryz.underlying5,
 a5:=Tryz.isAgg5,
 z5:=Tryz.sizeOf5,
 v5:=Tryz.zeroValue5,
 t9:=Tryz.underlying9,
 a9:=Tryz.isAgg9,
 z9:=Tryz.sizeOf9,
 v9:=Tryz.zeroValue9,
 t21:=Tryz.underlying21,
 a21:=Tryz.isAgg21,
 z21:=Tryz.sizeOf21,
 v21:=Tryz.zeroValue21,
 t46:=Tryz.underlying141,
 a46:=Tryz.isAgg141,
 z46:=Tryz.sizeOf141,
 v46:=Tryz.zeroValue141,
 t105:=Tryz.underlying182,
 a105:=Tryz.isAgg182,
 z105:=Tryz.sizeOf182,
 v105:=Tryz.zeroValue182,
 t119:=Tryz.underlying199,
 a119:=Tryz.isAgg199,
 z119:=Tryz.sizeOf199,
 t138:=Tryz.underlying201,
 a138:=Tryz.isAgg201,
 z138:=Tryz.sizeOf201,
 v138:=Tryz.zeroValue201,
 t139:=Tryz.underlying202,
 a139:=Tryz.isAgg202,
 z139:=Tryz.sizeOf202,
 v139:=Tryz.zeroValue202,
 g3:=by kernel_rfl,
 g4:=by kernel_rfl}
def Tryz.aaL:Go.Shelf.Ren:=⟨fun | 172=>166 | 244=>176 | 245=>165 | 247=>180 | 279=>172 | 280=>173 | 281=>174 | 282=>175 | 287=>164 | 316=>178 | 171=>94 | 205=>179 | 321=>170 | 322=>171 | 243=>109 | 246=>128 | 283=>147 | 284=>148 | 285=>149 | 286=>150 | 129=>122 | 317=>160 | 318=>161 | 319=>162 | 320=>163 | 337=>168 | 338=>169 | n=>n,fun | 9=>9 | 3=>3 | 75=>133 | 76=>134 | 4=>4 | 5=>5 | 167=>205 | 37=>128 | 0=>0 | 85=>216 | 2=>2 | 168=>207 | 53=>166 | 175=>192 | 46=>141 | 210=>214 | 127=>155 | 145=>220 | 143=>218 | 21=>21 | 171=>186 | 173=>188 | 212=>197 | 51=>164 | 20=>20 | 213=>198 | 232=>210 | 233=>211 | 80=>136 | n=>n,fun | 15=>6 | 16=>7 | 17=>1 | 18=>4 | 19=>5 | n=>n⟩
theorem Tryz.aaK:Go.Proofs.Lays.n172 Tryz.prog Tryz.aaL:={
 mixed:=by kernel_rfl,
 f129:=Tryz.func122.trans (congrArg some (by kernel_rfl)),
 f171:=Tryz.func94.trans (congrArg some (by kernel_rfl)),
 f172:=Tryz.func166.trans (congrArg some (by kernel_rfl)),
 f205:=Tryz.func179.trans (congrArg some (by kernel_rfl)),
 f243:=Tryz.func109.trans (congrArg some (by kernel_rfl)),
 f244:=Tryz.func176.trans (congrArg some (by kernel_rfl)),
 f245:=Tryz.func165.trans (congrArg some (by kernel_rfl)),
 f246:=Tryz.func128.trans (congrArg some (by kernel_rfl)),
 f247:=Tryz.func180.trans (congrArg some (by kernel_rfl)),
 f279:=Tryz.func172.trans (congrArg some (by kernel_rfl)),
 f280:=Tryz.func173.trans (congrArg some (by kernel_rfl)),
 f281:=Tryz.func174.trans (congrArg some (by kernel_rfl)),
 f282:=Tryz.func175.trans (congrArg some (by kernel_rfl)),
 f283:=Tryz.func147.trans (congrArg some (by kernel_rfl)),
 f284:=Tryz.func148.trans (congrArg some (by kernel_rfl)),
 f285:=Tryz.func149.trans (congrArg some (by kernel_rfl)),
 f286:=Tryz.func150.trans (congrArg some (by kernel_rfl)),
 f287:=Tryz.func164.trans (congrArg some (by kernel_rfl)),
 f316:=Tryz.func178.trans (congrArg some (by kernel_rfl)),
 f317:=Tryz.func160.trans (congrArg some (by kernel_rfl)),
 f318:=Tryz.func161.trans (congrArg some (by kernel_rfl)),
 f319:=Tryz.func162.trans (congrArg some (by kernel_rfl)),
 f320:=Tryz.func163.trans (congrArg some (by kernel_rfl)),
 f321:=Tryz.func170.trans (congrArg some (by kernel_rfl)),
 f322:=Tryz.func171.trans (congrArg some (by kernel_rfl)),
 f337:=Tryz.func168.trans (congrArg some (by kernel_rfl)),
 f338:=Tryz.func169.trans (congrArg some (by kernel_rfl)),
 t0:=Tryz.underlying0,
 a0:=Tryz.isAgg0,
 z0:=Tryz.sizeOf0,
 v0:=Tryz.zeroValue0,
 t2:=Tryz.underlying2,
 a2:=Tryz.isAgg2,
 z2:=Tryz.sizeOf2,
 v2:=Tryz.zeroValue2,
 t3:=Tryz.underlying3,
 a3:=Tryz.isAgg3,
 z3:=Tryz.sizeOf3,
 v3:=Tryz.zeroValue3,
 t4:=Tryz.underlying4,
 a4:=Tryz.isAgg4,
 z4:=Tryz.sizeOf4,
 v4:=Tryz.zeroValue4,
 t5:=Tryz.underlying5,
 a5:=Tryz.isAgg5,
 z5:=Tryz.sizeOf5,
 v5:=Tryz.zeroValue5,
 t9:=Tryz.underlying9,
 a9:=Tryz.isAgg9,
 z9:=Tryz.sizeOf9,
 v9:=Tryz.zeroValue9,
 t20:=Tryz.underlying20,
 a20:=Tryz.isAgg20,
 z20:=Tryz.sizeOf20,
 v20:=Tryz.zeroValue20,
 t21:=Tryz.underlying21,
 a21:=Tryz.isAgg21,
 z21:=Tryz.sizeOf21,
 v21:=Tryz.zeroValue21,
 t37:=Tryz.underlying128,
 a37:=Tryz.isAgg128,
 z37:=Tryz.sizeOf128,
 v37:=Tryz.zeroValue128,
 t46:=Tryz.underlying141,
 a46:=Tryz.isAgg141,
 z46:=Tryz.sizeOf141,
 v46:=Tryz.zeroValue141,
 t51:=Tryz.underlying164,
 a51:=Tryz.isAgg164,
 z51:=Tryz.sizeOf164,
 v51:=Tryz.zeroValue164,
 t53:=Tryz.underlying166,
 a53:=Tryz.isAgg166,
 z53:=Tryz.sizeOf166,
 v53:=Tryz.zeroValue166,
 t75:=Tryz.underlying133,
 a75:=Tryz.isAgg133,
 z75:=Tryz.sizeOf133,
 v75:=Tryz.zeroValue133,
 t76:=Tryz.underlying134,
 a76:=Tryz.isAgg134,
 z76:=Tryz.sizeOf134,
 v76:=Tryz.zeroValue134,
 t85:=Tryz.underlying216,
 a85:=Tryz.isAgg216,
 z85:=Tryz.sizeOf216,
 v85:=Tryz.zeroValue216,
 t127:=Tryz.underlying155,
 a127:=Tryz.isAgg155,
 z127:=Tryz.sizeOf155,
 v127:=Tryz.zeroValue155,
 t143:=Tryz.underlying218,
 a143:=Tryz.isAgg218,
 z143:=Tryz.sizeOf218,
 v143:=Tryz.zeroValue218,
 t145:=Tryz.underlying220,
 a145:=Tryz.isAgg220,
 z145:=Tryz.sizeOf220,
 v145:=Tryz.zeroValue220,
 t167:=Tryz.underlying205,
 a167:=Tryz.isAgg205,
 z167:=Tryz.sizeOf205,
 v167:=Tryz.zeroValue205,
 t168:=Tryz.underlying207,
 a168:=Tryz.isAgg207,
 z168:=Tryz.sizeOf207,
 v168:=Tryz.zeroValue207,
 t171:=Tryz.underlying186,
 a171:=Tryz.isAgg186,
 z171:=Tryz.sizeOf186,
 v171:=Tryz.zeroValue186,
 t173:=Tryz.underlying188,
 a173:=Tryz.isAgg188,
 z173:=Tryz.sizeOf188,
 v173:=Tryz.zeroValue188,
 t175:=Tryz.underlying192,
 a175:=Tryz.isAgg192,
 z175:=Tryz.sizeOf192,
 v175:=Tryz.zeroValue192,
 t210:=Tryz.underlying214,
 a210:=Tryz.isAgg214,
 z210:=Tryz.sizeOf214,
 v210:=Tryz.zeroValue214,
 t212:=Tryz.underlying197,
 a212:=Tryz.isAgg197,
 z212:=Tryz.sizeOf197,
 v212:=Tryz.zeroValue197,
 t213:=Tryz.underlying198,
 a213:=Tryz.isAgg198,
 z213:=Tryz.sizeOf198,
 t232:=Tryz.underlying210,
 a232:=Tryz.isAgg210,
 z232:=Tryz.sizeOf210,
 v232:=Tryz.zeroValue210,
 t233:=Tryz.underlying211,
 a233:=Tryz.isAgg211,
 z233:=Tryz.sizeOf211,
 v233:=Tryz.zeroValue211,
 g15:=by kernel_rfl,
 g16:=by kernel_rfl,
 g17:=by kernel_rfl,
 g18:=by kernel_rfl,
 g19:=by kernel_rfl}
def Tryz.Fw:Go.Shelf.Ren:=⟨fun | 14=>155 | 16=>164 | 17=>165 | 19=>170 | 20=>171 | 21=>172 | 22=>173 | 23=>174 | 24=>175 | 25=>178 | 27=>94 | 26=>179 | 28=>109 | 29=>128 | 30=>147 | 31=>148 | 32=>149 | 33=>150 | 35=>122 | 34=>160 | 36=>161 | 37=>162 | 38=>163 | 39=>168 | 40=>169 | n=>n,fun | 9=>9 | 3=>3 | 22=>166 | 24=>133 | 25=>192 | 4=>4 | 34=>205 | 5=>5 | 36=>141 | 37=>128 | 0=>0 | 39=>207 | 21=>21 | 44=>214 | 47=>155 | 50=>220 | 48=>218 | 2=>2 | 52=>186 | 55=>188 | 59=>197 | 60=>164 | 20=>20 | 61=>198 | 65=>210 | 66=>211 | 67=>136 | n=>n,fun | 0=>6 | 1=>7 | 2=>1 | 3=>4 | 4=>5 | n=>n⟩
theorem Tryz.LH:Go.Proofs.LaysPu.n14 Tryz.prog Tryz.Fw:={
 mixed:=by kernel_rfl,
 f14:=Tryz.func155.trans (congrArg some (by kernel_rfl)),
 f16:=Tryz.func164.trans (congrArg some (by kernel_rfl)),
 f17:=Tryz.func165.trans (congrArg some (by kernel_rfl)),
 f19:=Tryz.func170.trans (congrArg some (by kernel_rfl)),
 f20:=Tryz.func171.trans (congrArg some (by kernel_rfl)),
 f21:=Tryz.func172.trans (congrArg some (by kernel_rfl)),
 f22:=Tryz.func173.trans (congrArg some (by kernel_rfl)),
 f23:=Tryz.func174.trans (congrArg some (by kernel_rfl)),
 f24:=Tryz.func175.trans (congrArg some (by kernel_rfl)),
 f25:=Tryz.func178.trans (congrArg some (by kernel_rfl)),
 f26:=Tryz.func179.trans (congrArg some (by kernel_rfl)),
 f27:=Tryz.func94.trans (congrArg some (by kernel_rfl)),
 f28:=Tryz.func109.trans (congrArg some (by kernel_rfl)),
 f29:=Tryz.func128.trans (congrArg some (by kernel_rfl)),
 f30:=Tryz.func147.trans (congrArg some (by kernel_rfl)),
 f31:=Tryz.func148.trans (congrArg some (by kernel_rfl)),
 f32:=Tryz.func149.trans (congrArg some (by kernel_rfl)),
 f33:=Tryz.func150.trans (congrArg some (by kernel_rfl)),
 f34:=Tryz.func160.trans (congrArg some (by kernel_rfl)),
 f35:=Tryz.func122.trans (congrArg some (by kernel_rfl)),
 f36:=Tryz.func161.trans (congrArg some (by kernel_rfl)),
 f37:=Tryz.func162.trans (congrArg some (by kernel_rfl)),
 f38:=Tryz.func163.trans (congrArg some (by kernel_rfl)),
 f39:=Tryz.func168.trans (congrArg some (by kernel_rfl)),
 f40:=Tryz.func169.trans (congrArg some (by kernel_rfl)),
 t0:=Tryz.underlying0,
 a0:=Tryz.isAgg0,
 z0:=Tryz.sizeOf0,
 v0:=Tryz.zeroValue0,
 i0:=by kernel_rfl,
 t2:=Tryz.underlying2,
 a2:=Tryz.isAgg2,
 z2:=Tryz.sizeOf2,
 v2:=Tryz.zeroValue2,
 i2:=by kernel_rfl,
 t3:=Tryz.underlying3,
 a3:=Tryz.isAgg3,
 z3:=Tryz.sizeOf3,
 v3:=Tryz.zeroValue3,
 i3:=by kernel_rfl,
 t4:=Tryz.underlying4,
 a4:=Tryz.isAgg4,
 z4:=Tryz.sizeOf4,
 v4:=Tryz.zeroValue4,
 i4:=by kernel_rfl,
 t5:=Tryz.underlying5,
 a5:=Tryz.isAgg5,
 z5:=Tryz.sizeOf5,
 v5:=Tryz.zeroValue5,
 i5:=by kernel_rfl,
 t9:=Tryz.underlying9,
 a9:=Tryz.isAgg9,
 z9:=Tryz.sizeOf9,
 v9:=Tryz.zeroValue9,
 i9:=by kernel_rfl,
 t20:=Tryz.underlying20,
 a20:=Tryz.isAgg20,
 z20:=Tryz.sizeOf20,
 v20:=Tryz.zeroValue20,
 i20:=by kernel_rfl,
 t21:=Tryz.underlying21,
 a21:=Tryz.isAgg21,
 z21:=Tryz.sizeOf21,
 v21:=Tryz.zeroValue21,
 i21:=by kernel_rfl,
 t22:=Tryz.underlying166,
 a22:=Tryz.isAgg166,
 z22:=Tryz.sizeOf166,
 v22:=Tryz.zeroValue166,
 i22:=by kernel_rfl,
 t24:=Tryz.underlying133,
 a24:=Tryz.isAgg133,
 z24:=Tryz.sizeOf133,
 v24:=Tryz.zeroValue133,
 i24:=by kernel_rfl,
 t25:=Tryz.underlying192,
 a25:=Tryz.isAgg192,
 z25:=Tryz.sizeOf192,
 v25:=Tryz.zeroValue192,
 i25:=by kernel_rfl,
 t34:=Tryz.underlying205,
 a34:=Tryz.isAgg205,
 z34:=Tryz.sizeOf205,
 v34:=Tryz.zeroValue205,
 i34:=by kernel_rfl,
 c34:=by kernel_rfl,
 t36:=Tryz.underlying141,
 a36:=Tryz.isAgg141,
 z36:=Tryz.sizeOf141,
 v36:=Tryz.zeroValue141,
 i36:=by kernel_rfl,
 t37:=Tryz.underlying128,
 a37:=Tryz.isAgg128,
 z37:=Tryz.sizeOf128,
 v37:=Tryz.zeroValue128,
 i37:=by kernel_rfl,
 t39:=Tryz.underlying207,
 a39:=Tryz.isAgg207,
 z39:=Tryz.sizeOf207,
 v39:=Tryz.zeroValue207,
 i39:=by kernel_rfl,
 t44:=Tryz.underlying214,
 a44:=Tryz.isAgg214,
 z44:=Tryz.sizeOf214,
 v44:=Tryz.zeroValue214,
 i44:=by kernel_rfl,
 t47:=Tryz.underlying155,
 a47:=Tryz.isAgg155,
 z47:=Tryz.sizeOf155,
 v47:=Tryz.zeroValue155,
 i47:=by kernel_rfl,
 t48:=Tryz.underlying218,
 a48:=Tryz.isAgg218,
 z48:=Tryz.sizeOf218,
 v48:=Tryz.zeroValue218,
 i48:=by kernel_rfl,
 t50:=Tryz.underlying220,
 a50:=Tryz.isAgg220,
 z50:=Tryz.sizeOf220,
 v50:=Tryz.zeroValue220,
 i50:=by kernel_rfl,
 t52:=Tryz.underlying186,
 a52:=Tryz.isAgg186,
 z52:=Tryz.sizeOf186,
 v52:=Tryz.zeroValue186,
 i52:=by kernel_rfl,
 t55:=Tryz.underlying188,
 a55:=Tryz.isAgg188,
 z55:=Tryz.sizeOf188,
 v55:=Tryz.zeroValue188,
 i55:=by kernel_rfl,
 t59:=Tryz.underlying197,
 a59:=Tryz.isAgg197,
 z59:=Tryz.sizeOf197,
 v59:=Tryz.zeroValue197,
 i59:=by kernel_rfl,
 t60:=Tryz.underlying164,
 a60:=Tryz.isAgg164,
 z60:=Tryz.sizeOf164,
 v60:=Tryz.zeroValue164,
 i60:=by kernel_rfl,
 t61:=Tryz.underlying198,
 a61:=Tryz.isAgg198,
 z61:=Tryz.sizeOf198,
 t65:=Tryz.underlying210,
 a65:=Tryz.isAgg210,
 z65:=Tryz.sizeOf210,
 v65:=Tryz.zeroValue210,
 i65:=by kernel_rfl,
 t66:=Tryz.underlying211,
 a66:=Tryz.isAgg211,
 z66:=Tryz.sizeOf211,
 v66:=Tryz.zeroValue211,
 i66:=by kernel_rfl,
 t67:=Tryz.underlying136,
 a67:=Tryz.isAgg136,
 z67:=Tryz.sizeOf136,
 v67:=Tryz.zeroValue136,
 i67:=by kernel_rfl,
 g0:=by kernel_rfl,
 m0:=by kernel_rfl,
 g1:=by kernel_rfl,
 m1:=by kernel_rfl,
 g2:=by kernel_rfl,
 m2:=by kernel_rfl,
 g3:=by kernel_rfl,
 m3:=by kernel_rfl,
 g4:=by kernel_rfl,
 m4:=by kernel_rfl}
def Tryz.xa:Go.Shelf.Ren:=⟨fun | 260=>152 | n=>n,fun | 9=>9 | 21=>21 | 3=>3 | 4=>4 | 5=>5 | 119=>199 | 0=>0 | 46=>141 | 139=>202 | 138=>201 | n=>n,fun | 3=>2 | 4=>3 | n=>n⟩
theorem Tryz.aaO:Go.Proofs.Lays.n260 Tryz.prog Tryz.xa:={
 mixed:=by kernel_rfl,
 f260:=Tryz.func152.trans (congrArg some (by kernel_rfl)),
 t0:=Tryz.underlying0,
 a0:=Tryz.isAgg0,
 z0:=Tryz.sizeOf0,
 v0:=Tryz.zeroValue0,
 t3:=Tryz.underlying3,
 a3:=Tryz.isAgg3,
 z3:=Tryz.sizeOf3,
 v3:=Tryz.zeroValue3,
 t4:=Tryz.underlying4,
 a4:=Tryz.isAgg4,
 z4:=Tryz.sizeOf4,
 v4:=Tryz.zeroValue4,
 t5:=Tryz.underlying5,
 a5:=Tryz.isAgg5,
 z5:=Tryz.sizeOf5,
 v5:=Tryz.zeroValue5,
 t9:=Tryz.underlying9,
 a9:=Tryz.isAgg9,
 z9:=Tryz.sizeOf9,
 v9:=Tryz.zeroValue9,
 t21:=Tryz.underlying21,
 a21:=Tryz.isAgg21,
 z21:=Tryz.sizeOf21,
 v21:=Tryz.zeroValue21,
 t46:=Tryz.underlying141,
 a46:=Tryz.isAgg141,
 z46:=Tryz.sizeOf141,
 v46:=Tryz.zeroValue141,
 t119:=Tryz.underlying199,
 a119:=Tryz.isAgg199,
 z119:=Tryz.sizeOf199,
 t138:=Tryz.underlying201,
 a138:=Tryz.isAgg201,
 z138:=Tryz.sizeOf201,
 v138:=Tryz.zeroValue201,
 t139:=Tryz.underlying202,
 a139:=Tryz.isAgg202,
 z139:=Tryz.sizeOf202,
 v139:=Tryz.zeroValue202,
 g3:=by kernel_rfl,
 g4:=by kernel_rfl}
end Go.Proofs.YthemdhlheglhoaaGreatDoor
namespace Go.Proofs.YthemdhlheglhoaaGreatDoor
open Go a6 Go.RowKit
section
open Go.Shelf
theorem Uz (s:ByteArray) (w:World) (dr:Lib.Utf8Tabs 2 3 w):
 Calls Tryz.prog 137 #[.string s] w fun e aj=>e=.returned (.tuple #[.int .i32 (Lib.decodeGo s).1,.int .i64 (Lib.decodeGo s).2])∧Below w.heap.size w aj:=Any.utf8_DecodeRuneInString Tryz.aaM s w dr
theorem QG (s:ByteArray) (n:Int) (ai:s.size≤18) (h:Lib.atoi s.data.toList=some n) (w:World):
 Calls Tryz.prog 166 #[.string s] w fun e aj=>e=.returned (.tuple #[.int .i64 n,.nilIface])∧Below w.heap.size w aj:=(Any.strconv_Atoi Tryz.aaK s n ai h w).mono fun e aj q=>⟨q.1,by obtain ⟨t,rfl⟩:=q.2;exact Lib.bytesWorld_below _ _ _⟩
theorem acC (s:ByteArray) (tR:s.size≤9223372036854775806) (u:Nat) (h:Lib.parseUintB 64 s.data.toList=.ok u) (w:World):
 Calls Tryz.prog 155 #[.string s,.int .i64 10,.int .i64 64] w fun e aj=>e=.returned (.tuple #[.int .u64 u,.nilIface])∧Below w.heap.size w aj:=(Any.strconv_ParseUint_10_at64_ok Tryz.LH s tR u h w).mono fun e aj q=>⟨q.1,by
  rcases q.2 with rfl | rfl
  · exact Below.refl _ _
  · exact Lib.bytesWorld_below _ _ _⟩
theorem acE (s:ByteArray) (rZ:s.size≤281474976710656) (h:Lib.parseUintB 64 s.data.toList=.range) (w:World) (he:sT w 7):
 Calls Tryz.prog 155 #[.string s,.int .i64 10,.int .i64 64] w fun e aj=>(∃p,e=.returned (.tuple #[.int .u64 18446744073709551615,.iface (Tryz.Fw.t 39) p]))∧Below w.heap.size w aj:=by
 obtain ⟨aW,aa,ae⟩:=he
 refine (Any.strconv_ParseUint_10_at64_range Tryz.LH s rZ h aW w aa ae).mono fun e aj q=>?_
 obtain ⟨N,aI,_,_,cQ⟩:=q
 exact ⟨⟨_,aI⟩,cQ⟩
end
theorem w' {f:FuncId} (aZ:Nat.beq f c4=false) {args:List V} {v:V} {h:af} (ix:∃fn,Tryz.prog.funcs[f]? =some fn∧fn.body.isSome=true) (H:∀E xs w,BG w→a7 E args xs→Calls Tryz.prog f xs.toArray w fun e aj=>∃x,e=.returned x∧Rel E v x∧Below w.heap.size w aj):e7 Tryz.prog f args h v h:=by
 refine ⟨fun e=>by subst e;simp at aZ,.inl ⟨ix,fun ar E w xs al s=>?_⟩⟩
 refine (H E xs w (Lay.fO s.laid s.frame) al).mono fun e aj q=>?_
 obtain ⟨x,rfl,bn,ah⟩:=q
 exact ⟨E,x,rfl,fun _ _ q=>q,bn,s.below ah⟩
theorem Ux (s:List UInt8) (h:af):e7 Tryz.prog 137 [.str s] h (.tuple [.int .i32 (Lib.decodeGo ⟨⟨s⟩⟩).1,.int .i64 (Lib.decodeGo ⟨⟨s⟩⟩).2]) h:=by
 refine w' (by decide) ⟨_,Tryz.func137,by kernel_rfl⟩ fun E xs w ai al=>?_
 obtain ⟨y,cu,rfl,au,rfl⟩:=al
 simp only [Rel] at au
 subst au
 refine (Uz ⟨⟨s⟩⟩ w ai.OI).mono fun e aj q=>?_
 obtain ⟨rfl,ah⟩:=q
 refine ⟨_,rfl,?_,ah⟩
 simp only [Rel]
 exact ⟨_,rfl,_,_,rfl,rfl,_,_,rfl,rfl,rfl⟩
theorem Uh (s sub:List UInt8) (aQ:s.length≤100000) (h:af):e7 Tryz.prog 159 [.str s,.str sub] h (.bool (Lib.contains s sub)) h:=by
 refine w' (by decide) ⟨_,Tryz.func159,by kernel_rfl⟩ fun E xs w ai al=>?_
 obtain ⟨y,cu,rfl,au,z,h2,rfl,aC,rfl⟩:=al
 simp only [Rel] at au aC
 subst au aC
 obtain ⟨m,hm⟩:=ai.maxLen
 refine (IV ⟨⟨s⟩⟩ ⟨⟨sub⟩⟩ m w (by show s.length<4294967281;omega) hm).mono fun e aj q=>?_
 obtain ⟨rfl,rfl⟩:=q
 refine ⟨_,rfl,?_,Below.refl _ _⟩
 simp only [Rel]
theorem QF (s:List UInt8) (n:Int) (ai:s.length≤18) (h:Lib.atoi s=some n) (ag:af):e7 Tryz.prog 166 [.str s] ag (.tuple [.int .i64 n,.nilIface]) ag:=by
 refine w' (by decide) ⟨_,Tryz.func166,by kernel_rfl⟩ fun E xs w rY al=>?_
 obtain ⟨y,cu,rfl,au,rfl⟩:=al
 simp only [Rel] at au
 subst au
 refine (QG ⟨⟨s⟩⟩ n ai h w).mono fun e aj q=>?_
 obtain ⟨rfl,ah⟩:=q
 refine ⟨_,rfl,?_,ah⟩
 simp only [Rel]
 exact ⟨_,rfl,_,_,rfl,rfl,_,_,rfl,rfl,rfl⟩
theorem acB (s:List UInt8) (u:Nat) (ai:s.length≤100000) (h:Lib.parseUintB 64 s=.ok u) (ag:af):e7 Tryz.prog 155 [.str s,.int .i64 10,.int .i64 64] ag (.tuple [.int .u64 u,.nilIface]) ag:=by
 refine w' (by decide) ⟨_,Tryz.func155,by kernel_rfl⟩ fun E xs w rY al=>?_
 obtain ⟨y,cu,rfl,au,z,h2,rfl,aC,t,cg,rfl,aM,rfl⟩:=al
 simp only [Rel] at au aC aM
 subst au aC aM
 refine (acC ⟨⟨s⟩⟩ (by show s.length≤9223372036854775806;omega) u h w).mono fun e aj q=>?_
 obtain ⟨rfl,ah⟩:=q
 refine ⟨_,rfl,?_,ah⟩
 simp only [Rel]
 exact ⟨_,rfl,_,_,rfl,rfl,_,_,rfl,rfl,rfl⟩
def UZ:TypeId:=Tryz.Fw.t 39
theorem acD (s:List UInt8) (ai:s.length≤100000) (h:Lib.parseUintB 64 s=.range) (ag:af):e7 Tryz.prog 155 [.str s,.int .i64 10,.int .i64 64] ag (.tuple [.int .u64 18446744073709551615,.iface UZ .bad]) ag:=by
 refine w' (by decide) ⟨_,Tryz.func155,by kernel_rfl⟩ fun E xs w rY al=>?_
 obtain ⟨y,cu,rfl,au,z,h2,rfl,aC,t,cg,rfl,aM,rfl⟩:=al
 simp only [Rel] at au aC aM
 subst au aC aM
 refine (acE ⟨⟨s⟩⟩ (by show s.length≤281474976710656;omega) h w rY.JA).mono fun e aj q=>?_
 obtain ⟨⟨p,rfl⟩,ah⟩:=q
 refine ⟨_,rfl,?_,ah⟩
 simp only [Rel]
 exact ⟨_,rfl,_,_,rfl,rfl,_,_,rfl,⟨p,rfl,trivial⟩,rfl⟩
end Go.Proofs.YthemdhlheglhoaaGreatDoor
namespace Go.Proofs.YthemdhlheglhoaaGreatDoor
open Go a6
def kI (s:List UInt8) (i:Nat):Nat:=if decodeL s i=(65533,1) then 0 else (decodeL s i).2
def pg:Nat→List UInt8→Nat→Nat
 | 0,s,_=>s.length
 | f+1,s,a=>if a<s.length then (if kI s a=0 then a else pg f s (a+kI s a)) else s.length
def oc (s:List UInt8) (a:Nat):Nat:=pg (s.length-a) s a
def qF (s:List UInt8):Nat:=oc s 0
theorem NJ (s:List UInt8):∀(f g a:Nat),s.length-a≤f→s.length-a≤g→pg f s a=pg g s a
 | 0,g,a,aa,ae=>by
   cases g with
   | zero=>rfl
   | succ g=>simp only [pg];rw [if_neg (by omega)]
 | f+1,0,a,aa,ae=>by simp only [pg];rw [if_neg (by omega)]
 | f+1,g+1,a,aa,ae=>by
   simp only [pg]
   by_cases br:a<s.length
   · rw [if_pos br,if_pos br]
     by_cases aF:kI s a=0
     · rw [if_pos aF,if_pos aF]
     · rw [if_neg aF,if_neg aF]
       exact NJ s f g _ (by omega) (by omega)
   · rw [if_neg br,if_neg br]
theorem NI {s:List UInt8} {a:Nat} (h:s.length≤a):oc s a=s.length:=by
 unfold oc
 rw [show s.length-a=0 from by omega]
 rfl
theorem adm {s:List UInt8} {a:Nat} (h:a<s.length) (aF:kI s a=0):oc s a=a:=by
 unfold oc
 rw [show s.length-a=s.length-a-1+1 from by omega,pg,if_pos h,if_pos aF]
theorem GG {s:List UInt8} {a:Nat} (h:a<s.length) (aF:kI s a≠0):oc s a=oc s (a+kI s a):=by
 unfold oc
 rw [show s.length-a=s.length-a-1+1 from by omega,pg,if_pos h,if_neg aF]
 exact NJ s _ _ _ (by omega) (by omega)
def eF (c:UInt8):Bool:=kJ c.toNat
def eH (c:UInt8):Bool:=qi c.toNat
def hH (l:List UInt8):Nat:=l.foldl (fun n c=>10 * n + (c.toNat-48)) 0
abbrev pM:=Except Int (Int × Int × List UInt8 × Nat)
def uI (r:List UInt8):pM:=
 let t:=r.takeWhile eF
 if 2147483647<hH t then .error 254 else .ok (1,(if 1073741823 < (hH t:Int) then (hH t:Int)-2147483648 else hH t),[],t.length)
def mD:List UInt8→Option (UInt8 × Nat)
 | []=>none
 | c::r=>if c=110 then some (10,1) else if c=116 then some (9,1) else if c=34 then some (34,1) else if c=92 then some (92,1) else
   if 2≤r.length∧eF c∧eF (r[0]?.getD 0)∧eF (r[1]?.getD 0)∧hH (c::r.take 2)<256 then some ((hH (c::r.take 2)).toUInt8,3) else none
def sI:Nat→List UInt8→Option (List UInt8 × Nat)
 | 0,_=>none
 | _+1,[]=>none
 | f+1,c::r=>if c=34 then some ([],1) else if c=92 then (match mD r with
    | none=>none
    | some (b,n)=>(sI f (r.drop n)).map fun q=>(b::q.1,q.2+n+1))
   else if c<32∨c=127 then none else (sI f r).map fun q=>(c::q.1,q.2+1)
def nk (r:List UInt8):Option (List UInt8 × Nat):=sI r.length r
def po (r:List UInt8):pM:=
 match nk r with
 | none=>.error 252
 | some (b,n)=>if 4096<b.length then .error 255 else .ok (2,0,b,n+1)
def qh:List (List UInt8):=[[97,110,100],[98,101,103,105,110],[101,108,115,101],[101,110,100],[101,120,99,101,112,116,105,111,110],[102,97,108,115,101],[102,117,110],[105,102],[105,110],[108,101,116],[109,97,116,99,104],[109,111,100],[111,102],[114,97,105,115,101],[114,101,99],[116,104,101,110],[116,114,117,101],[116,114,121],[116,121,112,101],[119,105,116,104]]
def h0:List (List UInt8):=[[59,59],[58,61],[45,62],[60,61],[59],[40],[41],[44],[61],[60],[43],[45],[42],[47],[124],[33],[95]]
def l6 (t:List UInt8):Bool:=qh.contains t
def iD (kind:Int) (r:List UInt8):pM:=
 let t:=r.takeWhile eH
 if kind=3∧t=[95] then .ok (7,0,t,t.length) else if kind=3∧l6 t then .ok (6,0,t,t.length) else if 64<t.length then .error 255 else .ok (kind,0,t,t.length)
def uY (r:List UInt8):pM:=
 match h0.find? (·.isPrefixOf r) with
 | some t=>.ok (7,0,t,t.length)
 | none=>.error 251
def kd:List UInt8→Bool
 | d::_=>fQ d.toNat
 | []=>false
def fP:List UInt8→pM
 | []=>.error 0
 | c::r=>if eF c then uI (c::r) else if c=34 then po r else if fQ c.toNat||c=95 then iD 3 (c::r) else if kM c.toNat then iD 4 (c::r) else
   if c=39∧kd r then (iD 5 r).map fun q=>(q.1,q.2.1,q.2.2.1,q.2.2.2+1) else uY (c::r)
structure b8 where
 kind:Int
 num:Int
 pos:Nat
 text:List UInt8
deriving DecidableEq
def blank (c:UInt8):Bool:=c=9||c=10||c=13||c=32
def vX (w:b8):Except (Int × Nat) (List b8)→Except (Int × Nat) (List b8)
 | .ok ws=>.ok (w::ws)
 | .error e=>.error e
def lx:Nat→List UInt8→Nat→Except (Int × Nat) (List b8)
 | 0,_,_=>.ok []
 | _+1,[],_=>.ok []
 | f+1,c::r,p=>if blank c then lx f r (p+1) else if ([40,42]:List UInt8).isPrefixOf (c::r) then (match ha (c::r) 0 with
    | none=>.error (253,p)
    | some n=>lx f ((c::r).drop n) (p+n))
   else match fP (c::r) with
    | .error e=>.error (e,p)
    | .ok q=>vX ⟨q.1,q.2.1,p,q.2.2.1⟩ (lx f ((c::r).drop q.2.2.2) (p+q.2.2.2))
def n0 (r:List UInt8) (p:Nat):Except (Int × Nat) (List b8):=lx r.length r p
def ly (s:List UInt8):Except (Int × Nat) (List b8):=
 if 65536<s.length then .error (3,0) else if qF s<s.length then .error (250,qF s) else n0 s 0
theorem G6 {p:UInt8→Bool} {c:UInt8} {r:List UInt8} (h:p c=true):1≤((c::r).takeWhile p).length:=by
 simp only [List.takeWhile_cons,h,if_true,List.length_cons]
 omega
theorem adT {t:List UInt8} (h:t ∈ h0):1≤t.length:=by
 revert t
 decide
theorem GU {c:UInt8} (h:fQ c.toNat=true):eH c=true:=by unfold eH qi;rw [h];simp
theorem J3 {c:UInt8} (h:kM c.toNat=true):eH c=true:=by unfold eH qi;rw [h];simp
theorem OE {c:UInt8} (h:c=95):eH c=true:=by subst h;decide
theorem Mk {k:Int} {r:List UInt8} {q:Int × Int × List UInt8 × Nat} (h:iD k r=.ok q):q.2.2.2=(r.takeWhile eH).length:=by
 unfold iD at h
 simp only at h
 split at h
 · cases h;rfl
 · split at h
   · cases h;rfl
   · split at h
     · cases h
     · cases h;rfl
theorem FN {r:List UInt8} {q:Int × Int × List UInt8 × Nat} (h:fP r=.ok q):1≤q.2.2.2:=by
 match r,h with
 | c::r,h=>
   simp only [fP] at h
   split at h
   · rename_i a1
     unfold uI at h
     simp only at h
     split at h
     · cases h
     · cases h
       exact G6 a1
   · split at h
     · unfold po at h
       split at h
       · cases h
       · split at h
         · cases h
         · cases h;simp only;omega
     · split at h
       · rename_i aQ
         rw [Mk h]
         simp only [Bool.or_eq_true,decide_eq_true_eq] at aQ
         exact G6 (aQ.elim GU OE)
       · split at h
         · rename_i aQ
           rw [Mk h]
           exact G6 (J3 aQ)
         · split at h
           · cases aV:iD 5 r with
             | error e=>rw [aV] at h;cases h
             | ok dX=>rw [aV] at h;cases h;simp only;omega
           · unfold uY at h
             split at h
             · rename_i t aA
               cases h
               exact adT (List.mem_of_find?_eq_some aA)
             · cases h
theorem Ap:∀{r:List UInt8} {d:Int} {n:Nat},ha r d=some n→2≤n
 | [],d,n,h=>by simp [ha] at h
 | [_],d,n,h=>by simp [ha] at h
 | x::y::r,d,n,h=>by
   rw [ha] at h
   split at h
   · cases az:ha r (d+1) with
     | none=>rw [az] at h;cases h
     | some m=>rw [az] at h;cases h;simp only;omega
   · split at h
     · split at h
       · cases h;omega
       · cases az:ha r (d-1) with
         | none=>rw [az] at h;cases h
         | some m=>rw [az] at h;cases h;simp only;omega
     · cases az:ha (y::r) d with
       | none=>rw [az] at h;cases h
       | some m=>rw [az] at h;cases h;have:=Ap az;simp only;omega
theorem xc:∀(f g:Nat) (r:List UInt8) (p:Nat),r.length≤f→r.length≤g→lx f r p=lx g r p
 | 0,g,r,p,aa,ae=>by
   have:r=[]:=List.length_eq_zero_iff.1 (by omega)
   subst this
   cases g<;>rfl
 | f+1,0,r,p,aa,ae=>by
   have:r=[]:=List.length_eq_zero_iff.1 (by omega)
   subst this
   rfl
 | f+1,g+1,[],p,aa,ae=>rfl
 | f+1,g+1,c::r,p,aa,ae=>by
   simp only [List.length_cons] at aa ae
   simp only [lx]
   split
   · exact xc f g _ _ (by omega) (by omega)
   · split
     · split
       · rfl
       · rename_i n aV
         have:=Ap aV
         exact xc f g _ _ (by rw [List.length_drop,List.length_cons];omega) (by rw [List.length_drop,List.length_cons];omega)
     · split
       · rfl
       · rename_i q az
         have:=FN az
         rw [xc f g _ _ (by rw [List.length_drop,List.length_cons];omega) (by rw [List.length_drop,List.length_cons];omega)]
theorem L1 (c:UInt8) (r:List UInt8) (p:Nat):n0 (c::r) p=if blank c then n0 r (p+1) else if ([40,42]:List UInt8).isPrefixOf (c::r) then (match ha (c::r) 0 with
 | none=>.error (253,p)
 | some n=>n0 ((c::r).drop n) (p+n))
 else match fP (c::r) with
  | .error e=>.error (e,p)
  | .ok q=>vX ⟨q.1,q.2.1,p,q.2.2.1⟩ (n0 ((c::r).drop q.2.2.2) (p+q.2.2.2)):=by
 unfold n0
 simp only [List.length_cons,lx]
 split
 · rfl
 · split
   · split
     · rfl
     · rename_i n aV
       have:=Ap aV
       exact xc _ _ _ _ (by rw [List.length_drop,List.length_cons];omega) (Nat.le_refl _)
   · split
     · rfl
     · rename_i q az
       have:=FN az
       rw [xc _ _ _ _ (by rw [List.length_drop,List.length_cons];omega) (Nat.le_refl _)]
theorem G8:∀(f g:Nat) (r:List UInt8),r.length≤f→r.length≤g→sI f r=sI g r
 | 0,g,r,aa,ae=>by
   have:r=[]:=List.length_eq_zero_iff.1 (by omega)
   subst this
   cases g<;>rfl
 | f+1,0,r,aa,ae=>by
   have:r=[]:=List.length_eq_zero_iff.1 (by omega)
   subst this
   rfl
 | f+1,g+1,[],aa,ae=>rfl
 | f+1,g+1,c::r,aa,ae=>by
   simp only [List.length_cons] at aa ae
   simp only [sI]
   split
   · rfl
   · split
     · split
       · rfl
       · rw [G8 f g _ (by rw [List.length_drop];omega) (by rw [List.length_drop];omega)]
     · split
       · rfl
       · rw [G8 f g _ (by omega) (by omega)]
theorem aey:nk []=none:=rfl
theorem aex (c:UInt8) (r:List UInt8):nk (c::r)=if c=34 then some ([],1) else if c=92 then (match mD r with
 | none=>none
 | some (b,n)=>(nk (r.drop n)).map fun q=>(b::q.1,q.2+n+1))
 else if c<32∨c=127 then none else (nk r).map fun q=>(c::q.1,q.2+1):=by
 unfold nk
 simp only [List.length_cons,sI]
 split
 · rfl
 · split
   · split
     · rfl
     · rw [G8 _ _ _ (by rw [List.length_drop];omega) (Nat.le_refl _)]
   · rfl
theorem JS:∀(l:List UInt8) (a:Nat),a≤l.foldl (fun n c=>10 * n + (c.toNat-48)) a
 | [],a=>Nat.le_refl _
 | c::l,a=>by
   simp only [List.foldl_cons]
   exact Nat.le_trans (by omega) (JS l _)
def pW (a:Nat) (l:List UInt8):Nat:=l.foldl (fun n c=>10 * n + (c.toNat-48)) a
theorem Vt (a:Nat) (c:UInt8) (l:List UInt8):pW a (c::l)=pW (10 * a + (c.toNat-48)) l:=by unfold pW;rw [List.foldl_cons]
theorem acA (M:Nat) (cE:M<18446744073709551620) (l:List UInt8):∀(a:Nat),(∀c ∈ l,eF c=true)→(pW a l≤M→Lib.parseUintM M a l=.ok (pW a l))∧(a≤M→¬pW a l≤M→Lib.parseUintM M a l=.range):=by
 induction l with
 | nil=>
   intro a _
   refine ⟨fun _=>?_,fun aa ae=>absurd aa ae⟩
   simp only [Lib.parseUintM,pW,List.foldl_nil]
 | cons c l Yq=>
   intro a h
   have aF:=h c (List.mem_cons_self ..)
   simp only [eF,kJ,Bool.and_eq_true,decide_eq_true_eq] at aF
   have Wv:48≤c.toNat∧c.toNat≤57:=by omega
   have bh:=Yq (10 * a + (c.toNat-48)) (fun x al=>h x (List.mem_cons_of_mem _ al))
   have hm:10 * a + (c.toNat-48)≤pW (10 * a + (c.toNat-48)) l:=JS l (10 * a + (c.toNat-48))
   simp only [Lib.parseUintM,Wv,and_self,if_true]
   rw [Nat.mul_comm a 10,Vt]
   have jM:10 * a≤10 * a + (c.toNat-48):=Nat.le_add_right _ _
   generalize 10 * a + (c.toNat-48)=A at bh hm jM ⊢
   refine ⟨fun aP=>?_,fun br h8=>?_⟩
   · rw [if_neg (by omega),if_neg (by omega)]
     exact bh.1 aP
   · by_cases aa:1844674407370955162≤a
     · rw [if_pos aa]
     · rw [if_neg aa]
       by_cases ae:M<A
       · rw [if_pos ae]
       · rw [if_neg ae]
         exact bh.2 (by omega) h8
theorem acz (l:List UInt8) (h:∀c ∈ l,eF c=true) (ai:l≠[]):(hH l≤18446744073709551615→Lib.parseUintB 64 l=.ok (hH l))∧(¬hH l≤18446744073709551615→Lib.parseUintB 64 l=.range):=by
 unfold Lib.parseUintB
 rw [if_neg ai,show (2 ^ 64-1:Nat)=18446744073709551615 from by decide]
 have:=acA 18446744073709551615 (by omega) l 0 h
 exact ⟨this.1,this.2 (Nat.zero_le _)⟩
structure lL (s:List UInt8) (p:Nat) (b:aO) (h:af) (res:pM) (x:V) (ab:af):Prop where
 mod:Mod (fun q=>q=b) h ab
 res:∃k n t,x=.agg [.int .i64 k,.int .i64 n,.int .i64 0,.str t]∧match res with
  | .ok q=>k=q.1∧n=q.2.1∧t=q.2.2.1∧ab.get b=ew s ((p+q.2.2.2:Nat):Int) 0∧p+q.2.2.2≤s.length
  | .error e=>e≠0∧∃bg:Int,ab.get b=ew s bg e
theorem FK {P:Program}:(ej.jj true 5).run P .nilIface .nilIface=some (.bool false):=rfl
theorem abB {P:Program} (T:TypeId) (x:V):(ej.jj true 5).run P (.iface T x) .nilIface=some (.bool true):=rfl
theorem Oo {p:UInt8→Bool} {l:List UInt8}:∀c ∈ l.takeWhile p,p c=true:=fun c aF=>by
 induction l with
 | nil=>simp at aF
 | cons x l bh=>
   simp only [List.takeWhile_cons] at aF
   split at aF
   · rename_i al
     rcases List.mem_cons.1 aF with rfl | aF
     · exact al
     · exact bh aF
   · simp at aF
theorem Oq (p:UInt8→Bool) (s:List UInt8) (a:Nat):((s.drop a).takeWhile p).length≤s.length-a:=by
 have:=Ot p (s.drop a)
 rwa [List.length_drop] at this
theorem abR (s:List UInt8) (a0:Nat) (b:aO) (h:af) (ah:h.get b=ew s a0 0) (a_:a0<s.length) (aQ:s.length≤100000) (fD:Old h b) (a1:eF s[a0]=true):
 bI Tryz.prog 141 [.ptr b 0] h (lL s a0 b h (uI (s.drop a0))):=by
 refine RO rfl (df ?_)
 unfold Cv
 have bZ:(b=aq h.next)=False:=xj fD (Nat.le_refl _)
 have cD:(aq h.next=b)=False:=by rw [←bZ];exact propext eq_comm
 simp +contextual only [ah,bZ,cD,↓aw,aH,simprocAttr]
 have al:Ext h (h.new (.bb [.int .i64 0,.int .i64 0,.int .i64 0,.str []] 0 false)):=(Ext.refl h).new _
 refine cF (NM s a0 0 b 140 kJ _ (by rw [al.get _ fD,ah]) (by omega) aQ (by decide) (fun c h=>th c h)) ?_
 rintro x aa ⟨rfl,hm,aE⟩
 have iN:(fun c:UInt8=>kJ (c.toNat:Int))=eF:=rfl
 rw [iN] at aE ⊢
 have r1:Mod (fun q=>q=b) h aa:=(al.mod _).trans hm
 have g1:aa.get (aq h.next)=.bb [.int .i64 0,.int .i64 0,.int .i64 0,.str []] 0 false:=by
  rw [hm.get _ (fj (by rw [fF];omega)) (by rw [cD];exact id)]
  simp only [↓aw,aH,simprocAttr]
 have dp:(s.drop a0).takeWhile eF≠[]:=by
  rw [drop_cons a_,List.takeWhile_cons,a1]
  simp
 have hlen:=Oq eF s a0
 have ag:=acz ((s.drop a0).takeWhile eF) Oo dp
 unfold ew at aE
 have r2:uI (s.drop a0)=if 2147483647<hH ((s.drop a0).takeWhile eF) then .error 254 else .ok (1,(if 1073741823 < (hH ((s.drop a0).takeWhile eF):Int) then (hH ((s.drop a0).takeWhile eF):Int)-2147483648 else hH ((s.drop a0).takeWhile eF)),[],((s.drop a0).takeWhile eF).length):=rfl
 rw [r2]
 generalize (s.drop a0).takeWhile eF=t at *
 simp +contextual only [↓aw,aH,simprocAttr]
 by_cases wj:hH t≤18446744073709551615
 · refine fe (acB t (hH t) (by omega) (ag.1 wj) aa) ?_
   generalize hH t=u at *
   by_cases DR:(2147483647:Int) < (u:Int)
   · have tz:2147483647<u:=by omega
     simp +contextual only [FK,DR,g1,aE,bZ,cD,↓aw,aH,simprocAttr]
     refine ⟨(r1.set (fun _=>rfl) _).set (fun q=>absurd (show ei (aq h.next)<h.next from q) (by rw [c7];omega)) _,?_⟩
     rw [if_pos tz]
     refine ⟨_,_,_,rfl,by decide,((a0+t.length:Nat):Int),?_⟩
     simp only [ew,bZ,cD,↓aw,aH,simprocAttr]
   · have tz:¬2147483647<u:=by omega
     have bN:IntKind.i64.wrap (u:Int)=(u:Int):=wrap_i64 (by omega) (by omega)
     have bM:IntKind.i64.wrap ((u:Int)-2147483648)=(u:Int)-2147483648:=wrap_i64 (by omega) (by omega)
     by_cases J7:(1073741823:Int) < (u:Int)
     · simp +contextual only [FK,DR,tz,J7,g1,aE,bZ,cD,bN,bM,↓aw,aH,simprocAttr]
       refine ⟨(r1.set (fun q=>absurd (show ei (aq h.next)<h.next from q) (by rw [c7];omega)) _),?_⟩
       refine ⟨_,_,_,rfl,rfl,rfl,rfl,?_,by show a0+t.length≤s.length;omega⟩
       simp only [ew,aE,bZ,cD,↓aw,aH,simprocAttr]
     · simp +contextual only [FK,DR,tz,J7,g1,aE,bZ,cD,bN,bM,↓aw,aH,simprocAttr]
       refine ⟨(r1.set (fun q=>absurd (show ei (aq h.next)<h.next from q) (by rw [c7];omega)) _),?_⟩
       refine ⟨_,_,_,rfl,rfl,rfl,rfl,?_,by show a0+t.length≤s.length;omega⟩
       simp only [ew,aE,bZ,cD,↓aw,aH,simprocAttr]
 · refine fe (acD t (by omega) (ag.2 wj) aa) ?_
   have tz:2147483647<hH t:=by omega
   rw [if_pos tz]
   simp +contextual only [abB,g1,aE,bZ,cD,↓aw,aH,simprocAttr]
   refine ⟨(r1.set (fun _=>rfl) _).set (fun q=>absurd (show ei (aq h.next)<h.next from q) (by rw [c7];omega)) _,?_⟩
   refine ⟨_,_,_,rfl,by decide,((a0+t.length:Nat):Int),?_⟩
   simp only [ew,bZ,cD,↓aw,aH,simprocAttr]
theorem OB (c:UInt8):((c.toNat:Int)).toNat.toUInt8=c:=by
 rw [Int.toNat_natCast]
 simp
theorem sL (c:UInt8) (n:Nat) (aV:n<256):((c.toNat:Int)=(n:Int))=(c=n.toUInt8):=by
 apply propext
 constructor
 · intro q
   have:c.toNat=n:=by omega
   rw [←UInt8.toNat_inj,this]
   simp
   omega
 · intro q
   subst q
   simp
   omega
theorem U2 (c:UInt8):Lib.indexByte [110,116,34,92] c=if c=110 then 0 else if c=116 then 1 else if c=34 then 2 else if c=92 then 3 else -1:=by
 simp only [Lib.indexByte,beq_iff_eq]
 by_cases aa:c=110
 · subst aa;decide
 · by_cases ae:c=116
   · subst ae;decide
   · by_cases aI:c=34
     · subst aI;decide
     · by_cases bo:c=92
       · subst bo;decide
       · have aN:¬(110:UInt8)=c:=fun q=>aa q.symm
         have bf:¬(116:UInt8)=c:=fun q=>ae q.symm
         have bT:¬(34:UInt8)=c:=fun q=>aI q.symm
         have dA:¬(92:UInt8)=c:=fun q=>bo q.symm
         simp only [aa,ae,aI,bo,aN,bf,bT,dA,if_false]
         rfl
theorem Dl {c:UInt8} (h:eF c=true):Lib.digitVal c=some (c.toNat-48):=by
 unfold Lib.digitVal
 unfold eF kJ at h
 simp only [Bool.and_eq_true,decide_eq_true_eq] at h
 rw [if_pos (by omega)]
theorem QE {a b c:UInt8} (aa:eF a=true) (ae:eF b=true) (aI:eF c=true):Lib.atoi [a,b,c]=some ((hH [a,b,c]:Nat):Int):=by
 have br:=aa
 unfold eF kJ at br
 simp only [Bool.and_eq_true,decide_eq_true_eq] at br
 have cr:(a == 45)=false:=by rw [beq_eq_false_iff_ne];rintro rfl;revert br;decide
 have gr:(a == 43)=false:=by rw [beq_eq_false_iff_ne];rintro rfl;revert br;decide
 simp [Lib.atoi,cr,gr,Lib.decNat,Lib.decFrom,Dl aa,Dl ae,Dl aI,hH]
 omega
theorem U3 (s:List UInt8) (a0:Nat) (b:aO) (h:af) (ah:h.get b=ew s a0 0) (a_:a0<s.length) (aQ:s.length≤100000) (fD:Old h b):
 bI Tryz.prog 157 [.ptr b 0] h fun x ab=>Mod (fun q=>q=b) h ab∧match mD (s.drop (a0+1)) with
  | some (c,n)=>x=.int .u8 (c.toNat:Int)∧ab.get b=ew s ((a0+1+n:Nat):Int) 0∧a0+1+n≤s.length
  | none=>x=.int .u8 0∧ab.get b=ew s ((a0+1:Nat):Int) 252:=by
 refine Sa rfl (df ?_)
 unfold CE
 unfold ew at ah ⊢
 have bN:IntKind.i64.wrap ((a0:Int)+1)=((a0+1:Nat):Int):=by rw [wrap_i64 (by omega) (by omega)];rfl
 have f0:(0≤((a0+1:Nat):Int))=True:=eq_true (by omega)
 have f1:(((a0+1:Nat):Int)≤(s.length:Int))=True:=eq_true (by omega)
 have rX:(s.drop (a0+1)).length=s.length - (a0+1):=List.length_drop
 have z0:((0:Int)≤0)=True:=eq_true (by omega)
 have mc:∀v,a6.Mod (fun q=>q=b) h ((h.set b v)):=fun v=>(Mod.refl (fun q=>q=b) h).set (fun _=>rfl) _
 cases cv:s.drop (a0+1) with
 | nil=>
   simp +contextual only [ah,bN,f0,f1,Int.toNat_natCast,cv,List.length_nil,Int.natCast_zero,↓aw,aH,simprocAttr]
   refine ⟨(mc _).set (fun _=>rfl) _,?_⟩
   simp only [mD,c8,if_true,true_and]
 | cons c r=>
   rw [cv] at rX
   rw [List.length_cons] at rX
   have cz:(c::r=[])=False:=eq_false (by simp)
   have f2:((0:Int) < ((r.length+1:Nat):Int))=True:=eq_true (by omega)
   simp +contextual only [ah,bN,f0,f1,f2,cz,Int.toNat_natCast,cv,Int.reduceToNat,z0,↓aw,aH,simprocAttr]
   refine fe (Lf _ _ _) ?_
   rw [OB,U2]
   have bM:IntKind.i64.wrap (((a0+1:Nat):Int)+1)=((a0+2:Nat):Int):=by rw [wrap_i64 (by omega) (by omega)];omega
   by_cases bE:c=110
   · subst bE
     simp +contextual only [ah,bN,bM,f0,f1,f2,cz,Int.toNat_natCast,cv,Int.reduceToNat,z0,List.length_cons,List.length_nil,Nat.reduceAdd,Int.reduceLT,Int.cast_ofNat_Int,↓aw,aH,simprocAttr]
     refine ⟨(mc _).set (fun _=>rfl) _,rfl,?_⟩
     simp only [c8,if_true]
     refine ⟨trivial,by omega⟩
   by_cases bR:c=116
   · subst bR
     simp +contextual only [ah,bN,bM,f0,f1,f2,cz,Int.toNat_natCast,cv,Int.reduceToNat,z0,List.length_cons,List.length_nil,Nat.reduceAdd,Int.reduceLT,Int.cast_ofNat_Int,bE,↓aw,aH,simprocAttr]
     refine ⟨(mc _).set (fun _=>rfl) _,rfl,?_⟩
     simp only [c8,if_true]
     refine ⟨trivial,by omega⟩
   by_cases c3:c=34
   · subst c3
     simp +contextual only [ah,bN,bM,f0,f1,f2,cz,Int.toNat_natCast,cv,Int.reduceToNat,z0,List.length_cons,List.length_nil,Nat.reduceAdd,Int.reduceLT,Int.cast_ofNat_Int,bE,bR,↓aw,aH,simprocAttr]
     refine ⟨(mc _).set (fun _=>rfl) _,rfl,?_⟩
     simp only [c8,if_true]
     refine ⟨trivial,by omega⟩
   by_cases dh:c=92
   · subst dh
     simp +contextual only [ah,bN,bM,f0,f1,f2,cz,Int.toNat_natCast,cv,Int.reduceToNat,z0,List.length_cons,List.length_nil,Nat.reduceAdd,Int.reduceLT,Int.cast_ofNat_Int,bE,bR,c3,↓aw,aH,simprocAttr]
     refine ⟨(mc _).set (fun _=>rfl) _,rfl,?_⟩
     simp only [c8,if_true]
     refine ⟨trivial,by omega⟩
   match r,cv,rX,f2,cz with
   | [],cv,rX,f2,cz=>
     simp +contextual only [ah,bN,bM,f0,f1,f2,cz,Int.toNat_natCast,cv,Int.reduceToNat,z0,List.length_cons,List.length_nil,Nat.reduceAdd,Int.reduceLT,Int.cast_ofNat_Int,bE,bR,c3,dh,↓aw,aH,simprocAttr]
     refine ⟨(mc _).set (fun _=>rfl) _,?_⟩
     simp [mD,bE,bR,c3,dh,c8]
   | [_],cv,rX,f2,cz=>
     simp +contextual only [ah,bN,bM,f0,f1,f2,cz,Int.toNat_natCast,cv,Int.reduceToNat,z0,List.length_cons,List.length_nil,Nat.reduceAdd,Int.reduceLT,Int.cast_ofNat_Int,bE,bR,c3,dh,↓aw,aH,simprocAttr]
     refine ⟨(mc _).set (fun _=>rfl) _,?_⟩
     simp [mD,bE,bR,c3,dh,c8]
   | d1::d2::bq,cv,rX,f2,cz=>
     simp only [List.length_cons] at rX
     have g3:((3:Int)≤((bq.length+3:Nat):Int))=True:=eq_true (by omega)
     have g2:((2:Int) < ((bq.length+3:Nat):Int))=True:=eq_true (by omega)
     have g1:((1:Int) < ((bq.length+3:Nat):Int))=True:=eq_true (by omega)
     have g0:((0:Int) < ((bq.length+3:Nat):Int))=True:=eq_true (by omega)
     have em:mD (c::d1::d2::bq)=if eF c∧eF d1∧eF d2∧hH [c,d1,d2]<256 then some ((hH [c,d1,d2]).toUInt8,3) else none:=by
      simp [mD,bE,bR,c3,dh]
     rw [em]
     simp +contextual only [ah,bN,bM,f0,f1,g0,g1,g2,g3,cz,Int.toNat_natCast,cv,Int.reduceToNat,z0,List.length_cons,List.length_nil,Nat.reduceAdd,Int.reduceLT,Int.cast_ofNat_Int,bE,bR,c3,dh,↓aw,aH,simprocAttr]
     refine fe (th _ _) ?_
     have dg:∀x:UInt8,kJ (x.toNat:Int)=eF x:=fun _=>rfl
     simp only [dg]
     cases WH:eF c with
     | false=>
       simp +contextual only [ah,bN,bM,f0,f1,g0,g1,g2,g3,cz,Int.toNat_natCast,cv,Int.reduceToNat,z0,List.length_cons,List.length_nil,Nat.reduceAdd,Int.reduceLT,Int.cast_ofNat_Int,bE,bR,c3,dh,false_and,Bool.false_eq_true,↓aw,aH,simprocAttr]
       exact (mc _).set (fun _=>rfl) _
     | true=>
       simp +contextual only [ah,bN,bM,f0,f1,g0,g1,g2,g3,cz,Int.toNat_natCast,cv,Int.reduceToNat,z0,List.length_cons,List.length_nil,Nat.reduceAdd,Int.reduceLT,Int.cast_ofNat_Int,bE,bR,c3,dh,↓aw,aH,simprocAttr]
       refine fe (th _ _) ?_
       simp only [dg]
       cases zp:eF d1 with
       | false=>
         simp +contextual only [ah,bN,bM,f0,f1,g0,g1,g2,g3,cz,Int.toNat_natCast,cv,Int.reduceToNat,z0,List.length_cons,List.length_nil,Nat.reduceAdd,Int.reduceLT,Int.cast_ofNat_Int,bE,bR,c3,dh,false_and,and_false,Bool.false_eq_true,↓aw,aH,simprocAttr]
         exact (mc _).set (fun _=>rfl) _
       | true=>
         simp +contextual only [ah,bN,bM,f0,f1,g0,g1,g2,g3,cz,Int.toNat_natCast,cv,Int.reduceToNat,z0,List.length_cons,List.length_nil,Nat.reduceAdd,Int.reduceLT,Int.cast_ofNat_Int,bE,bR,c3,dh,↓aw,aH,simprocAttr]
         refine fe (th _ _) ?_
         simp only [dg]
         cases zq:eF d2 with
         | false=>
           simp +contextual only [ah,bN,bM,f0,f1,g0,g1,g2,g3,cz,Int.toNat_natCast,cv,Int.reduceToNat,z0,List.length_cons,List.length_nil,Nat.reduceAdd,Int.reduceLT,Int.cast_ofNat_Int,bE,bR,c3,dh,false_and,and_false,Bool.false_eq_true,↓aw,aH,simprocAttr]
           exact (mc _).set (fun _=>rfl) _
         | true=>
           have z3:((0:Int)≤3)=True:=eq_true (by omega)
           simp +contextual only [ah,bN,bM,f0,f1,g0,g1,g2,g3,z3,cz,Int.toNat_natCast,cv,Int.reduceToNat,z0,List.length_cons,List.length_nil,Nat.reduceAdd,Int.reduceLT,Int.cast_ofNat_Int,bE,bR,c3,dh,↓aw,aH,simprocAttr]
           refine fe (QF [c,d1,d2] _ (by simp) (QE WH zp zq) _) ?_
           have mu:IntKind.i64.wrap (((a0+1:Nat):Int)+3)=((a0+4:Nat):Int):=by rw [wrap_i64 (by omega) (by omega)];omega
           generalize bn:hH [c,d1,d2]=v
           by_cases K2:(v:Int)<256
           · have h1:IntKind.u8.wrap (v:Int)=((v.toUInt8).toNat:Int):=by
              simp [IntKind.wrap,IntKind.bits,IntKind.signed]
             have E6:v<256:=by omega
             simp +contextual only [ah,bN,bM,mu,h1,f0,f1,g0,g1,g2,g3,cz,K2,E6,Int.toNat_natCast,cv,Int.reduceToNat,z0,List.length_cons,List.length_nil,Nat.reduceAdd,Int.reduceLT,Int.cast_ofNat_Int,bE,bR,c3,dh,and_self,true_and,↓aw,aH,simprocAttr]
             refine ⟨(mc _).set (fun _=>rfl) _,?_⟩
             first | omega | (refine ⟨?_,by omega⟩;simp [c8]) | skip
           · have E6:¬v<256:=by omega
             simp +contextual only [ah,bN,bM,mu,f0,f1,g0,g1,g2,g3,cz,K2,E6,Int.toNat_natCast,cv,Int.reduceToNat,z0,List.length_cons,List.length_nil,Nat.reduceAdd,Int.reduceLT,Int.cast_ofNat_Int,bE,bR,c3,dh,and_false,↓aw,aH,simprocAttr]
             exact (mc _).set (fun _=>rfl) _
theorem aeN (c:UInt8) (n:Nat) (aV:n<256):((c.toNat:Int) < (n:Int))=(c<n.toUInt8):=by
 apply propext
 rw [UInt8.lt_iff_toNat_lt]
 have:(n.toUInt8).toNat=n:=by simp;omega
 rw [this]
 omega
theorem aez (s:List UInt8) (a0:Nat) (b:aO) (h:af) (ah:h.get b=ew s a0 0) (a_:a0<s.length) (aQ:s.length≤100000) (fD:Old h b):
 bI Tryz.prog 142 [.ptr b 0] h (lL s a0 b h (po (s.drop (a0+1)))):=by
 refine RR rfl (df ?_)
 unfold Cw
 have bZ:(b=aq h.next)=False:=xj fD (Nat.le_refl _)
 have cD:(aq h.next=b)=False:=by rw [←bZ];exact propext eq_comm
 have bN:IntKind.i64.wrap ((a0:Int)+1)=((a0+1:Nat):Int):=by rw [wrap_i64 (by omega) (by omega)];rfl
 unfold ew at ah
 simp +contextual only [ah,bZ,cD,bN,↓aw,aH,simprocAttr]
 have uH:∀{v:V} {ab:af} {n:Nat} {us:List V},ed (h.next+1) ab 1 v n us→∀q,v.a8 q→¬(fun q=>q=b) q:=by
  intro v ab n us dq q az he
  have aa:=dq.base az
  rw [show q=b from he] at aa
  have ae:ei b<h.next:=fD
  omega
 have QT:∀{v:V} {ab:af} {n:Nat} {us:List V},ed (h.next+1) ab 1 v n us→∀i,i<h.next+1→¬v.a8 (aq i):=by
  intro v ab n us dq i aD az
  have aa:=dq.base az
  rw [c7] at aa
  omega
 refine gE (fun r ab=>r 0=.ptr b 0∧r 2=.ptr (aq h.next) 0∧∃(a:Nat) (e:Int) (eK:List UInt8) (v:V),r 3=v∧ab.get b=.bb [.str s,.int .i64 a,.int .i64 e] 0 false∧a≤s.length∧a0+1≤a∧eK.length≤a∧
  ab.get (aq h.next)=.bb [.int .i64 0,.int .i64 0,.int .i64 0,.str []] 0 false∧Mod (fun q=>q=b) h ab∧h.next+1≤ab.next∧ed (h.next+1) ab 1 v eK.length (gW eK)∧
  ((e=0∧nk (s.drop (a0+1))=(nk (s.drop a)).map fun q=>(eK++q.1,q.2 + (a - (a0+1))))∨(e=252∧nk (s.drop (a0+1))=none)))
  (fun r ab=>(s.length - ((iC (ab.get b) 1).getD .bad).toN) + (252 - ((iC (ab.get b) 2).getD .bad).toN)) ?_ ?_
 · refine ⟨by simp only [bZ,cD,↓aw,aH,simprocAttr],by simp only [bZ,cD,↓aw,aH,simprocAttr],a0+1,0,[],.b6,by simp only [bZ,cD,↓aw,aH,simprocAttr],by simp only [bZ,cD,↓aw,aH,simprocAttr],by omega,by omega,by simp,by simp only [bZ,cD,↓aw,aH,simprocAttr],?_,?_,⟨rfl,rfl⟩,.inl ⟨rfl,?_⟩⟩
   · exact (((Ext.refl h).new _).mod (fun q=>q=b)).self _
   · rw [k2,fF];exact Nat.le_refl _
   · rw [Nat.sub_self]
     cases nk (s.drop (a0+1))<;>rfl
 · rintro r ab ⟨bk,cb,a,e,eK,v,bS,aE,bL,nX,uu,bm,hm,kh,dq,bu⟩
   unfold Iq
   have KJ:Old ab b:=hm.bO fD
   have fin:∀(ae:af) (bg:Int),nk (s.drop (a0+1))=none→Mod (fun q=>q=b) h ae→ae.get b=.bb [.str s,.int .i64 bg,.int .i64 252] 0 false→
    lL s a0 b h (po (s.drop (a0+1))) (.agg [.int .i64 0,.int .i64 0,.int .i64 0,.str []]) (ae.set (aq h.next) (.bb [.int .i64 0,.int .i64 0,.int .i64 0,.str []] 0 false)):=by
    intro ae bg aV lY wx
    unfold po
    rw [aV]
    refine ⟨lY.set (fun q=>absurd (show ei (aq h.next)<h.next from q) (by rw [c7];omega)) _,_,_,_,rfl,by decide,bg,?_⟩
    rw [c8,if_neg (by rw [cD];exact id),wx]
    rfl
   have step:∀(ae:af),Mod (fun q=>q=b) h ae→ab.next≤ae.next→ed (h.next+1) ae 1 v eK.length (gW eK)→∀(c:UInt8),∃v3 aI,lh 1 v (.slice (aq ae.next) 0 1 1) (ae.new (.bb [.int .u8 (c.toNat:Int)] 0 false))=.val v3 aI∧ed (h.next+1) aI 1 v3 (eK++[c]).length (gW (eK++[c]))∧Mod (fun q=>q=b) h aI∧h.next+1≤aI.next∧aI.get b=ae.get b∧aI.get (aq h.next)=ae.get (aq h.next):=by
    intro ae lY aga jn c
    obtain ⟨v3,aI,au,aC,aM,bG,dJ⟩:=yo (cs:=[.int .u8 (c.toNat:Int)]) (by omega) jn (by omega) (by unfold top;omega) rfl rfl
    refine ⟨v3,aI,au,by rw [List.length_append,Ih];exact aC,lY.Ou aM (fun q az=>Nat.le_trans (Nat.le_succ _) (jn.base az)),by omega,?_,?_⟩
    · exact aM.get _ (lY.bO fD) (fun az=>uH jn _ az rfl)
    · exact aM.get _ (fj (by omega)) (QT jn _ (by omega))
   rcases bu with ⟨rfl,bu⟩ | ⟨rfl,bu⟩
   · by_cases e':(s.length:Int)≤(a:Int)
     · have br:a=s.length:=by omega
       rw [br,List.drop_length,aey] at bu
       simp +contextual only [bk,cb,bS,aE,e',bm,bZ,cD,↓aw,aH,simprocAttr]
       exact fin _ _ bu (hm.set (fun _=>rfl) _) (by rw [c8,if_pos rfl])
     · have aP:a<s.length:=by omega
       rw [drop_cons aP,aex] at bu
       have f0:(0≤(a:Int))=True:=eq_true (by omega)
       have f1:((a:Int) < (s.length:Int))=True:=eq_true (by omega)
       have bM:IntKind.i64.wrap ((a:Int)+1)=((a+1:Nat):Int):=by rw [wrap_i64 (by omega) (by omega)];rfl
       have ji:(((s[a]).toNat:Int)=34)=(s[a]=34):=sL _ 34 (by omega)
       have Ds:(((s[a]).toNat:Int)=92)=(s[a]=92):=sL _ 92 (by omega)
       have Jm:(((s[a]).toNat:Int)=127)=(s[a]=127):=sL _ 127 (by omega)
       have LC:(((s[a]).toNat:Int)<32)=(s[a]<32):=aeN _ 32 (by omega)
       by_cases bE:s[a]=34
       · rw [if_pos bE] at bu
         replace bE:(s[a]=34)=True:=eq_true bE
         simp only [Option.map_some,List.append_nil] at bu
         by_cases wj:(4096:Int) < (eK.length:Int)
         · have jn:∀k b0,ed (h.next+1) ((ab.set b k).set b b0) 1 v eK.length (gW eK):=fun k b0=>dq.mod (((Mod.refl (fun q=>q=b) ab).set (fun _=>rfl) _).set (fun _=>rfl) _) (uH dq)
           simp +contextual only [bk,cb,bS,aE,e',bm,bZ,cD,f0,f1,bM,ji,bE,dq.v.len,wj,IW (jn _ _),List.getElem?_eq_getElem aP,Int.toNat_natCast,↓aw,aH,simprocAttr]
           refine ⟨((hm.set (fun _=>rfl) _).set (fun _=>rfl) _).set (fun q=>absurd (show ei (aq h.next)<h.next from q) (by rw [c7];omega)) _,_,_,_,rfl,?_⟩
           unfold po
           rw [bu]
           simp only
           rw [if_pos (by omega)]
           refine ⟨by decide,((a+1:Nat):Int),?_⟩
           simp only [ew,bZ,cD,↓aw,aH,simprocAttr]
         · have jn:∀k,ed (h.next+1) (ab.set b k) 1 v eK.length (gW eK):=fun k=>dq.mod ((Mod.refl (fun q=>q=b) ab).set (fun _=>rfl) _) (uH dq)
           simp +contextual only [bk,cb,bS,aE,e',bm,bZ,cD,f0,f1,bM,ji,bE,dq.v.len,wj,IW (jn _),List.getElem?_eq_getElem aP,Int.toNat_natCast,↓aw,aH,simprocAttr]
           refine ⟨(hm.set (fun _=>rfl) _).set (fun q=>absurd (show ei (aq h.next)<h.next from q) (by rw [c7];omega)) _,_,_,_,rfl,?_⟩
           unfold po
           rw [bu]
           simp only
           rw [if_neg (by omega)]
           refine ⟨rfl,rfl,rfl,?_,?_⟩
           · simp only [ew,bZ,cD,↓aw,aH,simprocAttr]
             rw [show a0 + (1 + (a - (a0+1))+1)=a+1 from by omega]
           · simp only;omega
       rw [if_neg bE] at bu
       by_cases bR:s[a]=92
       · rw [if_pos bR] at bu
         replace bR:(s[a]=92)=True:=eq_true bR
         simp +contextual only [bk,cb,bS,aE,e',bm,bZ,cD,f0,f1,bM,ji,Ds,bE,bR,List.getElem?_eq_getElem aP,Int.toNat_natCast,↓aw,aH,simprocAttr]
         refine cF (U3 s a b ab aE aP aQ KJ) ?_
         rintro x ae ⟨lY,al⟩
         have jn:=dq.mod lY (uH dq)
         have nV:ae.get (aq h.next)=.bb [.int .i64 0,.int .i64 0,.int .i64 0,.str []] 0 false:=by
          rw [lY.get _ (fj (by omega)) (by rw [cD];exact id),bm]
         have me:=lY.next
         obtain ⟨c,aF,zH⟩:∃c:UInt8,x=.int .u8 (c.toNat:Int)∧((∃n,mD (s.drop (a+1))=some (c,n)∧ae.get b=ew s ((a+1+n:Nat):Int) 0∧a+1+n≤s.length)∨(mD (s.drop (a+1))=none∧ae.get b=ew s ((a+1:Nat):Int) 252)):=by
          cases tO:mD (s.drop (a+1)) with
          | none=>rw [tO] at al;exact ⟨0,al.1,.inr ⟨rfl,al.2⟩⟩
          | some q=>rw [tO] at al;exact ⟨q.1,al.1,.inl ⟨q.2,rfl,al.2⟩⟩
         subst aF
         obtain ⟨v3,aI,au,aC,aM,bG,dJ,e0⟩:=step ae (hm.trans lY) me jn c
         have Gq:ed (h.next+1) aI 1 v3 (eK.length+1) (gW (eK++[c])):=by rw [List.length_append] at aC;exact aC
         have w1:aI.get (aq h.next)=.bb [.int .i64 0,.int .i64 0,.int .i64 0,.str []] 0 false:=by rw [e0,nV]
         unfold ew at zH
         rcases zH with ⟨n,tO,wx,hle⟩ | ⟨tO,wx⟩
         · simp +contextual only [au,bk,cb,aE,wx,dJ,bZ,cD,↓aw,aH,simprocAttr]
           rw [tO] at bu
           simp only at bu
           refine ⟨⟨a+1+n,0,eK++[c],rfl,hle,by omega,by simp;omega,w1,aM,bG,aC,.inl ⟨rfl,?_⟩⟩,by omega⟩
           rw [bu,List.drop_drop,Option.map_map]
           congr 1
           funext q
           simp only [Function.comp,List.append_assoc,List.singleton_append,Prod.mk.injEq,true_and]
           omega
         · simp +contextual only [au,bk,cb,aE,wx,dJ,bZ,cD,↓aw,aH,simprocAttr]
           rw [tO] at bu
           exact ⟨⟨a+1,252,eK++[c],rfl,by omega,by omega,by simp;omega,w1,aM,bG,aC,.inr ⟨rfl,bu⟩⟩,by omega⟩
       rw [if_neg bR] at bu
       by_cases c3:s[a]<32∨s[a]=127
       · rw [if_pos c3] at bu
         have gg:(decide (s[a]<32)||decide (s[a]=127))=true:=by simpa using c3
         simp +contextual only [bk,cb,bS,aE,e',bm,bZ,cD,f0,f1,bM,ji,Ds,Jm,LC,bE,bR,gg,List.getElem?_eq_getElem aP,Int.toNat_natCast,↓aw,aH,simprocAttr]
         exact ⟨⟨a,252,eK,rfl,bL,nX,uu,hm.self _,kh,dq.mod ((Mod.refl (fun q=>q=b) ab).self _) (uH dq),.inr ⟨rfl,bu⟩⟩,by omega⟩
       · rw [if_neg c3] at bu
         have gg:(decide (s[a]<32)||decide (s[a]=127))=false:=by simpa using c3
         obtain ⟨v3,aI,au,aC,aM,bG,dJ,e0⟩:=step (ab.set b (.bb [.str s,.int .i64 ((a+1:Nat):Int),.int .i64 0] 0 false)) (hm.self _) (by rw [k2];exact Nat.le_refl _) (dq.mod ((Mod.refl (fun q=>q=b) ab).self _) (uH dq)) s[a]
         simp only [k2,c8,bZ,cD,if_true,if_false] at au dJ e0
         simp +contextual only [au,bk,cb,bS,aE,e',bm,bZ,cD,f0,f1,bM,ji,Ds,Jm,LC,bE,bR,gg,dJ,List.getElem?_eq_getElem aP,Int.toNat_natCast,↓aw,aH,simprocAttr]
         refine ⟨⟨a+1,0,eK++[s[a]],rfl,by omega,by omega,by simp;omega,by rw [e0,bm],aM,bG,aC,.inl ⟨rfl,?_⟩⟩,by omega⟩
         rw [bu,Option.map_map]
         congr 1
         funext q
         simp only [Function.comp,List.append_assoc,List.singleton_append,Prod.mk.injEq,true_and]
         omega
   · simp +contextual only [bk,cb,bS,aE,bm,bZ,cD,↓aw,aH,simprocAttr]
     exact fin _ _ bu hm aE
def Fv:List UInt8:=[32,97,110,100,32,98,101,103,105,110,32,101,108,115,101,32,101,110,100,32,101,120,99,101,112,116,105,111,110,32,102,97,108,115,101,32,102,117,110,32,105,102,32,105,110,32,108,101,116,32,109,97,116,99,104,32,109,111,100,32,111,102,32,114,97,105,115,101,32,114,101,99,32,116,104,101,110,32,116,114,117,101,32,116,114,121,32,116,121,112,101,32,119,105,116,104,32]
def pV:List (List UInt8)→List UInt8
 | []=>[32]
 | w::L=>32::(w++pV L)
theorem Vn:pV qh=Fv:=by decide
theorem Vm (L:List (List UInt8)):∃r,pV L=32::r:=by cases L<;>exact ⟨_,rfl⟩
theorem index_ge (sub:List UInt8):∀l:List UInt8,-1≤Lib.index l sub
 | []=>by simp only [Lib.index];split<;>decide
 | b::l=>by
   have:=index_ge sub l
   simp only [Lib.index]
   split
   · decide
   · split<;>omega
theorem Lh (sub:List UInt8) (b:UInt8) (l:List UInt8):(0≤Lib.index (b::l) sub)↔(sub.isPrefixOf (b::l)=true∨0≤Lib.index l sub):=by
 have:=index_ge sub l
 simp only [Lib.index]
 split
 · rename_i h;simp [h]
 · rename_i h
   split
   · rename_i ae
     have:Lib.index l sub=-1:=by simpa using ae
     simp [h,this]
   · rename_i ae
     have aI:¬Lib.index l sub=-1:=by simpa using ae
     simp only [h,Bool.false_eq_true,false_or]
     omega
theorem Lj (x:List UInt8) (r:List UInt8):∀w:List UInt8,(32:UInt8) ∉ w→((0≤Lib.index (w++r) (32::x))↔0≤Lib.index r (32::x))
 | [],_=>Iff.rfl
 | b::w,h=>by
   rw [List.cons_append,Lh,Lj x r w (fun q=>h (List.mem_cons_of_mem _ q))]
   have ah:((32:UInt8) == b)=false:=by rw [beq_eq_false_iff_ne];rintro rfl;exact h (List.mem_cons_self ..)
   simp [List.isPrefixOf,ah]
theorem M3 (r:List UInt8):∀(t w:List UInt8),(32:UInt8) ∉ t→(32:UInt8) ∉ w→((t++[32]).isPrefixOf (w++32::r)=true↔t=w)
 | [],[],_,_=>by simp [List.isPrefixOf]
 | [],b::w,_,h=>by
   have ah:((32:UInt8) == b)=false:=by rw [beq_eq_false_iff_ne];rintro rfl;exact h (List.mem_cons_self ..)
   simp [List.isPrefixOf,ah]
 | a::t,[],h,_=>by
   have ah:(a == (32:UInt8))=false:=by rw [beq_eq_false_iff_ne];rintro rfl;exact h (List.mem_cons_self ..)
   simp [List.isPrefixOf,ah]
 | a::t,b::w,h,ab=>by
   have bh:=M3 r t w (fun q=>h (List.mem_cons_of_mem _ q)) (fun q=>ab (List.mem_cons_of_mem _ q))
   simp only [List.cons_append,List.isPrefixOf,Bool.and_eq_true,beq_iff_eq,bh,List.cons.injEq]
theorem Li (t:List UInt8) (aA:(32:UInt8) ∉ t):∀L:List (List UInt8),(∀w ∈ L,(32:UInt8) ∉ w)→((0≤Lib.index (pV L) (32::(t++[32])))↔t ∈ L)
 | [],_=>by
   cases t<;>simp [pV,Lib.index,List.isPrefixOf]
 | w::L,h=>by
   have bh:=Li t aA L (fun x al=>h x (List.mem_cons_of_mem _ al))
   have hw:=h w (List.mem_cons_self ..)
   obtain ⟨r,aG⟩:=Vm L
   simp only [pV]
   rw [Lh,Lj _ _ _ hw,bh,List.mem_cons]
   have:(32::(t++[32])).isPrefixOf (32::(w++pV L))=(t++[32]).isPrefixOf (w++pV L):=by simp [List.isPrefixOf]
   rw [this,aG,M3 r t w aA hw]
theorem Ui (t:List UInt8) (aA:(32:UInt8) ∉ t):Lib.contains Fv (32::(t++[32]))=l6 t:=by
 have:=Li t aA qh (by decide)
 rw [Vn] at this
 unfold Lib.contains l6
 rw [Bool.eq_iff_iff,decide_eq_true_eq,this]
 simp
theorem abj {l:List UInt8}:(32:UInt8) ∉ l.takeWhile eH:=fun h=>by
 have:=Oo _ h
 revert this
 decide
theorem Aj (s:List UInt8) (a0:Nat) (k:Int) (b:aO) (h:af) (ah:h.get b=ew s a0 0) (a_:a0≤s.length) (aQ:s.length≤100000) (fD:Old h b):
 bI Tryz.prog 144 [.ptr b 0,.int .i64 k] h (lL s a0 b h (iD k (s.drop a0))):=by
 refine RX rfl (df ?_)
 unfold Cy
 have bZ:(b=aq h.next)=False:=xj fD (Nat.le_refl _)
 have cD:(aq h.next=b)=False:=by rw [←bZ];exact propext eq_comm
 simp +contextual only [ah,bZ,cD,↓aw,aH,simprocAttr]
 have al:Ext h (h.new (.bb [.int .i64 0,.int .i64 0,.int .i64 0,.str []] 0 false)):=(Ext.refl h).new _
 refine cF (NM s a0 0 b 158 qi _ (by rw [al.get _ fD,ah]) a_ aQ (by decide) (fun c h=>aa4 c h)) ?_
 rintro x aa ⟨rfl,hm,aE⟩
 have iN:(fun c:UInt8=>qi (c.toNat:Int))=eH:=rfl
 rw [iN] at aE ⊢
 have r1:Mod (fun q=>q=b) h aa:=(al.mod _).trans hm
 have g1:aa.get (aq h.next)=.bb [.int .i64 0,.int .i64 0,.int .i64 0,.str []] 0 false:=by
  rw [hm.get _ (fj (by rw [fF];omega)) (by rw [cD];exact id)]
  simp only [↓aw,aH,simprocAttr]
 have hlen:=Oq eH s a0
 have V4:(32:UInt8) ∉ (s.drop a0).takeWhile eH:=abj
 unfold ew at aE
 have r2:iD k (s.drop a0)=if k=3∧(s.drop a0).takeWhile eH=[95] then .ok (7,0,(s.drop a0).takeWhile eH,((s.drop a0).takeWhile eH).length) else if k=3∧l6 ((s.drop a0).takeWhile eH) then .ok (6,0,(s.drop a0).takeWhile eH,((s.drop a0).takeWhile eH).length) else if 64 < ((s.drop a0).takeWhile eH).length then .error 255 else .ok (k,0,(s.drop a0).takeWhile eH,((s.drop a0).takeWhile eH).length):=rfl
 rw [r2]
 generalize (s.drop a0).takeWhile eH=t at *
 have As:∀(cM:Int),lL s a0 b h (.ok (cM,0,t,t.length)) (.agg [.int .i64 cM,.int .i64 0,.int .i64 0,.str t]) (aa.set (aq h.next) (.bb [.int .i64 cM,.int .i64 0,.int .i64 0,.str t] 0 false)):=by
  intro cM
  refine ⟨r1.fresh (Nat.le_refl _) _,_,_,_,rfl,rfl,rfl,rfl,?_,by show a0+t.length≤s.length;omega⟩
  rw [c8,if_neg (by rw [cD];exact id),aE]
  rfl
 have tail:(64<t.length→lL s a0 b h (.error 255) (.agg [.int .i64 k,.int .i64 0,.int .i64 0,.str t]) ((aa.set b (.bb [.str s,.int .i64 ((a0+t.length:Nat):Int),.int .i64 255] 0 false)).set (aq h.next) (.bb [.int .i64 k,.int .i64 0,.int .i64 0,.str t] 0 false))):=by
  intro ai
  refine ⟨(r1.self _).fresh (Nat.le_refl _) _,_,_,_,rfl,by decide,((a0+t.length:Nat):Int),?_⟩
  simp only [ew,bZ,cD,↓aw,aH,simprocAttr]
 by_cases ax:k=3
 · subst ax
   by_cases hu:t=[95]
   · simp +contextual only [g1,aE,bZ,cD,hu,true_and,↓aw,aH,simprocAttr]
     subst hu
     exact As 7
   · have t1:(1+t.length≤top)=True:=eq_true (by unfold top;omega)
     have t2:(t.length+1+1≤top)=True:=eq_true (by unfold top;omega)
     simp only [top] at t1 t2
     simp +contextual only [g1,aE,bZ,cD,hu,true_and,List.length_append,t1,t2,↓aw,aH,simprocAttr]
     refine fe (Uh Fv (32::(t++[32])) (by decide) _) ?_
     rw [Ui t V4]
     cases Ep:l6 t with
     | true=>
       simp +contextual only [g1,aE,bZ,cD,hu,true_and,and_false,Ep,List.length_append,t1,t2,↓aw,aH,simprocAttr]
       exact As 6
     | false=>
       by_cases ai:64<t.length
       · have fC:(64:Int) < (t.length:Int):=by omega
         simp +contextual only [g1,aE,bZ,cD,hu,ai,fC,true_and,and_false,Ep,List.length_append,t1,t2,Bool.false_eq_true,↓aw,aH,simprocAttr]
         exact tail ai
       · have fC:¬(64:Int) < (t.length:Int):=by omega
         simp +contextual only [g1,aE,bZ,cD,hu,ai,fC,true_and,and_false,Ep,List.length_append,t1,t2,Bool.false_eq_true,↓aw,aH,simprocAttr]
         exact As 3
 · by_cases ai:64<t.length
   · have fC:(64:Int) < (t.length:Int):=by omega
     simp +contextual only [g1,aE,bZ,cD,ax,ai,fC,false_and,↓aw,aH,simprocAttr]
     exact tail ai
   · have fC:¬(64:Int) < (t.length:Int):=by omega
     simp +contextual only [g1,aE,bZ,cD,ax,ai,fC,false_and,↓aw,aH,simprocAttr]
     exact As k
def uZ:List V:=h0.map V.str
theorem adU (h:af):bI Tryz.prog 146 [] h fun x ab=>x=.slice (aq h.next) 0 17 17∧ab=h.new (.bb uZ 0 false):=by
 refine R3 rfl (df ?_)
 unfold CA
 simp +contextual only [↓aw,aH,simprocAttr]
 rfl
theorem adS {i:Nat} (aD:i<17):uZ[i]? =some (.str (h0[i]'aD)):=by
 unfold uZ
 rw [List.getElem?_map,List.getElem?_eq_getElem (show i<h0.length from aD)]
 rfl
theorem Vk (p:List UInt8→Bool) {i:Nat} (aD:i<17):(h0.drop i).find? p=if p (h0[i]'aD) then some (h0[i]'aD) else (h0.drop (i+1)).find? p:=by
 rw [List.drop_eq_getElem_cons (show i<h0.length from aD),List.find?_cons]
 cases p h0[i]<;>rfl
theorem lL.store {s:List UInt8} {p:Nat} {b:aO} {h:af} {z b0:b1} {res:pM} {x:V} {aa:af} (w:lL s p b (h.new z) res x aa) (fD:Old h b):lL s p b h res x (aa.set (aq h.next) b0):=by
 have cD:¬(aq h.next=b):=by
  intro q
  have:ei b<h.next:=fD
  rw [←q,c7] at this
  omega
 obtain ⟨hm,k,n,t,al,aG⟩:=w
 refine ⟨((((Ext.refl h).new z).mod _).trans hm).fresh (Nat.le_refl _) _,k,n,t,al,?_⟩
 cases res with
 | ok q=>simpa only [c8,if_neg cD] using aG
 | error e=>simpa only [c8,if_neg cD] using aG
theorem abI (s:List UInt8) (a0:Nat) (b:aO) (h:af) (ah:h.get b=ew s a0 0) (a_:a0<s.length) (aQ:s.length≤100000) (fD:Old h b):
 bI Tryz.prog 127 [.ptr b 0] h (lL s a0 b h (fP (s.drop a0))):=by
 refine Ry rfl (df ?_)
 unfold Cs
 have bZ:(b=aq h.next)=False:=xj fD (Nat.le_refl _)
 have cD:(aq h.next=b)=False:=by rw [←bZ];exact propext eq_comm
 have hk:=ah
 unfold ew at ah
 have f0:(0≤(a0:Int))=True:=eq_true (by omega)
 have f1:((a0:Int) < (s.length:Int))=True:=eq_true (by omega)
 have al:Ext h (h.new (.bb [.int .i64 0,.int .i64 0,.int .i64 0,.str []] 0 false)):=(Ext.refl h).new _
 have tV:Old (h.new (.bb [.int .i64 0,.int .i64 0,.int .i64 0,.str []] 0 false)) b:=al.bO fD
 have wm:(h.new (.bb [.int .i64 0,.int .i64 0,.int .i64 0,.str []] 0 false)).get b=ew s a0 0:=by rw [al.get _ fD,hk]
 have tx:∀{res:pM} {x:V} {aa:af},lL s a0 b (h.new (.bb [.int .i64 0,.int .i64 0,.int .i64 0,.str []] 0 false)) res x aa→aa.get (aq h.next)=.bb [.int .i64 0,.int .i64 0,.int .i64 0,.str []] 0 false:=by
  intro res x aa w
  rw [w.mod.get _ (fj (by rw [fF];omega)) (by rw [cD];exact id)]
  simp only [↓aw,aH,simprocAttr]
 have a1:=drop_cons a_
 rw [a1]
 have dg:kJ ((s[a0]).toNat:Int)=eF s[a0]:=rfl
 have ji:(((s[a0]).toNat:Int)=34)=(s[a0]=34):=sL _ 34 (by omega)
 have pT:(((s[a0]).toNat:Int)=95)=(s[a0]=95):=sL _ 95 (by omega)
 have tk:(((s[a0]).toNat:Int)=39)=(s[a0]=39):=sL _ 39 (by omega)
 simp +contextual only [ah,bZ,cD,f0,f1,List.getElem?_eq_getElem a_,Int.toNat_natCast,↓aw,aH,simprocAttr]
 refine fe (th _ _) ?_
 rw [dg]
 cases aa:eF s[a0] with
 | true=>
   have dB:fP (s[a0]::s.drop (a0+1))=uI (s.drop a0):=by rw [a1];simp only [fP,aa,if_true]
   rw [dB]
   simp +contextual only [ah,bZ,cD,f0,f1,List.getElem?_eq_getElem a_,Int.toNat_natCast,↓aw,aH,simprocAttr]
   refine cF (abR s a0 b _ wm a_ aQ tV aa) ?_
   rintro x ag w
   have g1:=tx w
   obtain ⟨k,n,t,rfl,_⟩:=w.res
   simp +contextual only [g1,ah,bZ,cD,f0,f1,↓aw,aH,simprocAttr]
   exact w.store fD
 | false=>
   by_cases ae:s[a0]=34
   · have dB:fP (s[a0]::s.drop (a0+1))=po (s.drop (a0+1)):=by simp only [fP];rw [if_neg (by rw [aa];exact Bool.false_ne_true),if_pos ae]
     rw [dB]
     replace ae:=eq_true ae
     simp +contextual only [ah,bZ,cD,f0,f1,ji,ae,List.getElem?_eq_getElem a_,Int.toNat_natCast,↓aw,aH,simprocAttr]
     refine cF (aez s a0 b _ wm a_ aQ tV) ?_
     rintro x ag w
     have g1:=tx w
     obtain ⟨k,n,t,rfl,_⟩:=w.res
     simp +contextual only [g1,ah,bZ,cD,f0,f1,↓aw,aH,simprocAttr]
     exact w.store fD
   simp +contextual only [ah,bZ,cD,f0,f1,ji,ae,List.getElem?_eq_getElem a_,Int.toNat_natCast,↓aw,aH,simprocAttr]
   refine fe (A4 _ _) ?_
   by_cases aI:(fQ ((s[a0]).toNat:Int)||decide (s[a0]=95))=true
   · have dB:fP (s[a0]::s.drop (a0+1))=iD 3 (s.drop a0):=by rw [a1];simp only [fP,aa,ae,aI,Bool.false_eq_true,if_false,if_true]
     rw [dB]
     have fin:nw Tryz.prog 144 [.ptr b 0,.int .i64 3] (some 33) none [] [] (fun _=>.bad) h (fun _ _ _=>True)→True:=fun _=>trivial
     cases wT:fQ ((s[a0]).toNat:Int) with
     | true=>
       simp +contextual only [ah,bZ,cD,f0,f1,ji,ae,wT,List.getElem?_eq_getElem a_,Int.toNat_natCast,↓aw,aH,simprocAttr]
       refine cF (Aj s a0 3 b _ wm (by omega) aQ tV) ?_
       rintro x ag w
       have g1:=tx w
       obtain ⟨k,n,t,rfl,_⟩:=w.res
       simp +contextual only [g1,ah,bZ,cD,f0,f1,↓aw,aH,simprocAttr]
       exact w.store fD
     | false=>
       rw [wT,Bool.false_or,decide_eq_true_eq] at aI
       replace aI:=eq_true aI
       simp +contextual only [ah,bZ,cD,f0,f1,ji,pT,ae,aI,wT,List.getElem?_eq_getElem a_,Int.toNat_natCast,↓aw,aH,simprocAttr]
       refine cF (Aj s a0 3 b _ wm (by omega) aQ tV) ?_
       rintro x ag w
       have g1:=tx w
       obtain ⟨k,n,t,rfl,_⟩:=w.res
       simp +contextual only [g1,ah,bZ,cD,f0,f1,↓aw,aH,simprocAttr]
       exact w.store fD
   · have DQ:=aI
     rw [Bool.not_eq_true,Bool.or_eq_false_iff,decide_eq_false_iff_not] at DQ
     obtain ⟨V6,V7⟩:=DQ
     simp +contextual only [ah,bZ,cD,f0,f1,ji,pT,ae,V6,V7,List.getElem?_eq_getElem a_,Int.toNat_natCast,↓aw,aH,simprocAttr]
     refine fe (J4 _ _) ?_
     cases bo:kM ((s[a0]).toNat:Int) with
     | true=>
       have dB:fP (s[a0]::s.drop (a0+1))=iD 4 (s.drop a0):=by rw [a1];simp only [fP,aa,ae,aI,bo,Bool.false_eq_true,if_false,if_true]
       rw [dB]
       simp +contextual only [ah,bZ,cD,f0,f1,List.getElem?_eq_getElem a_,Int.toNat_natCast,↓aw,aH,simprocAttr]
       refine cF (Aj s a0 4 b _ wm (by omega) aQ tV) ?_
       rintro x ag w
       have g1:=tx w
       obtain ⟨k,n,t,rfl,_⟩:=w.res
       simp +contextual only [g1,ah,bZ,cD,f0,f1,↓aw,aH,simprocAttr]
       exact w.store fD
     | false=>
       have bN:IntKind.i64.wrap ((a0:Int)+1)=((a0+1:Nat):Int):=by rw [wrap_i64 (by omega) (by omega)];rfl
       have f2:(0≤((a0+1:Nat):Int))=True:=eq_true (by omega)
       by_cases cI:s[a0]=39∧kd (s.drop (a0+1))
       · have dB:fP (s[a0]::s.drop (a0+1))=(iD 5 (s.drop (a0+1))).map fun q=>(q.1,q.2.1,q.2.2.1,q.2.2.2+1):=by simp only [fP];rw [if_neg (by rw [aa];exact Bool.false_ne_true),if_neg ae,if_neg aI,if_neg (by rw [bo];exact Bool.false_ne_true),if_pos cI]
         rw [dB]
         obtain ⟨zg,zh⟩:=cI
         replace zg:=eq_true zg
         have aP:a0+1<s.length:=by
          by_cases q:a0+1<s.length
          · exact q
          · rw [List.drop_eq_nil_of_le (by omega)] at zh
            cases zh
         rw [drop_cons aP] at zh
         have f3:(((a0+1:Nat):Int) < (s.length:Int))=True:=eq_true (by omega)
         simp +contextual (maxSteps:=1000000) only [ah,bZ,cD,f0,f1,f2,f3,bN,ji,pT,tk,ae,zg,List.getElem?_eq_getElem a_,List.getElem?_eq_getElem aP,Int.toNat_natCast,↓aw,aH,simprocAttr]
         refine fe (A4 _ _) ?_
         rw [show fQ ((s[a0+1]).toNat:Int)=true from zh]
         simp +contextual (maxSteps:=1000000) only [ah,bZ,cD,f0,f1,f2,f3,bN,ji,pT,tk,ae,zg,List.getElem?_eq_getElem a_,List.getElem?_eq_getElem aP,Int.toNat_natCast,↓aw,aH,simprocAttr]
         have KG:Mod (fun q=>q=b) (h.new (.bb [.int .i64 0,.int .i64 0,.int .i64 0,.str []] 0 false)) ((h.new (.bb [.int .i64 0,.int .i64 0,.int .i64 0,.str []] 0 false)).set b (.bb [.str s,.int .i64 ((a0+1:Nat):Int),.int .i64 0] 0 false)):=(Mod.refl _ _).self _
         refine cF (Aj s (a0+1) 5 b _ (by rw [c8,if_pos rfl];rfl) (by omega) aQ (KG.bO tV)) ?_
         rintro x ag w
         have aj:lL s a0 b (h.new (.bb [.int .i64 0,.int .i64 0,.int .i64 0,.str []] 0 false)) ((iD 5 (s.drop (a0+1))).map fun q=>(q.1,q.2.1,q.2.2.1,q.2.2.2+1)) x ag:=by
          obtain ⟨ae3,k,n,t,afb,wr⟩:=w
          refine ⟨KG.trans ae3,k,n,t,afb,?_⟩
          cases aV:iD 5 (s.drop (a0+1)) with
          | error e=>rw [aV] at wr;exact wr
          | ok q=>
            rw [aV] at wr
            obtain ⟨bw,cb,bS,cP,dK⟩:=wr
            refine ⟨bw,cb,bS,?_,?_⟩
            · rw [cP]
              show ew s ((a0+1+q.2.2.2:Nat):Int) 0=ew s ((a0 + (q.2.2.2+1):Nat):Int) 0
              rw [show a0+1+q.2.2.2=a0 + (q.2.2.2+1) from by omega]
            · show a0 + (q.2.2.2+1)≤s.length
              omega
         have g1:=tx aj
         obtain ⟨k,n,t,rfl,_⟩:=aj.res
         simp +contextual only [g1,ah,bZ,cD,f0,f1,↓aw,aH,simprocAttr]
         exact aj.store fD
       · have dB:fP (s[a0]::s.drop (a0+1))=uY (s.drop a0):=by rw [a1];simp only [fP];rw [if_neg (by rw [aa];exact Bool.false_ne_true),if_neg ae,if_neg aI,if_neg (by rw [bo];exact Bool.false_ne_true),if_neg cI]
         rw [dB]
         have Ww:((s[a0]=39)=False)∨(((s[a0]=39)=True)∧¬a0+1<s.length)∨(((s[a0]=39)=True)∧∃aP:a0+1<s.length,fQ ((s[a0+1]).toNat:Int)=false):=by
          by_cases q:s[a0]=39
          · by_cases aP:a0+1<s.length
            · refine .inr (.inr ⟨eq_true q,aP,?_⟩)
              cases az:fQ ((s[a0+1]).toNat:Int) with
              | false=>rfl
              | true=>exact absurd ⟨q,by rw [drop_cons aP];exact az⟩ cI
            · exact .inr (.inl ⟨eq_true q,aP⟩)
          · exact .inl (eq_false q)
         have two:∀t ∈ h0,t.length≤2:=by decide
         have oI:((17:Nat):Int)=17:=rfl
         rcases Ww with au | ⟨au,aC⟩ | ⟨au,aP,aC⟩
         case' neg.inl=>
          simp +contextual (maxSteps:=1000000) only [ah,bZ,cD,f0,f1,f2,bN,ji,pT,tk,ae,au,List.getElem?_eq_getElem a_,Int.toNat_natCast,↓aw,aH,simprocAttr]
         case' neg.inr.inl=>
          have f3:(((a0+1:Nat):Int) < (s.length:Int))=False:=eq_false (by omega)
          simp +contextual (maxSteps:=1000000) only [ah,bZ,cD,f0,f1,f2,f3,bN,ji,pT,tk,ae,au,List.getElem?_eq_getElem a_,Int.toNat_natCast,↓aw,aH,simprocAttr]
         case' neg.inr.inr=>
          have f3:(((a0+1:Nat):Int) < (s.length:Int))=True:=eq_true (by omega)
          simp +contextual (maxSteps:=1000000) only [ah,bZ,cD,f0,f1,f2,f3,bN,ji,pT,tk,ae,au,List.getElem?_eq_getElem a_,List.getElem?_eq_getElem aP,Int.toNat_natCast,↓aw,aH,simprocAttr]
          refine fe (A4 _ _) ?_
          rw [aC]
          simp +contextual (maxSteps:=1000000) only [ah,bZ,cD,f0,f1,f2,f3,bN,ji,pT,tk,ae,au,List.getElem?_eq_getElem a_,List.getElem?_eq_getElem aP,Int.toNat_natCast,↓aw,aH,simprocAttr]
         all_goals
          refine cF (adU _) ?_
          rintro x ag ⟨rfl,rfl⟩
          simp +contextual only [↓aw,aH,simprocAttr]
          refine gE (fun r ab=>r 0=.ptr b 0∧r 2=.ptr (aq h.next) 0∧r 77=.slice (aq (h.next+1)) 0 17 17∧r 78=.int .i64 17∧∃i:Nat,i≤17∧r 79=.int .i64 i∧ab=(h.new (.bb [.int .i64 0,.int .i64 0,.int .i64 0,.str []] 0 false)).new (.bb uZ 0 false)∧
           h0.find? (·.isPrefixOf (s.drop a0))=(h0.drop i).find? (·.isPrefixOf (s.drop a0))) (fun r ab=>17 - (r 79).toN) ?_ ?_
          · exact ⟨by simp only [↓aw,aH,simprocAttr],by simp only [↓aw,aH,simprocAttr],by simp only [↓aw,aH,simprocAttr],by simp only [oI,↓aw,aH,simprocAttr],0,by omega,by simp only [↓aw,aH,simprocAttr]<;>rfl,rfl,rfl⟩
          · rintro r ab ⟨bk,cb,AM,AN,i,aD,AO,rfl,p4⟩
            unfold Io
            have KJ:Old ((h.new (.bb [.int .i64 0,.int .i64 0,.int .i64 0,.str []] 0 false)).new (.bb uZ 0 false)) b:=(al.new _).bO fD
            have rQ:((h.new (.bb [.int .i64 0,.int .i64 0,.int .i64 0,.str []] 0 false)).new (.bb uZ 0 false)).get b=.bb [.str s,.int .i64 a0,.int .i64 0] 0 false:=by rw [(al.new _).get _ fD,ah]
            have xi:(b=aq (h.next+1))=False:=xj fD (by omega)
            have yu:(aq (h.next+1)=b)=False:=by rw [←xi];exact propext eq_comm
            by_cases kS:i<17
            · have g0:((i:Int)<17)=True:=eq_true (by omega)
              have g1:(0≤(i:Int))=True:=eq_true (by omega)
              rw [Vk _ kS] at p4
              have hlen:=two _ (List.getElem_mem (h:=(show i<h0.length from kS)))
              simp +contextual only [oI,bk,cb,AM,AN,AO,g0,g1,bZ,cD,xi,yu,Int.toNat_natCast,Nat.mul_one,adS kS,↓aw,aH,simprocAttr]
              refine fe (DY s _ (a0:Int) [.int .i64 0] b 0 false _ rQ (by omega) (by omega)) ?_
              rw [Int.toNat_natCast]
              cases nR:(h0[i]'kS).isPrefixOf (s.drop a0) with
              | true=>
                rw [nR,if_pos rfl] at p4
                have hB:(h0[i]'kS).length≤s.length-a0:=by
                 rw [List.isPrefixOf_iff_prefix] at nR
                 have:=nR.length_le
                 rwa [List.length_drop] at this
                have mu:IntKind.i64.wrap ((a0:Int) + ((h0[i]'kS).length:Int))=((a0 + (h0[i]'kS).length:Nat):Int):=by rw [wrap_i64 (by omega) (by omega)];rfl
                simp +contextual only [oI,bk,cb,AM,AN,AO,g0,g1,mu,bZ,cD,xi,yu,ah,↓aw,aH,simprocAttr]
                unfold uY
                rw [p4]
                refine ⟨(((al.new _).mod _).self _).fresh (Nat.le_refl _) _,_,_,_,rfl,rfl,rfl,rfl,?_,by show a0 + (h0[i]'kS).length≤s.length;omega⟩
                simp only [ew,bZ,cD,↓aw,aH,simprocAttr]
              | false=>
                rw [nR,if_neg Bool.false_ne_true] at p4
                have mu:IntKind.i64.wrap ((i:Int)+1)=((i+1:Nat):Int):=by rw [wrap_i64 (by omega) (by omega)];rfl
                simp +contextual only [oI,bk,cb,AM,AN,AO,g0,g1,mu,bZ,cD,xi,yu,ah,↓aw,aH,simprocAttr]
                exact ⟨⟨i+1,by omega,rfl,p4⟩,by omega⟩
            · obtain rfl:i=17:=by omega
              have cT:h0.find? (·.isPrefixOf (s.drop a0))=none:=by rw [p4];rfl
              have g0:((17:Int)<17)=False:=eq_false (by omega)
              simp +contextual only [oI,bk,cb,AM,AN,AO,g0,rQ,bZ,cD,xi,yu,ah,↓aw,aH,simprocAttr]
              unfold uY
              rw [cT]
              refine ⟨(((al.new _).mod _).self _).fresh (Nat.le_refl _) _,_,_,_,rfl,by decide,(a0:Int),?_⟩
              simp only [ew,bZ,cD,↓aw,aH,simprocAttr]
theorem JY (s:List UInt8) (i:Nat):(ByteArray.mk ⟨s⟩).get! i=(s[i]?).getD 0:=by
 show (Array.mk s)[i]! =_
 simp
 rfl
theorem Uy (s:List UInt8) (a:Nat):Lib.decodeGo ⟨⟨s.drop a⟩⟩=if a<s.length then decodeL s a else (65533,0):=by
 unfold Lib.decodeGo decodeL
 have bm:(ByteArray.mk ⟨s.drop a⟩).size=s.length-a:=by
  show (s.drop a).length=_
  rw [List.length_drop]
 have nV:(ByteArray.mk ⟨s⟩).size=s.length:=rfl
 by_cases br:a<s.length
 · rw [if_pos br,if_neg (by rw [bm];omega),Lib.decode_at,Lib.decode_at,bm,nV]
   simp only [JY,List.getElem?_drop,Nat.add_zero,Nat.sub_zero,Nat.zero_add]
 · rw [if_neg br,if_pos (by rw [bm];omega)]
theorem abG {h:af} {b:aO} {s:List UInt8} {a:Nat} (aE:h.get b=.iter s a):
 sq (.ptr b 0) h=if a<s.length then .val (.tuple [.bool true,.int .i64 a,.int .i32 (decodeL s a).1]) (h.set b (.iter s (a + (decodeL s a).2))) else .val (.tuple [.bool false]) h:=by
 unfold sq
 simp only [V.hE,aE]
 rw [show Nat.beq 0 0=true from rfl]
 simp only [cond_true]
 by_cases br:a<s.length
 · rw [if_pos br,show Nat.blt a s.length=true from by rw [Nat.blt_eq];exact br]
   rfl
 · rw [if_neg br,show Nat.blt a s.length=false from by rw [←Bool.not_eq_true,Nat.blt_eq];exact br]
   rfl
def YK (s:List UInt8):b1→Nat
 | .iter _ a=>s.length-a
 | _=>0
theorem Uw (s:List UInt8) (a:Nat):1≤(decodeL s a).2:=by
 unfold decodeL
 rw [Lib.decode_at]
 unfold Lib.decodeN
 repeat' split
 all_goals simp
theorem adn (s:List UInt8) (aQ:s.length≤100000) (h:af):bI Tryz.prog 123 [.str s] h fun x ab=>x=.int .i64 (qF s:Nat)∧Ext h ab:=by
 refine Rm rfl (df ?_)
 unfold Co
 simp +contextual only [↓aw,aH,simprocAttr]
 refine gE (fun r ab=>r 0=.str s∧r 8=.ptr (aq h.next) 0∧Ext h ab∧∃a,ab.get (aq h.next)=.iter s a∧qF s=oc s a) (fun r ab=>YK s (ab.get (aq h.next))) ?_ ?_
 · exact ⟨by simp only [↓aw,aH,simprocAttr],by simp only [↓aw,aH,simprocAttr],(Ext.refl h).new _,0,by simp only [↓aw,aH,simprocAttr],rfl⟩
 · rintro r ab ⟨bk,iG,al,a,aE,br⟩
   unfold Il
   have kh:=abG aE
   by_cases aP:a<s.length
   · rw [if_pos aP] at kh
     have ag:=Uw s a
     by_cases aF:(decodeL s a).1=65533
     · have mJ:(((decodeL s a).1:Int)=65533)=True:=eq_true (by omega)
       have f0:(0≤(a:Int))=True:=eq_true (by omega)
       have f1:((a:Int)≤(s.length:Int))=True:=eq_true (by omega)
       simp +contextual only [bk,iG,kh,mJ,f0,f1,Int.toNat_natCast,↓aw,aH,simprocAttr]
       refine fe (Ux _ _) ?_
       rw [Uy,if_pos aP]
       by_cases hw:(decodeL s a).2=1
       · have E9:(((decodeL s a).2:Int)=1)=True:=eq_true (by omega)
         have rM:kI s a=0:=by unfold kI;rw [if_pos (Prod.ext aF hw)]
         rw [adm aP rM] at br
         simp +contextual only [bk,iG,kh,mJ,E9,f0,f1,Int.toNat_natCast,↓aw,aH,simprocAttr]
         rw [br]
         exact ⟨rfl,al.set (Nat.le_refl _) _⟩
       · have E9:(((decodeL s a).2:Int)=1)=False:=eq_false (by omega)
         have rM:kI s a=(decodeL s a).2:=by unfold kI;rw [if_neg (fun q=>hw (congrArg Prod.snd q))]
         rw [GG aP (by rw [rM];omega),rM] at br
         simp +contextual only [bk,iG,kh,mJ,E9,f0,f1,Int.toNat_natCast,↓aw,aH,simprocAttr]
         refine ⟨⟨al.set (Nat.le_refl _) _,_,rfl,br⟩,?_⟩
         rw [aE]
         show s.length - (a + (decodeL s a).2)<s.length-a
         omega
     · have mJ:(((decodeL s a).1:Int)=65533)=False:=eq_false (by omega)
       have rM:kI s a=(decodeL s a).2:=by unfold kI;rw [if_neg (fun q=>aF (congrArg Prod.fst q))]
       rw [GG aP (by rw [rM];omega),rM] at br
       simp +contextual only [bk,iG,kh,mJ,Int.toNat_natCast,↓aw,aH,simprocAttr]
       refine ⟨⟨al.set (Nat.le_refl _) _,_,rfl,br⟩,?_⟩
       rw [aE]
       show s.length - (a + (decodeL s a).2)<s.length-a
       omega
   · rw [if_neg aP] at kh
     rw [NI (by omega)] at br
     simp +contextual only [bk,iG,kh,Int.toNat_natCast,↓aw,aH,simprocAttr]
     rw [br]
     exact ⟨rfl,al⟩
def b8.enc (w:b8):List V:=[.int .i64 w.kind,.int .i64 w.num,.int .i64 w.pos,.str w.text]
def nn:List b8→List V
 | []=>[]
 | w::ws=>w.enc++nn ws
theorem ON:∀a b:List b8,nn (a++b)=nn a++nn b
 | [],b=>rfl
 | w::a,b=>by simp only [nn,List.cons_append,ON a b,List.append_assoc]
def qy (ws:List b8):Except (Int × Nat) (List b8)→Except (Int × Nat) (List b8)
 | .ok bM=>.ok (ws++bM)
 | .error e=>.error e
theorem acM (ws:List b8) (w:b8) (r:Except (Int × Nat) (List b8)):qy ws (vX w r)=qy (ws++[w]) r:=by
 cases r with
 | ok bM=>simp [qy,vX]
 | error e=>rfl
theorem acN (r:Except (Int × Nat) (List b8)):qy [] r=r:=by cases r<;>rfl
def Pv (s:List UInt8) (h:af) (x:V) (ab:af):Prop:=Ext h ab∧match ly s with
 | .ok ws=>∃v,x=.tuple [v,.agg [.int .i64 0,.int .i64 0]]∧ed h.next ab 4 v ws.length (nn ws)
 | .error e=>x=.tuple [.b6,.agg [.int .i64 e.1,.int .i64 e.2]]
theorem H9 (c:UInt8):(0≤Lib.indexByte [9,10,13,32] c)=(blank c=true):=by
 have a_:∀d:UInt8,(d == c)=decide (c=d):=fun d=>by
  by_cases q:c=d
  · subst q;simp
  · have dX:¬d=c:=fun e=>q e.symm
    simp [q,dX]
 simp only [Lib.indexByte,a_,blank]
 by_cases aa:c=9
 · subst aa;decide
 · by_cases ae:c=10
   · subst ae;decide
   · by_cases aI:c=13
     · subst aI;decide
     · by_cases bo:c=32
       · subst bo;decide
       · simp [aa,ae,aI,bo]
theorem aa6 (s:List UInt8) (h:af):bI Tryz.prog 104 [.str s] h (Pv s h):=by
 refine Q4 rfl (df ?_)
 unfold Ci
 by_cases Ky:(65536:Int) < (s.length:Int)
 · simp +contextual only [Ky,↓aw,aH,simprocAttr]
   refine ⟨((Ext.refl h).new _).set (Nat.le_refl _) _,?_⟩
   unfold ly
   rw [if_pos (by omega)]
   rfl
 simp +contextual only [Ky,↓aw,aH,simprocAttr]
 refine cF (adn s (by omega) _) ?_
 rintro x aa ⟨rfl,E'⟩
 have al:Ext h (h.new (.bb [.int .i64 0,.int .i64 0] 0 false)):=(Ext.refl h).new _
 have ui:=al.trans E'
 have g1:aa.get (aq h.next)=.bb [.int .i64 0,.int .i64 0] 0 false:=by
  rw [E'.get _ (fj (by rw [fF];omega))]
  simp only [↓aw,aH,simprocAttr]
 have pb:h.next+1≤aa.next:=E'.next
 have cn:(aq aa.next=aq h.next)=False:=by rw [pd];exact eq_false (by omega)
 have cr:(aq h.next=aq aa.next)=False:=by rw [pd];exact eq_false (by omega)
 have lA:(aa.next=h.next)=False:=eq_false (by omega)
 have lB:(h.next=aa.next)=False:=eq_false (by omega)
 have hlen:¬65536<s.length:=by omega
 by_cases aG:qF s<s.length
 · have o0:((qF s:Int) < (s.length:Int))=True:=eq_true (by omega)
   simp +contextual only [o0,g1,cn,cr,lA,lB,↓aw,aH,simprocAttr]
   refine ⟨ui.set (Nat.le_refl _) _,?_⟩
   unfold ly
   rw [if_neg hlen,if_pos aG]
 have o0:((qF s:Int) < (s.length:Int))=False:=eq_false (by omega)
 have jR:ly s=n0 s 0:=by unfold ly;rw [if_neg hlen,if_neg aG]
 simp +contextual only [o0,g1,cn,cr,lA,lB,↓aw,aH,simprocAttr]
 have Yb:Ext h (aa.new (.bb [.str s,.int .i64 0,.int .i64 0] 0 false)):=ui.new _
 refine gE (fun r ab=>r 0=.str s∧r 3=.ptr (aq h.next) 0∧r 5=.ptr (aq aa.next) 0∧∃(a:Nat) (ws:List b8) (v:V),r 6=v∧ab.get (aq aa.next)=.bb [.str s,.int .i64 a,.int .i64 0] 0 false∧a≤s.length∧ws.length≤a∧
  ab.get (aq h.next)=.bb [.int .i64 0,.int .i64 0] 0 false∧Ext h ab∧aa.next+1≤ab.next∧ed (aa.next+1) ab 4 v ws.length (nn ws)∧ly s=qy ws (n0 (s.drop a) a))
  (fun r ab=>s.length - ((iC (ab.get (aq aa.next)) 1).getD .bad).toN) ?_ ?_
 · refine ⟨by simp only [↓aw,aH,simprocAttr],by simp only [↓aw,aH,simprocAttr],by simp only [↓aw,aH,simprocAttr],0,[],.b6,by simp only [↓aw,aH,simprocAttr],by simp only [↓aw,aH,simprocAttr]<;>rfl,by omega,by simp,by simp only [g1,cn,lA,cr,lB,↓aw,aH,simprocAttr],Yb,?_,⟨rfl,rfl⟩,?_⟩
   · rw [fF];exact Nat.le_refl _
   · rw [jR,List.drop_zero,acN]
 · rintro r ab ⟨bk,bS,dK,a,ws,v,dw,aE,bL,kw,bm,zO,kh,dq,bu⟩
   unfold Ij
   have fD:Old ab (aq aa.next):=fj (by omega)
   by_cases e':(s.length:Int)≤(a:Int)
   · have br:a=s.length:=by omega
     have zD:ly s=.ok ws:=by
      rw [bu,br,List.drop_length]
      show Except.ok (ws++[])=_
      rw [List.append_nil]
     simp +contextual only [bk,bS,dK,dw,aE,bm,e',cn,cr,lA,lB,↓aw,aH,simprocAttr]
     refine ⟨zO.set (Nat.le_refl _) _,?_⟩
     rw [zD]
     refine ⟨v,rfl,?_⟩
     have:=dq.mod ((Mod.refl (fun q=>q=aq h.next) ab).self (.bb [.int .i64 0,.int .i64 0] 0 false)) (fun q az e=>by
      have ae:=dq.base az
      rw [show q=aq h.next from e,c7] at ae
      omega)
     exact this.mono (by omega)
   · have aP:a<s.length:=by omega
     rw [drop_cons aP,L1,←drop_cons aP] at bu
     have f0:(0≤(a:Int))=True:=eq_true (by omega)
     have f1:((a:Int) < (s.length:Int))=True:=eq_true (by omega)
     have bN:IntKind.i64.wrap ((a:Int)+1)=((a+1:Nat):Int):=by rw [wrap_i64 (by omega) (by omega)];rfl
     simp +contextual only [bk,bS,dK,dw,aE,bm,e',cn,cr,lA,lB,f0,f1,List.getElem?_eq_getElem aP,Int.toNat_natCast,↓aw,aH,simprocAttr]
     refine fe (Lf _ _ _) ?_
     rw [OB]
     by_cases zo:blank s[a]=true
     · have D3:(0≤Lib.indexByte [9,10,13,32] s[a])=True:=by rw [H9,zo];exact eq_self _
       rw [if_pos zo] at bu
       simp +contextual only [D3,bN,bk,bS,dK,dw,aE,bm,e',cn,cr,lA,lB,f0,f1,List.getElem?_eq_getElem aP,Int.toNat_natCast,↓aw,aH,simprocAttr]
       refine ⟨⟨a+1,ws,rfl,by omega,by omega,zO.set (by omega) _,kh,?_,bu⟩,by omega⟩
       exact dq.mod ((Mod.refl (fun q=>q=aq aa.next) ab).self _) (fun q az e=>by
        have ae:=dq.base az
        rw [show q=aq aa.next from e,c7] at ae
        omega)
     · have D3:(0≤Lib.indexByte [9,10,13,32] s[a])=False:=by rw [H9];exact eq_false zo
       rw [if_neg zo] at bu
       simp +contextual only [D3,bN,bk,bS,dK,dw,aE,bm,e',cn,cr,lA,lB,f0,f1,List.getElem?_eq_getElem aP,Int.toNat_natCast,↓aw,aH,simprocAttr]
       have wM:=DY s [40,42] (a:Int) [.int .i64 0] (aq aa.next) 0 false ab aE (by omega) (by omega)
       rw [Int.toNat_natCast] at wM
       refine fe wM ?_
       cases nR:([40,42]:List UInt8).isPrefixOf (s.drop a) with
       | true=>
         rw [nR,if_pos rfl] at bu
         simp +contextual only [bN,bk,bS,dK,dw,aE,bm,e',cn,cr,lA,lB,f0,f1,List.getElem?_eq_getElem aP,Int.toNat_natCast,↓aw,aH,simprocAttr]
         refine cF (abQ s a 0 (aq aa.next) ab aE bL (by omega) fD) ?_
         rintro x ae ⟨rfl,hm,aV⟩
         have nV:ae.get (aq h.next)=.bb [.int .i64 0,.int .i64 0] 0 false:=by rw [hm.get _ (fj (by omega)) (by rw [cr];exact id),bm]
         have zM:Ext h ae:=zO.lz hm (fun b ah=>by rw [show b=aq aa.next from ah,c7];omega)
         have me:=hm.next
         have jn:=dq.mod hm (fun q az e=>by
          have ae:=dq.base az
          rw [show q=aq aa.next from e,c7] at ae
          omega)
         cases EI:ha (s.drop a) 0 with
         | some n=>
           rw [EI] at aV bu
           obtain ⟨g2,hle⟩:=aV
           have wL:=Ap EI
           unfold ew at g2
           simp +contextual only [bN,bk,bS,dK,dw,g2,aE,nV,e',cn,cr,lA,lB,f0,f1,List.getElem?_eq_getElem aP,Int.toNat_natCast,↓aw,aH,simprocAttr]
           refine ⟨⟨a+n,ws,rfl,hle,by omega,zM,by omega,jn,?_⟩,by omega⟩
           rw [bu]
           simp only [List.drop_drop]
         | none=>
           rw [EI] at aV bu
           unfold ew at aV
           simp +contextual only [bN,bk,bS,dK,dw,aV,aE,nV,e',cn,cr,lA,lB,f0,f1,List.getElem?_eq_getElem aP,Int.toNat_natCast,↓aw,aH,simprocAttr]
           refine ⟨zM.set (Nat.le_refl _) _,?_⟩
           rw [bu]
           rfl
       | false=>
         rw [nR,if_neg Bool.false_ne_true] at bu
         simp +contextual only [bN,bk,bS,dK,dw,aE,bm,e',cn,cr,lA,lB,f0,f1,List.getElem?_eq_getElem aP,Int.toNat_natCast,↓aw,aH,simprocAttr]
         refine cF (abI s a (aq aa.next) ab aE aP (by omega) fD) ?_
         rintro x ae w
         obtain ⟨hm,k,n,t,rfl,t'⟩:=w
         have nV:ae.get (aq h.next)=.bb [.int .i64 0,.int .i64 0] 0 false:=by rw [hm.get _ (fj (by omega)) (by rw [cr];exact id),bm]
         have zM:Ext h ae:=zO.lz hm (fun b ah=>by rw [show b=aq aa.next from ah,c7];omega)
         have me:=hm.next
         have jn:=dq.mod hm (fun q az e=>by
          have ae:=dq.base az
          rw [show q=aq aa.next from e,c7] at ae
          omega)
         have m0:(aq ae.next=aq h.next)=False:=by rw [pd];exact eq_false (by omega)
         have m1:(aq ae.next=aq aa.next)=False:=by rw [pd];exact eq_false (by omega)
         have Ma:(ae.next=h.next)=False:=eq_false (by omega)
         have Md:(ae.next=aa.next)=False:=eq_false (by omega)
         have zN:Ext ae (((ae.new (.bb [.int .i64 0,.int .i64 0,.int .i64 0,.str []] 0 false)).set (aq ae.next) (.bb [.int .i64 k,.int .i64 n,.int .i64 0,.str t] 0 false)).set (aq ae.next) (.bb [.int .i64 k,.int .i64 n,.int .i64 a,.str t] 0 false)):=(((Ext.refl ae).new _).set (Nat.le_refl _) _).set (Nat.le_refl _) _
         obtain ⟨v3,aI,au,aC,aM,bG,dJ⟩:=yo (cs:=[.int .i64 k,.int .i64 n,.int .i64 a,.str t]) (by omega) (jn.ext zN) (by simp only [k2,fF];omega) (by unfold top;omega) rfl rfl
         simp only [k2,fF] at au bG
         have K6:Ext h aI:=(zM.trans zN).lz aM (fun b ah=>Nat.le_trans (by omega) (jn.base ah))
         have w1:aI.get (aq h.next)=.bb [.int .i64 0,.int .i64 0] 0 false:=by
          rw [aM.get _ (fj (by simp only [k2,fF];omega)) (fun az=>by have:=jn.base az;rw [c7] at this;omega),zN.get _ (fj (by omega)),nV]
         have kP:aI.get (aq aa.next)=ae.get (aq aa.next):=by
          rw [aM.get _ (fj (by simp only [k2,fF];omega)) (fun az=>by have:=jn.base az;rw [c7] at this;omega),zN.get _ (fj (by omega))]
         cases kh:fP (s.drop a) with
         | ok q=>
           have wL:=FN kh
           rw [kh] at t' bu
           obtain ⟨rfl,rfl,rfl,g2,hle⟩:=t'
           unfold ew at g2
           rw [g2] at kP
           simp +contextual only [au,m0,m1,Ma,Md,bN,bk,bS,dK,dw,g2,kP,aE,nV,e',cn,cr,lA,lB,f0,f1,List.getElem?_eq_getElem aP,Int.toNat_natCast,↓aw,aH,simprocAttr]
           refine ⟨⟨a+q.2.2.2,ws++[⟨q.1,q.2.1,a,q.2.2.1⟩],rfl,hle,by simp;omega,w1,K6,by omega,?_,?_⟩,by omega⟩
           · rw [List.length_append,ON]
             exact aC
           · rw [bu,acM]
             simp only [List.drop_drop]
         | error e=>
           rw [kh] at t' bu
           obtain ⟨he,bg,g2⟩:=t'
           unfold ew at g2
           rw [g2] at kP
           simp +contextual only [he,au,m0,m1,Ma,Md,bN,bk,bS,dK,dw,g2,kP,w1,aE,nV,e',cn,cr,lA,lB,f0,f1,List.getElem?_eq_getElem aP,Int.toNat_natCast,↓aw,aH,simprocAttr]
           refine ⟨K6.set (Nat.le_refl _) _,?_⟩
           rw [bu]
           rfl
def A' (L:List (List UInt8)):List V:=L.map V.str
theorem Ly (h:af):bI Tryz.prog 108 [] h fun x ab=>x=.slice (aq h.next) 0 20 20∧ab=h.new (.bb (A' qh) 0 false):=by
 refine Rf rfl (df ?_)
 unfold Cm
 simp +contextual only [↓aw,aH,simprocAttr]
 rfl
theorem Oi {L:List (List UInt8)} {i:Nat} (aD:i<L.length):(A' L)[i]? =some (.str L[i]):=by
 unfold A'
 rw [List.getElem?_map,List.getElem?_eq_getElem aD]
 rfl
theorem UM {t:List UInt8} {L:List (List UInt8)} {i:Nat} (aD:i<L.length):(L.drop i).contains t=(decide (L[i]=t)||(L.drop (i+1)).contains t):=by
 rw [List.drop_eq_getElem_cons aD,List.contains_cons]
 congr 1
 rw [Bool.eq_iff_iff]
 simp
 exact eq_comm
theorem Le (t:List UInt8) (L:List (List UInt8)) (b:aO) (cap:Nat) (h:af) (dW:L.length≤100000) (aE:h.get b=.bb (A' L) 0 false):
 e7 Tryz.prog 107 [.str t,.slice b 0 L.length cap] h (.bool (L.contains t)) h:=by
 refine mi (Rb rfl (df ?_))
 unfold Cl
 simp +contextual only [↓aw,aH,simprocAttr]
 refine gE (fun r ab=>ab=h∧r 0=.str t∧r 1=.slice b 0 L.length cap∧∃i:Nat,r 5=.int .i64 i∧i≤L.length∧L.contains t=(L.drop i).contains t) (fun r ab=>L.length - (r 5).toN) ?_ ?_
 · exact ⟨rfl,by simp only [↓aw,aH,simprocAttr],by simp only [↓aw,aH,simprocAttr],0,by simp only [↓aw,aH,simprocAttr]<;>rfl,by omega,rfl⟩
 · rintro r ab ⟨rfl,bk,bw,i,dK,aD,bu⟩
   unfold Ik
   by_cases aP:i<L.length
   · have g0:((i:Int) < (L.length:Int))=True:=eq_true (by omega)
     have g1:(0≤(i:Int))=True:=eq_true (by omega)
     rw [UM aP] at bu
     by_cases he:L[i]=t
     · simp +contextual only [bk,bw,dK,g0,g1,aE,he,Int.toNat_natCast,Nat.mul_one,Oi aP,↓aw,aH,simprocAttr]
       rw [bu]
       simp [he]
     · have w:IntKind.i64.wrap ((i:Int)+1)=((i+1:Nat):Int):=by rw [wrap_i64 (by omega) (by omega)];rfl
       simp +contextual only [bk,bw,dK,g0,g1,aE,he,w,Int.toNat_natCast,Nat.mul_one,Oi aP,↓aw,aH,simprocAttr]
       refine ⟨⟨i+1,rfl,aP,?_⟩,by omega⟩
       rw [bu]
       simp [he]
   · have g0:((i:Int) < (L.length:Int))=False:=eq_false (by omega)
     rw [List.drop_eq_nil_of_le (by omega)] at bu
     rw [bu]
     simp +contextual only [bk,bw,dK,g0,↓aw,aH,simprocAttr]
     rfl
def wv:List UInt8→Bool
 | d::_=>kM d.toNat
 | []=>false
def hV (k:Int) (s:List UInt8):Bool:=
 decide (s≠[])&&decide (s.length≤64)&&s.all eH&&(if k=3 then (kd s||s.head? == some 95)&&!decide (s=[95])&&!l6 s else if k=4 then wv s else kd s)
def L0 (c:Int):Bool:=k7 c 97 122||k7 c 65 90||k7 c 48 57||decide (c=95)||decide (c=39)
theorem aa3 (c:UInt8):L0 (c.toNat:Int)=eH c:=by
 unfold L0 eH qi k7 kJ fQ kM
 generalize (c.toNat:Int)=x
 cases decide (97≤x)<;>cases decide (x≤122)<;>cases decide (65≤x)<;>cases decide (x≤90)<;>cases decide (48≤x)<;>cases decide (x≤57)<;>cases decide (x=95)<;>cases decide (x=39)<;>rfl
theorem WL {s:List UInt8} {c:UInt8} {r:List UInt8} (h:s=c::r):kd s=fQ c.toNat:=by rw [h];rfl
theorem adh (k:Int) (s:List UInt8) (aQ:s.length≤17179869184) (ax:k=3∨k=4∨k=5) (h:af):bI Tryz.prog 89 [.int .i64 k,.str s] h fun x ab=>x=.bool (hV k s)∧Ext h ab:=by
 refine TA rfl (df ?_)
 unfold C'
 by_cases p7:s=[]
 · subst p7
   simp +contextual only [↓aw,aH,simprocAttr]
   exact ⟨rfl,Ext.refl _⟩
 obtain ⟨c,r,wU⟩:=List.exists_cons_of_ne_nil p7
 have cz:(s=([]:List UInt8))=False:=eq_false p7
 have kk:s[0]? =some c:=by rw [wU];rfl
 by_cases hlen:(64:Int) < (s.length:Int)
 · have aV:hV k s=false:=by
    unfold hV
    rw [decide_eq_false (show ¬s.length≤64 by omega)]
    simp
   have Et:=eq_true hlen
   simp +contextual only [cz,Et,aV,↓aw,aH,simprocAttr]
   exact Ext.refl _
 have Et:=eq_false hlen
 simp +contextual only [cz,Et,↓aw,aH,simprocAttr]
 refine gE (fun r ab=>ab=h∧r 0=.int .i64 k∧r 1=.str s∧∃i:Nat,r 5=.int .i64 i∧i≤s.length∧s.all eH=(s.drop i).all eH) (fun r ab=>s.length - (r 5).toN) ?_ ?_
 · exact ⟨rfl,by simp only [↓aw,aH,simprocAttr],by simp only [↓aw,aH,simprocAttr],0,by simp only [↓aw,aH,simprocAttr]<;>rfl,by omega,rfl⟩
 · rintro R ab ⟨rfl,bk,bw,i,dK,aD,bu⟩
   unfold IF
   by_cases aP:i<s.length
   · have g0:((i:Int) < (s.length:Int))=True:=eq_true (by omega)
     have g1:(0≤(i:Int))=True:=eq_true (by omega)
     rw [List.drop_eq_getElem_cons aP,List.all_cons] at bu
     have w:IntKind.i64.wrap ((i:Int)+1)=((i+1:Nat):Int):=by rw [wrap_i64 (by omega) (by omega)];rfl
     simp +contextual only [bk,bw,dK,g0,g1,List.getElem?_eq_getElem aP,Int.toNat_natCast,↓aw,aH,simprocAttr]
     refine fe (Pt _ _) ?_
     rw [show (k7 (s[i].toNat:Int) 97 122||k7 (s[i].toNat:Int) 65 90||k7 (s[i].toNat:Int) 48 57||decide ((s[i].toNat:Int)=95)||decide ((s[i].toNat:Int)=39))=eH s[i] from aa3 _]
     cases ai:eH s[i] with
     | true=>
       simp +contextual only [bk,bw,dK,w,↓aw,aH,simprocAttr]
       exact ⟨⟨i+1,rfl,aP,by rw [bu,ai,Bool.true_and]⟩,by omega⟩
     | false=>
       have aV:hV k s=false:=by
        unfold hV
        rw [bu,ai]
        simp
       simp +contextual only [aV,↓aw,aH,simprocAttr]
       exact Ext.refl _
   · have g0:((i:Int) < (s.length:Int))=False:=eq_false (by omega)
     rw [List.drop_eq_nil_of_le (by omega)] at bu
     have dL:s.all eH=true:=by rw [bu];rfl
     have f1:((0:Int) < (s.length:Int))=True:=eq_true (by rw [wU];simp only [List.length_cons];omega)
     have aV:hV k s=(if k=3 then (kd s||s.head? == some 95)&&!decide (s=[95])&&!l6 s else if k=4 then wv s else kd s):=by
      unfold hV
      rw [dL,decide_eq_true (show s.length≤64 by omega),decide_eq_true (show s≠[] from p7)]
      simp
     rw [aV]
     have ah:(kd s||s.head? == some 95)=(fQ c.toNat||decide (c=95)):=by
      rw [wU]
      show (fQ c.toNat||(some c == some 95))=_
      congr 1
     have XU:kd s=fQ c.toNat:=WL wU
     have W2:wv s=kM c.toNat:=by rw [wU];rfl
     rw [ah]
     have hu:((c.toNat:Int)=95)=(c=95):=sL c 95 (by omega)
     rcases ax with rfl | rfl | rfl
     · simp +contextual only [bk,bw,dK,g0,f1,kk,Int.toNat_zero,if_true,↓aw,aH,simprocAttr]
       refine fe (u9 _ _ _ _) ?_
       rw [show k7 (c.toNat:Int) 97 122=fQ (c.toNat:Int) from rfl]
       cases mU:fQ (c.toNat:Int) with
       | false=>
         by_cases J8:c=95
         · have mF:=eq_true J8
           by_cases aa:s=[95]
           · have e4:=eq_true aa
             simp +contextual only [bk,bw,mU,hu,mF,e4,f1,kk,Int.toNat_zero,↓aw,aH,simprocAttr]
             exact Ext.refl _
           · have e4:=eq_false aa
             simp +contextual only [bk,bw,mU,hu,mF,e4,f1,kk,Int.toNat_zero,↓aw,aH,simprocAttr]
             refine cF (Ly _) ?_
             rintro x aa ⟨rfl,rfl⟩
             simp +contextual only [bk,bw,mU,hu,mF,e4,f1,kk,↓aw,aH,simprocAttr]
             refine fe (Le s qh _ 20 _ (by decide) (by rw [lk])) ?_
             have Eo:qh.contains s=l6 s:=rfl
             rw [Eo]
             simp +contextual only [bk,bw,mU,hu,mF,e4,↓aw,aH,simprocAttr]
             exact (Ext.refl _).new _
         · have mF:=eq_false J8
           simp +contextual only [bk,bw,mU,hu,mF,f1,kk,Int.toNat_zero,↓aw,aH,simprocAttr]
           exact Ext.refl _
       | true=>
         have mF:True=True:=rfl
         by_cases aa:s=[95]
         · have e4:=eq_true aa
           simp +contextual only [bk,bw,mU,hu,mF,e4,f1,kk,Int.toNat_zero,↓aw,aH,simprocAttr]
           exact Ext.refl _
         · have e4:=eq_false aa
           simp +contextual only [bk,bw,mU,hu,mF,e4,f1,kk,Int.toNat_zero,↓aw,aH,simprocAttr]
           refine cF (Ly _) ?_
           rintro x aa ⟨rfl,rfl⟩
           simp +contextual only [bk,bw,mU,hu,mF,e4,f1,kk,↓aw,aH,simprocAttr]
           refine fe (Le s qh _ 20 _ (by decide) (by rw [lk])) ?_
           have Eo:qh.contains s=l6 s:=rfl
           rw [Eo]
           simp +contextual only [bk,bw,mU,hu,mF,e4,↓aw,aH,simprocAttr]
           exact (Ext.refl _).new _
     · simp +contextual only [bk,bw,dK,g0,f1,kk,Int.toNat_zero,if_true,if_false,↓aw,aH,simprocAttr]
       refine fe (u9 _ _ _ _) ?_
       rw [W2]
       simp +contextual only [↓aw,aH,simprocAttr]
       exact ⟨rfl,Ext.refl _⟩
     · simp +contextual only [bk,bw,dK,g0,f1,kk,Int.toNat_zero,if_true,if_false,↓aw,aH,simprocAttr]
       refine fe (u9 _ _ _ _) ?_
       rw [XU]
       simp +contextual only [↓aw,aH,simprocAttr]
       exact ⟨rfl,Ext.refl _⟩
theorem Qr {s:List UInt8} (h:∀c ∈ s,c.toNat<128):qF s=s.length:=by
 have aF:∀a,a<s.length→kI s a=1:=by
  intro a br
  have a1:decodeL s a=((s[a]).toNat,1):=by
   unfold decodeL
   rw [Lib.decode_at]
   simp only [JY,List.getElem?_eq_getElem br,Option.getD_some]
   unfold Lib.decodeN
   rw [if_pos (h _ (List.getElem_mem br))]
  unfold kI
  rw [a1,if_neg (by
   have:=h _ (List.getElem_mem br)
   simp only [Prod.mk.injEq,and_true]
   omega)]
 have:∀n a,s.length-a=n→a≤s.length→oc s a=s.length:=by
  intro n
  induction n with
  | zero=>intro a aa ae;exact NI (by omega)
  | succ n bh=>
    intro a aa ae
    have aP:a<s.length:=by omega
    rw [GG aP (by rw [aF a aP];decide),aF a aP]
    exact bh _ (by omega) (by omega)
 exact this s.length 0 (by omega) (by omega)
theorem aa5 {s:List UInt8} (h:∀c ∈ s,c.toNat<128):ly s=if 65536<s.length then .error (3,0) else n0 s 0:=by
 unfold ly
 rw [Qr h,if_neg (Nat.lt_irrefl _)]
theorem abk {c:UInt8} (h:eH c=true):blank c=false∧c≠40:=by
 constructor
 · cases ah:blank c with
   | false=>rfl
   | true=>
     unfold blank at ah
     simp only [Bool.or_eq_true,decide_eq_true_eq] at ah
     rcases ah with ((rfl | rfl) | rfl) | rfl<;>exact absurd h (by decide)
 · rintro rfl
   exact absurd h (by decide)
theorem abL {c:UInt8} (h:c≠40) (r:List UInt8):([40,42]:List UInt8).isPrefixOf (c::r)=false:=by
 have:((40:UInt8) == c)=false:=by rw [beq_eq_false_iff_ne];exact fun q=>h q.symm
 simp [List.isPrefixOf,this]
theorem N4 {c:UInt8} (h:fQ c.toNat=true):eF c=false∧c≠34:=by
 unfold fQ at h
 simp only [Bool.and_eq_true,decide_eq_true_eq] at h
 refine ⟨?_,by rintro rfl;exact absurd h (by decide)⟩
 unfold eF kJ
 simp only [Bool.and_eq_false_iff,decide_eq_false_iff_not]
 omega
theorem V1 {c:UInt8} (h:kM c.toNat=true):eF c=false∧c≠34∧fQ c.toNat=false∧c≠95:=by
 unfold kM at h
 simp only [Bool.and_eq_true,decide_eq_true_eq] at h
 refine ⟨?_,by rintro rfl;exact absurd h (by decide),?_,by rintro rfl;exact absurd h (by decide)⟩
 · unfold eF kJ
   simp only [Bool.and_eq_false_iff,decide_eq_false_iff_not]
   omega
 · unfold fQ
   simp only [Bool.and_eq_false_iff,decide_eq_false_iff_not]
   omega
theorem abA {k:Int} {s:List UInt8} (h:hV k s=true):s≠[]∧s.length≤64∧s.all eH=true∧(if k=3 then (kd s||s.head? == some 95)&&!decide (s=[95])&&!l6 s else if k=4 then wv s else kd s)=true:=by
 unfold hV at h
 rw [Bool.and_eq_true,Bool.and_eq_true,Bool.and_eq_true,decide_eq_true_eq,decide_eq_true_eq] at h
 exact ⟨h.1.1.1,h.1.1.2,h.1.2,h.2⟩
theorem abJ {c:UInt8} {t:List UInt8} (h:fQ c.toNat=true∨c=95):fP (c::t)=iD 3 (c::t):=by
 have a1:eF c=false:=h.elim (fun q=>(N4 q).1) (fun q=>by rw [q];decide)
 have V5:c≠34:=h.elim (fun q=>(N4 q).2) (fun q=>by rw [q];decide)
 have aQ:(fQ c.toNat||decide (c=95))=true:=by simpa using h
 simp only [fP,a1,aQ,if_neg V5,Bool.false_eq_true,if_false,if_true]
theorem Qq {c:UInt8} (h:eH c=true):c.toNat<128:=by
 unfold eH qi kJ fQ kM at h
 simp only [Bool.or_eq_true,Bool.and_eq_true,decide_eq_true_eq] at h
 omega
theorem Oz {p:UInt8→Bool}:∀s:List UInt8,s.all p=true→s.takeWhile p=s
 | [],_=>rfl
 | c::s,h=>by
   rw [List.all_cons,Bool.and_eq_true] at h
   rw [List.takeWhile_cons,h.1,if_pos rfl,Oz s h.2]
theorem HS (p:UInt8→Bool):∀s:List UInt8,(s.takeWhile p).all p=true
 | []=>rfl
 | c::s=>by
   rw [List.takeWhile_cons]
   split
   · rename_i h;rw [List.all_cons,h,HS p s];rfl
   · rfl
theorem FJ {k:Int} {c:UInt8} {r:List UInt8} {q:Int × Int × List UInt8 × Nat} (ax:(k=3∧(fQ c.toNat=true∨c=95))∨(k=4∧kM c.toNat=true)∨(k=5∧fQ c.toNat=true)) (h:iD k (c::r)=.ok q) (az:q.1=3∨q.1=4∨q.1=5):
 q.1=k∧hV k q.2.2.1=true:=by
 have ai:eH c=true:=by
  rcases ax with ⟨_,q | q⟩ | ⟨_,q⟩ | ⟨_,q⟩
  · exact GU q
  · exact OE q
  · exact J3 q
  · exact GU q
 have aA:(c::r).takeWhile eH=c::r.takeWhile eH:=by rw [List.takeWhile_cons,if_pos ai]
 have br:=HS eH (c::r)
 rw [aA] at br
 unfold iD at h
 simp only [aA] at h
 generalize r.takeWhile eH=t at *
 split at h
 · cases h;simp at az
 · rename_i XE
   split at h
   · cases h;simp at az
   · rename_i tZ
     split at h
     · cases h
     · rename_i hlen
       cases h
       refine ⟨rfl,?_⟩
       have kg:(if k=3 then (kd (c::t)||(c::t).head? == some 95)&&!decide (c::t=[95])&&!l6 (c::t) else if k=4 then wv (c::t) else kd (c::t))=true:=by
        rcases ax with ⟨rfl,z⟩ | ⟨rfl,z⟩ | ⟨rfl,z⟩
        · rw [if_pos rfl]
          have aa:(kd (c::t)||(c::t).head? == some 95)=true:=by
           rcases z with z | z
           · show (fQ c.toNat||_)=true
             rw [z];rfl
           · subst z;simp
          rw [aa,decide_eq_false (fun z=>XE ⟨rfl,z⟩),Bool.eq_false_iff.2 (fun z=>tZ ⟨rfl,z⟩)]
          rfl
        · exact z
        · exact z
       show hV k (c::t)=true
       unfold hV
       rw [kg,br,decide_eq_true (show c::t≠[] by simp),decide_eq_true (show (c::t).length≤64 by omega)]
       rfl
theorem abE {r:List UInt8} {q:Int × Int × List UInt8 × Nat} (h:fP r=.ok q) (az:q.1=3∨q.1=4∨q.1=5):hV q.1 q.2.2.1=true:=by
 match r,h with
 | c::r,h=>
   simp only [fP] at h
   split at h
   · unfold uI at h
     simp only at h
     split at h
     · cases h
     · cases h;simp at az
   · split at h
     · unfold po at h
       split at h
       · cases h
       · split at h
         · cases h
         · cases h;simp at az
     · split at h
       · rename_i aQ
         have:=FJ (.inl ⟨rfl,by simpa using aQ⟩) h az
         rw [this.1];exact this.2
       · split at h
         · rename_i aQ
           have:=FJ (.inr (.inl ⟨rfl,aQ⟩)) h az
           rw [this.1];exact this.2
         · split at h
           · rename_i aQ
             cases aV:iD 5 r with
             | error e=>rw [aV] at h;cases h
             | ok dX=>
               rw [aV] at h
               cases h
               obtain ⟨d,t,rfl⟩:∃d t,r=d::t:=by
                cases r with
                | nil=>simp [kd] at aQ
                | cons d t=>exact ⟨d,t,rfl⟩
               have:=FJ (.inr (.inr ⟨rfl,aQ.2⟩)) aV az
               show hV dX.1 dX.2.2.1=true
               rw [this.1];exact this.2
           · unfold uY at h
             split at h
             · cases h;simp at az
             · cases h
theorem z_:∀(f:Nat) (r:List UInt8) (p:Nat) (ws:List b8),lx f r p=.ok ws→∀w ∈ ws,w.kind=3∨w.kind=4∨w.kind=5→hV w.kind w.text=true
 | 0,r,p,ws,h,w,hw,_=>by simp only [lx,Except.ok.injEq] at h;subst h;cases hw
 | f+1,[],p,ws,h,w,hw,_=>by simp only [lx,Except.ok.injEq] at h;subst h;cases hw
 | f+1,c::r,p,ws,h,w,hw,ax=>by
   simp only [lx] at h
   split at h
   · exact z_ f _ _ ws h w hw ax
   · split at h
     · split at h
       · cases h
       · exact z_ f _ _ ws h w hw ax
     · split at h
       · cases h
       · rename_i q aV
         cases aG:lx f ((c::r).drop q.2.2.2) (p+q.2.2.2) with
         | error aN=>rw [aG] at h;cases h
         | ok bM=>
           rw [aG] at h
           simp only [vX,Except.ok.injEq] at h
           subst h
           rcases List.mem_cons.1 hw with rfl | hw
           · exact abE aV ax
           · exact z_ f _ _ bM aG w hw ax
theorem adf {k:Int} {s:List UInt8} (ax:k=3∨k=4∨k=5) (h:hV k s=true):ly (if k=5 then 39::s else s)=.ok [⟨k,0,0,s⟩]:=by
 obtain ⟨g1,g2,g3,g4⟩:=abA h
 obtain ⟨c,t,rfl⟩:=List.exists_cons_of_ne_nil g1
 have Wq:∀d ∈ (if k=5 then 39::c::t else c::t),d.toNat<128:=by
  intro d a1
  have aa:∀d ∈ c::t,d.toNat<128:=fun d a1=>Qq (List.all_eq_true.1 g3 d a1)
  split at a1
  · rcases List.mem_cons.1 a1 with rfl | a1
    · decide
    · exact aa d a1
  · exact aa d a1
 rw [aa5 Wq,if_neg (by split<;>simp only [List.length_cons] at g2 ⊢<;>omega)]
 have ai:eH c=true:=by rw [List.all_cons,Bool.and_eq_true] at g3;exact g3.1
 obtain ⟨ct,cf⟩:=abk ai
 have rd:∀j:Int,(j=3→c::t≠[95]∧l6 (c::t)=false)→iD j (c::t)=.ok (j,0,c::t,(c::t).length):=by
  intro j bB
  unfold iD
  simp only [Oz _ g3]
  rw [if_neg (fun q=>(bB q.1).1 q.2),if_neg (fun q=>by rw [(bB q.1).2] at q;simp at q),if_neg (by omega)]
 have fin:∀(d:UInt8) (u:List UInt8) (q:Int × Int × List UInt8 × Nat),blank d=false→d≠40→fP (d::u)=.ok q→q.2.2.2=(d::u).length→n0 (d::u) 0=.ok [⟨q.1,q.2.1,0,q.2.2.1⟩]:=by
  intro d u q aN bf bT dA
  rw [L1,aN,if_neg Bool.false_ne_true,abL bf,if_neg Bool.false_ne_true,bT]
  simp only [dA,List.drop_length]
  rfl
 rcases ax with rfl | rfl | rfl
 · rw [if_neg (by decide)]
   rw [if_pos rfl] at g4
   simp only [Bool.and_eq_true,Bool.not_eq_true',decide_eq_false_iff_not,Bool.or_eq_true,beq_iff_eq] at g4
   have bc:fQ c.toNat=true∨c=95:=g4.1.1.imp id (fun q=>Option.some.inj q)
   exact fin c t _ ct cf (by rw [abJ bc];exact rd 3 (fun _=>⟨g4.1.2,g4.2⟩)) rfl
 · rw [if_neg (by decide)]
   rw [if_neg (by decide),if_pos rfl] at g4
   have aE:kM c.toNat=true:=g4
   obtain ⟨cr,gr,n3,n4⟩:=V1 aE
   refine fin c t (4,0,c::t,(c::t).length) ct cf ?_ rfl
   simp only [fP,cr,n3,aE,if_neg gr,Bool.false_eq_true,if_false,if_true,Bool.false_or,decide_eq_true_eq,if_neg n4]
   exact rd 4 (fun q=>absurd q (by decide))
 · rw [if_pos rfl]
   rw [if_neg (by decide),if_neg (by decide)] at g4
   refine fin 39 (c::t) (5,0,c::t,(c::t).length+1) (by decide) (by decide) ?_ rfl
   simp only [fP]
   rw [if_neg (by decide),if_neg (by decide),if_neg (by decide),if_neg (by decide),if_pos ⟨trivial,g4⟩,rd 5 (fun q=>absurd q (by decide))]
   rfl
theorem UA (t:aL):t.deep=fw t.l+1:=by cases t;simp only [aL.deep,aL.l]
theorem size_eq (t:aL):t.size=1+c2 t.l:=by cases t;simp only [aL.size,aL.l]
theorem F_:∀l m:List aL,fw (l++m)=max (fw l) (fw m)
 | [],m=>by simp [fw]
 | t::l,m=>by rw [List.cons_append,fw,fw,F_ l m,Nat.max_assoc]
theorem AH:∀l m:List aL,c2 (l++m)=c2 l+c2 m
 | [],m=>by simp [c2]
 | t::l,m=>by rw [List.cons_append,c2,c2,AH l m,Nat.add_assoc]
theorem take_one {l:List aL} {i:Nat} (h:i<l.length):l.take (i+1)=l.take i++[l[i]]:=by rw [List.take_succ_eq_append_getElem h]
theorem acF {l:List aL} {i:Nat} (h:i<l.length):fw (l.take (i+1))=max (fw (l.take i)) l[i].deep:=by rw [take_one h,F_,fw,fw,Nat.max_zero]
theorem M9 {l:List aL} {i:Nat} (h:i<l.length):c2 (l.take (i+1))=c2 (l.take i)+l[i].size:=by rw [take_one h,AH,c2,c2,Nat.add_zero]
mutual
theorem I7:∀t:aL,t.deep≤t.size
 | .mk k n s l=>by rw [aL.deep,aL.size];have:=xz l;omega
theorem xz:∀l:List aL,fw l≤c2 l
 | []=>Nat.le_refl _
 | t::l=>by rw [fw,c2];have:=I7 t;have:=xz l;omega
end
theorem xD (l:List aL) (i:Nat):c2 (l.take i)≤c2 l:=by
 have:=AH (l.take i) (l.drop i)
 rw [List.take_append_drop] at this
 omega
theorem Gj {l:List aL} {i:Nat} (aD:i<l.length):c2 l[i].l<c2 l:=by
 have aa:=AI (List.getElem_mem aD)
 have ae:=size_eq l[i]
 omega
theorem FH (a b:Nat):(if (a:Int) < (b:Int) then (b:Int) else (a:Int))=((max a b:Nat):Int):=by
 by_cases h:(a:Int) < (b:Int)
 · rw [if_pos h,Nat.max_eq_right (by omega)]
 · rw [if_neg h,Nat.max_eq_left (by omega)]
mutual
def aL.pred:Nat→aL→List (Nat × aL)
 | d,.mk k n s l=>(d,.mk k n s l)::hc (d+1) l
def hc:Nat→List aL→List (Nat × aL)
 | _,[]=>[]
 | d,t::l=>t.pred d++hc d l
end
theorem acJ (d:Nat) (t:aL):t.pred d=(d,t)::hc (d+1) t.l:=by cases t;simp only [aL.pred,aL.l]
theorem Gf (d:Nat):∀l m:List aL,hc d (l++m)=hc d l++hc d m
 | [],m=>rfl
 | t::l,m=>by rw [List.cons_append,hc,hc,Gf d l m,List.append_assoc]
theorem acL (d:Nat) (t:aL):hc d [t]=t.pred d:=by rw [hc,hc,List.append_nil]
mutual
theorem Gd:∀(d:Nat) (t:aL),(t.pred d).map Prod.snd=t.pre
 | d,.mk k n s l=>by rw [aL.pred,aL.pre,List.map_cons,Gg (d+1) l]
theorem Gg:∀(d:Nat) (l:List aL),(hc d l).map Prod.snd=qz l
 | _,[]=>rfl
 | d,t::l=>by rw [hc,qz,List.map_append,Gd d t,Gg d l]
end
theorem M4 (d:Nat) (t:aL):(t.pred d).length=t.size:=by
 rw [←M1,←Gd d t,List.length_map]
theorem acK (d:Nat) (l:List aL):(hc d l).length=c2 l:=by
 rw [←Gh,←Gg d l,List.length_map]
def maxD (l:List (Nat × aL)):Nat:=l.foldl (fun m x=>max m x.1) 0
theorem foldl_max (l:List (Nat × aL)) (m:Nat):l.foldl (fun m x=>max m x.1) m=max m (maxD l):=by
 unfold maxD
 induction l generalizing m with
 | nil=>simp
 | cons x l bh=>rw [List.foldl_cons,List.foldl_cons,bh,bh (max 0 x.1)];omega
theorem FG (l m:List (Nat × aL)):maxD (l++m)=max (maxD l) (maxD m):=by
 conv=>lhs;unfold maxD
 rw [List.foldl_append,foldl_max]
 rfl
theorem Mh (x:Nat × aL) (l:List (Nat × aL)):maxD (x::l)=max x.1 (maxD l):=by
 have:=FG [x] l
 rw [List.singleton_append] at this
 rw [this]
 congr 1
mutual
theorem M5:∀(d:Nat) (t:aL),maxD (t.pred d)+1=d+t.deep
 | d,.mk k n s l=>by
   rw [aL.pred,aL.deep,Mh]
   have:=M6 (d+1) l
   simp only
   split at this
   · rename_i q;subst q;simp only [hc,fw];unfold maxD;simp
   · omega
theorem M6:∀(d:Nat) (l:List aL),if l=[] then maxD (hc d l)=0 else maxD (hc d l)+1=d+fw l
 | _,[]=>by simp [hc,maxD]
 | d,t::l=>by
   rw [if_neg (by simp),hc,FG,fw]
   have aa:=M5 d t
   have ae:=M6 d l
   split at ae
   · rename_i q;subst q;rw [ae];simp only [fw];omega
   · omega
end
def B1:List UInt8:=[45,62]
def GY:List UInt8:=[42]
def aL.own (t:aL):Bool:=
 if t.k=1 then decide (0≤t.n)&&decide (t.n≤1048575)&&decide (t.s=[])&&decide (t.l.length=0)
 else if t.k=2 then (if t.s=B1∨t.s=GY then decide (t.n=0)&&decide (t.l.length=2) else decide (t.n=0)&&decide (t.l.length≤64)&&hV 3 t.s)
 else false
mutual
def aL.shape:aL→Bool
 | .mk k n s l=>(aL.mk k n s l).own&&ih l
def ih:List aL→Bool
 | []=>true
 | t::l=>t.shape&&ih l
end
theorem xJ (t:aL):t.shape=(t.own&&ih t.l):=by cases t;rw [aL.shape];rfl
theorem GS:∀l:List aL,ih l=l.all aL.shape
 | []=>rfl
 | t::l=>by rw [ih,List.all_cons,GS l]
mutual
theorem N0:∀t:aL,t.shape=t.pre.all aL.own
 | .mk k n s l=>by rw [aL.shape,aL.pre,List.all_cons,N1 l]
theorem N1:∀l:List aL,ih l=(qz l).all aL.own
 | []=>rfl
 | t::l=>by rw [ih,qz,List.all_append,N0 t,N1 l]
end
def aL.check (t:aL):Int:=if t.shape then (if t.size≤4096∧t.deep≤200 then 0 else 3) else 2
def HQ (out:List Int) (t:aL):List Int:=if t.k=1∧¬t.n ∈ out then out++[t.n] else out
end Go.Proofs.YthemdhlheglhoaaGreatDoor
