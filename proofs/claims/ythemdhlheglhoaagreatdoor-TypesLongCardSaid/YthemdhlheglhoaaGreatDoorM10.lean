/- The chapter's functions, walked by the abstract machine: plain lemmas, no condition. Printed by a program from longer texts: names made short. -/
import Derived.Test.YthemdhlheglhoaaGreatDoorM8
import Derived.Test.YthemdhlheglhoaaGreatDoorM9
import Derived.Shelf.LaysM
import Derived.Shelf.Strconv.Itoa3
import Derived.Shelf.Unicode.Decode
import Derived.Shelf.Unicode.DecodeSlow
import Derived.Shelf.Unicode.DecodeAny
import Derived.Shelf.Strconv.Atoi
import Derived.Shelf.Pu.ParseUintPublic10
import Derived.Lib.LaidU8T
import Derived.Test.YthemdhlheglhoaaGreatDoorM6
set_option linter.unusedSectionVars false
set_option linter.unusedSimpArgs false
set_option linter.unusedVariables false
set_option maxHeartbeats 64000000
noncomputable section
namespace Go.Proofs.YthemdhlheglhoaaGreatDoor
section
open Go a8
theorem ac6:Extern.findNext Tryz.f153=none:=by kernel_rfl
theorem ac5:(Extern.find Tryz.f153)=some Extern.BytealgIndexByte.indexByte:=by kernel_rfl
theorem agB (s:List UInt8) (c:Int) (h:ah):gu Tryz.prog 153 [.str s,.int .u8 c] h (.int .i64 (Lib.indexByte s c.toNat.toUInt8)) h:=
 agD (by decide) Tryz.func153 (by kernel_rfl) (by kernel_rfl) ac6 ac5 s c h
theorem agA (s:List UInt8) (c:Int) (h:ah):gu Tryz.prog 138 [.str s,.int .u8 c] h (.int .i64 (Lib.indexByte s c.toNat.toUInt8)) h:=by refine pz (aar.z rfl (dM ?_));unfold c138;simp +contextual only [↓al,aG,simprocAttr];refine gL (agB _ _ _) ?_;simp +contextual only [↓al,aG,simprocAttr]
theorem Tv (s:List UInt8) (c:Int) (h:ah):gu Tryz.prog 124 [.str s,.int .u8 c] h (.int .i64 (Lib.indexByte s c.toNat.toUInt8)) h:=by refine pz (aan.z rfl (dM ?_));unfold PG;simp +contextual only [↓al,aG,simprocAttr];refine gL (agA _ _ _) ?_;simp +contextual only [↓al,aG,simprocAttr]
end
section
open Go Go.Shelf
def Tryz.ajp:Go.Shelf.Ren:=⟨fun | 197=>137 | 260=>152 | n=>n,fun | 9=>9 | 21=>21 | 3=>3 | 4=>4 | 5=>5 | 105=>182 | 119=>199 | 0=>0 | 46=>141 | 139=>202 | 138=>201 | n=>n,fun | 3=>2 | 4=>3 | n=>n⟩
theorem Tryz.ajo:Go.Proofs.Lays.n197 Tryz.prog Tryz.ajp:={
 mixed:=by kernel_rfl,
 f197:=Tryz.func137.trans (congrArg some (by kernel_rfl)),
 f260:=Tryz.func152.trans (congrArg some (by kernel_rfl)),
 t0:=Tryz.underlying0,
 a0:=Tryz.isAgg0,
 z0:=Tryz.sizeOf0,
 v0:=Tryz.zeroValue0,
 t3:=Tryz.underlying3,
 a3:=Tryz.isAgg3,
 z3:=Tryz.sizeOf3,
 v3:=Tryz.zeroValue3,
 t4:=Tryz.underlying4,
 a4:=Tryz.isAgg4,
 z4:=Tryz.sizeOf4,
 v4:=Tryz.zeroValue4,
 t5:=Tryz.underlying5,
 a5:=Tryz.isAgg5,
 z5:=Tryz.sizeOf5,
 v5:=Tryz.zeroValue5,
 t9:=Tryz.underlying9,
 a9:=Tryz.isAgg9,
 z9:=Tryz.sizeOf9,
 v9:=Tryz.zeroValue9,
 t21:=Tryz.underlying21,
 a21:=Tryz.isAgg21,
 z21:=Tryz.sizeOf21,
 v21:=Tryz.zeroValue21,
 t46:=Tryz.underlying141,
 a46:=Tryz.isAgg141,
 z46:=Tryz.sizeOf141,
 v46:=Tryz.zeroValue141,
 t105:=Tryz.underlying182,
 a105:=Tryz.isAgg182,
 z105:=Tryz.sizeOf182,
 v105:=Tryz.zeroValue182,
 t119:=Tryz.underlying199,
 a119:=Tryz.isAgg199,
 z119:=Tryz.sizeOf199,
 t138:=Tryz.underlying201,
 a138:=Tryz.isAgg201,
 z138:=Tryz.sizeOf201,
 v138:=Tryz.zeroValue201,
 t139:=Tryz.underlying202,
 a139:=Tryz.isAgg202,
 z139:=Tryz.sizeOf202,
 v139:=Tryz.zeroValue202,
 g3:=by kernel_rfl,
 g4:=by kernel_rfl}
def Tryz.ajn:Go.Shelf.Ren:=⟨fun | 172=>166 | 244=>176 | 245=>165 | 247=>180 | 279=>172 | 280=>173 | 281=>174 | 282=>175 | 287=>164 | 316=>178 | 171=>94 | 205=>179 | 321=>170 | 322=>171 | 243=>109 | 246=>128 | 283=>147 | 284=>148 | 285=>149 | 286=>150 | 129=>122 | 317=>160 | 318=>161 | 319=>162 | 320=>163 | 337=>168 | 338=>169 | n=>n,fun | 9=>9 | 3=>3 | 75=>133 | 76=>134 | 4=>4 | 5=>5 | 167=>205 | 37=>128 | 0=>0 | 85=>216 | 2=>2 | 168=>207 | 53=>166 | 175=>192 | 46=>141 | 210=>214 | 127=>155 | 145=>220 | 143=>218 | 21=>21 | 171=>186 | 173=>188 | 212=>197 | 51=>164 | 20=>20 | 213=>198 | 232=>210 | 233=>211 | 80=>136 | n=>n,fun | 15=>6 | 16=>7 | 17=>1 | 18=>4 | 19=>5 | n=>n⟩
theorem Tryz.ajm:Go.Proofs.Lays.n172 Tryz.prog Tryz.ajn:={
 mixed:=by kernel_rfl,
 f129:=Tryz.func122.trans (congrArg some (by kernel_rfl)),
 f171:=Tryz.func94.trans (congrArg some (by kernel_rfl)),
 f172:=Tryz.func166.trans (congrArg some (by kernel_rfl)),
 f205:=Tryz.func179.trans (congrArg some (by kernel_rfl)),
 f243:=Tryz.func109.trans (congrArg some (by kernel_rfl)),
 f244:=Tryz.func176.trans (congrArg some (by kernel_rfl)),
 f245:=Tryz.func165.trans (congrArg some (by kernel_rfl)),
 f246:=Tryz.func128.trans (congrArg some (by kernel_rfl)),
 f247:=Tryz.func180.trans (congrArg some (by kernel_rfl)),
 f279:=Tryz.func172.trans (congrArg some (by kernel_rfl)),
 f280:=Tryz.func173.trans (congrArg some (by kernel_rfl)),
 f281:=Tryz.func174.trans (congrArg some (by kernel_rfl)),
 f282:=Tryz.func175.trans (congrArg some (by kernel_rfl)),
 f283:=Tryz.func147.trans (congrArg some (by kernel_rfl)),
 f284:=Tryz.func148.trans (congrArg some (by kernel_rfl)),
 f285:=Tryz.func149.trans (congrArg some (by kernel_rfl)),
 f286:=Tryz.func150.trans (congrArg some (by kernel_rfl)),
 f287:=Tryz.func164.trans (congrArg some (by kernel_rfl)),
 f316:=Tryz.func178.trans (congrArg some (by kernel_rfl)),
 f317:=Tryz.func160.trans (congrArg some (by kernel_rfl)),
 f318:=Tryz.func161.trans (congrArg some (by kernel_rfl)),
 f319:=Tryz.func162.trans (congrArg some (by kernel_rfl)),
 f320:=Tryz.func163.trans (congrArg some (by kernel_rfl)),
 f321:=Tryz.func170.trans (congrArg some (by kernel_rfl)),
 f322:=Tryz.func171.trans (congrArg some (by kernel_rfl)),
 f337:=Tryz.func168.trans (congrArg some (by kernel_rfl)),
 f338:=Tryz.func169.trans (congrArg some (by kernel_rfl)),
 t0:=Tryz.underlying0,
 a0:=Tryz.isAgg0,
 z0:=Tryz.sizeOf0,
 v0:=Tryz.zeroValue0,
 t2:=Tryz.underlying2,
 a2:=Tryz.isAgg2,
 z2:=Tryz.sizeOf2,
 v2:=Tryz.zeroValue2,
 t3:=Tryz.underlying3,
 a3:=Tryz.isAgg3,
 z3:=Tryz.sizeOf3,
 v3:=Tryz.zeroValue3,
 t4:=Tryz.underlying4,
 a4:=Tryz.isAgg4,
 z4:=Tryz.sizeOf4,
 v4:=Tryz.zeroValue4,
 t5:=Tryz.underlying5,
 a5:=Tryz.isAgg5,
 z5:=Tryz.sizeOf5,
 v5:=Tryz.zeroValue5,
 t9:=Tryz.underlying9,
 a9:=Tryz.isAgg9,
 z9:=Tryz.sizeOf9,
 v9:=Tryz.zeroValue9,
 t20:=Tryz.underlying20,
 a20:=Tryz.isAgg20,
 z20:=Tryz.sizeOf20,
 v20:=Tryz.zeroValue20,
 t21:=Tryz.underlying21,
 a21:=Tryz.isAgg21,
 z21:=Tryz.sizeOf21,
 v21:=Tryz.zeroValue21,
 t37:=Tryz.underlying128,
 a37:=Tryz.isAgg128,
 z37:=Tryz.sizeOf128,
 v37:=Tryz.zeroValue128,
 t46:=Tryz.underlying141,
 a46:=Tryz.isAgg141,
 z46:=Tryz.sizeOf141,
 v46:=Tryz.zeroValue141,
 t51:=Tryz.underlying164,
 a51:=Tryz.isAgg164,
 z51:=Tryz.sizeOf164,
 v51:=Tryz.zeroValue164,
 t53:=Tryz.underlying166,
 a53:=Tryz.isAgg166,
 z53:=Tryz.sizeOf166,
 v53:=Tryz.zeroValue166,
 t75:=Tryz.underlying133,
 a75:=Tryz.isAgg133,
 z75:=Tryz.sizeOf133,
 v75:=Tryz.zeroValue133,
 t76:=Tryz.underlying134,
 a76:=Tryz.isAgg134,
 z76:=Tryz.sizeOf134,
 v76:=Tryz.zeroValue134,
 t85:=Tryz.underlying216,
 a85:=Tryz.isAgg216,
 z85:=Tryz.sizeOf216,
 v85:=Tryz.zeroValue216,
 t127:=Tryz.underlying155,
 a127:=Tryz.isAgg155,
 z127:=Tryz.sizeOf155,
 v127:=Tryz.zeroValue155,
 t143:=Tryz.underlying218,
 a143:=Tryz.isAgg218,
 z143:=Tryz.sizeOf218,
 v143:=Tryz.zeroValue218,
 t145:=Tryz.underlying220,
 a145:=Tryz.isAgg220,
 z145:=Tryz.sizeOf220,
 v145:=Tryz.zeroValue220,
 t167:=Tryz.underlying205,
 a167:=Tryz.isAgg205,
 z167:=Tryz.sizeOf205,
 v167:=Tryz.zeroValue205,
 t168:=Tryz.underlying207,
 a168:=Tryz.isAgg207,
 z168:=Tryz.sizeOf207,
 v168:=Tryz.zeroValue207,
 t171:=Tryz.underlying186,
 a171:=Tryz.isAgg186,
 z171:=Tryz.sizeOf186,
 v171:=Tryz.zeroValue186,
 t173:=Tryz.underlying188,
 a173:=Tryz.isAgg188,
 z173:=Tryz.sizeOf188,
 v173:=Tryz.zeroValue188,
 t175:=Tryz.underlying192,
 a175:=Tryz.isAgg192,
 z175:=Tryz.sizeOf192,
 v175:=Tryz.zeroValue192,
 t210:=Tryz.underlying214,
 a210:=Tryz.isAgg214,
 z210:=Tryz.sizeOf214,
 v210:=Tryz.zeroValue214,
 t212:=Tryz.underlying197,
 a212:=Tryz.isAgg197,
 z212:=Tryz.sizeOf197,
 v212:=Tryz.zeroValue197,
 t213:=Tryz.underlying198,
 a213:=Tryz.isAgg198,
 z213:=Tryz.sizeOf198,
 t232:=Tryz.underlying210,
 a232:=Tryz.isAgg210,
 z232:=Tryz.sizeOf210,
 v232:=Tryz.zeroValue210,
 t233:=Tryz.underlying211,
 a233:=Tryz.isAgg211,
 z233:=Tryz.sizeOf211,
 v233:=Tryz.zeroValue211,
 g15:=by kernel_rfl,
 g16:=by kernel_rfl,
 g17:=by kernel_rfl,
 g18:=by kernel_rfl,
 g19:=by kernel_rfl}
def Tryz.Lp:Go.Shelf.Ren:=⟨fun | 14=>155 | 16=>164 | 17=>165 | 19=>170 | 20=>171 | 21=>172 | 22=>173 | 23=>174 | 24=>175 | 25=>178 | 27=>94 | 26=>179 | 28=>109 | 29=>128 | 30=>147 | 31=>148 | 32=>149 | 33=>150 | 35=>122 | 34=>160 | 36=>161 | 37=>162 | 38=>163 | 39=>168 | 40=>169 | n=>n,fun | 9=>9 | 3=>3 | 22=>166 | 24=>133 | 25=>192 | 4=>4 | 34=>205 | 5=>5 | 36=>141 | 37=>128 | 0=>0 | 39=>207 | 21=>21 | 44=>214 | 47=>155 | 50=>220 | 48=>218 | 2=>2 | 52=>186 | 55=>188 | 59=>197 | 60=>164 | 20=>20 | 61=>198 | 65=>210 | 66=>211 | 67=>136 | n=>n,fun | 0=>6 | 1=>7 | 2=>1 | 3=>4 | 4=>5 | n=>n⟩
theorem Tryz.TU:Go.Proofs.LaysPu.n14 Tryz.prog Tryz.Lp:={
 mixed:=by kernel_rfl,
 f14:=Tryz.func155.trans (congrArg some (by kernel_rfl)),
 f16:=Tryz.func164.trans (congrArg some (by kernel_rfl)),
 f17:=Tryz.func165.trans (congrArg some (by kernel_rfl)),
 f19:=Tryz.func170.trans (congrArg some (by kernel_rfl)),
 f20:=Tryz.func171.trans (congrArg some (by kernel_rfl)),
 f21:=Tryz.func172.trans (congrArg some (by kernel_rfl)),
 f22:=Tryz.func173.trans (congrArg some (by kernel_rfl)),
 f23:=Tryz.func174.trans (congrArg some (by kernel_rfl)),
 f24:=Tryz.func175.trans (congrArg some (by kernel_rfl)),
 f25:=Tryz.func178.trans (congrArg some (by kernel_rfl)),
 f26:=Tryz.func179.trans (congrArg some (by kernel_rfl)),
 f27:=Tryz.func94.trans (congrArg some (by kernel_rfl)),
 f28:=Tryz.func109.trans (congrArg some (by kernel_rfl)),
 f29:=Tryz.func128.trans (congrArg some (by kernel_rfl)),
 f30:=Tryz.func147.trans (congrArg some (by kernel_rfl)),
 f31:=Tryz.func148.trans (congrArg some (by kernel_rfl)),
 f32:=Tryz.func149.trans (congrArg some (by kernel_rfl)),
 f33:=Tryz.func150.trans (congrArg some (by kernel_rfl)),
 f34:=Tryz.func160.trans (congrArg some (by kernel_rfl)),
 f35:=Tryz.func122.trans (congrArg some (by kernel_rfl)),
 f36:=Tryz.func161.trans (congrArg some (by kernel_rfl)),
 f37:=Tryz.func162.trans (congrArg some (by kernel_rfl)),
 f38:=Tryz.func163.trans (congrArg some (by kernel_rfl)),
 f39:=Tryz.func168.trans (congrArg some (by kernel_rfl)),
 f40:=Tryz.func169.trans (congrArg some (by kernel_rfl)),
 t0:=Tryz.underlying0,
 a0:=Tryz.isAgg0,
 z0:=Tryz.sizeOf0,
 v0:=Tryz.zeroValue0,
 i0:=by kernel_rfl,
 t2:=Tryz.underlying2,
 a2:=Tryz.isAgg2,
 z2:=Tryz.sizeOf2,
 v2:=Tryz.zeroValue2,
 i2:=by kernel_rfl,
 t3:=Tryz.underlying3,
 a3:=Tryz.isAgg3,
 z3:=Tryz.sizeOf3,
 v3:=Tryz.zeroValue3,
 i3:=by kernel_rfl,
 t4:=Tryz.underlying4,
 a4:=Tryz.isAgg4,
 z4:=Tryz.sizeOf4,
 v4:=Tryz.zeroValue4,
 i4:=by kernel_rfl,
 t5:=Tryz.underlying5,
 a5:=Tryz.isAgg5,
 z5:=Tryz.sizeOf5,
 v5:=Tryz.zeroValue5,
 i5:=by kernel_rfl,
 t9:=Tryz.underlying9,
 a9:=Tryz.isAgg9,
 z9:=Tryz.sizeOf9,
 v9:=Tryz.zeroValue9,
 i9:=by kernel_rfl,
 t20:=Tryz.underlying20,
 a20:=Tryz.isAgg20,
 z20:=Tryz.sizeOf20,
 v20:=Tryz.zeroValue20,
 i20:=by kernel_rfl,
 t21:=Tryz.underlying21,
 a21:=Tryz.isAgg21,
 z21:=Tryz.sizeOf21,
 v21:=Tryz.zeroValue21,
 i21:=by kernel_rfl,
 t22:=Tryz.underlying166,
 a22:=Tryz.isAgg166,
 z22:=Tryz.sizeOf166,
 v22:=Tryz.zeroValue166,
 i22:=by kernel_rfl,
 t24:=Tryz.underlying133,
 a24:=Tryz.isAgg133,
 z24:=Tryz.sizeOf133,
 v24:=Tryz.zeroValue133,
 i24:=by kernel_rfl,
 t25:=Tryz.underlying192,
 a25:=Tryz.isAgg192,
 z25:=Tryz.sizeOf192,
 v25:=Tryz.zeroValue192,
 i25:=by kernel_rfl,
 t34:=Tryz.underlying205,
 a34:=Tryz.isAgg205,
 z34:=Tryz.sizeOf205,
 v34:=Tryz.zeroValue205,
 i34:=by kernel_rfl,
 c34:=by kernel_rfl,
 t36:=Tryz.underlying141,
 a36:=Tryz.isAgg141,
 z36:=Tryz.sizeOf141,
 v36:=Tryz.zeroValue141,
 i36:=by kernel_rfl,
 t37:=Tryz.underlying128,
 a37:=Tryz.isAgg128,
 z37:=Tryz.sizeOf128,
 v37:=Tryz.zeroValue128,
 i37:=by kernel_rfl,
 t39:=Tryz.underlying207,
 a39:=Tryz.isAgg207,
 z39:=Tryz.sizeOf207,
 v39:=Tryz.zeroValue207,
 i39:=by kernel_rfl,
 t44:=Tryz.underlying214,
 a44:=Tryz.isAgg214,
 z44:=Tryz.sizeOf214,
 v44:=Tryz.zeroValue214,
 i44:=by kernel_rfl,
 t47:=Tryz.underlying155,
 a47:=Tryz.isAgg155,
 z47:=Tryz.sizeOf155,
 v47:=Tryz.zeroValue155,
 i47:=by kernel_rfl,
 t48:=Tryz.underlying218,
 a48:=Tryz.isAgg218,
 z48:=Tryz.sizeOf218,
 v48:=Tryz.zeroValue218,
 i48:=by kernel_rfl,
 t50:=Tryz.underlying220,
 a50:=Tryz.isAgg220,
 z50:=Tryz.sizeOf220,
 v50:=Tryz.zeroValue220,
 i50:=by kernel_rfl,
 t52:=Tryz.underlying186,
 a52:=Tryz.isAgg186,
 z52:=Tryz.sizeOf186,
 v52:=Tryz.zeroValue186,
 i52:=by kernel_rfl,
 t55:=Tryz.underlying188,
 a55:=Tryz.isAgg188,
 z55:=Tryz.sizeOf188,
 v55:=Tryz.zeroValue188,
 i55:=by kernel_rfl,
 t59:=Tryz.underlying197,
 a59:=Tryz.isAgg197,
 z59:=Tryz.sizeOf197,
 v59:=Tryz.zeroValue197,
 i59:=by kernel_rfl,
 t60:=Tryz.underlying164,
 a60:=Tryz.isAgg164,
 z60:=Tryz.sizeOf164,
 v60:=Tryz.zeroValue164,
 i60:=by kernel_rfl,
 t61:=Tryz.underlying198,
 a61:=Tryz.isAgg198,
 z61:=Tryz.sizeOf198,
 t65:=Tryz.underlying210,
 a65:=Tryz.isAgg210,
 z65:=Tryz.sizeOf210,
 v65:=Tryz.zeroValue210,
 i65:=by kernel_rfl,
 t66:=Tryz.underlying211,
 a66:=Tryz.isAgg211,
 z66:=Tryz.sizeOf211,
 v66:=Tryz.zeroValue211,
 i66:=by kernel_rfl,
 t67:=Tryz.underlying136,
 a67:=Tryz.isAgg136,
 z67:=Tryz.sizeOf136,
 v67:=Tryz.zeroValue136,
 i67:=by kernel_rfl,
 g0:=by kernel_rfl,
 m0:=by kernel_rfl,
 g1:=by kernel_rfl,
 m1:=by kernel_rfl,
 g2:=by kernel_rfl,
 m2:=by kernel_rfl,
 g3:=by kernel_rfl,
 m3:=by kernel_rfl,
 g4:=by kernel_rfl,
 m4:=by kernel_rfl}
def Tryz.Cn:Go.Shelf.Ren:=⟨fun | 260=>152 | n=>n,fun | 9=>9 | 21=>21 | 3=>3 | 4=>4 | 5=>5 | 119=>199 | 0=>0 | 46=>141 | 139=>202 | 138=>201 | n=>n,fun | 3=>2 | 4=>3 | n=>n⟩
theorem Tryz.ajq:Go.Proofs.Lays.n260 Tryz.prog Tryz.Cn:={
 mixed:=by kernel_rfl,
 f260:=Tryz.func152.trans (congrArg some (by kernel_rfl)),
 t0:=Tryz.underlying0,
 a0:=Tryz.isAgg0,
 z0:=Tryz.sizeOf0,
 v0:=Tryz.zeroValue0,
 t3:=Tryz.underlying3,
 a3:=Tryz.isAgg3,
 z3:=Tryz.sizeOf3,
 v3:=Tryz.zeroValue3,
 t4:=Tryz.underlying4,
 a4:=Tryz.isAgg4,
 z4:=Tryz.sizeOf4,
 v4:=Tryz.zeroValue4,
 t5:=Tryz.underlying5,
 a5:=Tryz.isAgg5,
 z5:=Tryz.sizeOf5,
 v5:=Tryz.zeroValue5,
 t9:=Tryz.underlying9,
 a9:=Tryz.isAgg9,
 z9:=Tryz.sizeOf9,
 v9:=Tryz.zeroValue9,
 t21:=Tryz.underlying21,
 a21:=Tryz.isAgg21,
 z21:=Tryz.sizeOf21,
 v21:=Tryz.zeroValue21,
 t46:=Tryz.underlying141,
 a46:=Tryz.isAgg141,
 z46:=Tryz.sizeOf141,
 v46:=Tryz.zeroValue141,
 t119:=Tryz.underlying199,
 a119:=Tryz.isAgg199,
 z119:=Tryz.sizeOf199,
 t138:=Tryz.underlying201,
 a138:=Tryz.isAgg201,
 z138:=Tryz.sizeOf201,
 v138:=Tryz.zeroValue201,
 t139:=Tryz.underlying202,
 a139:=Tryz.isAgg202,
 z139:=Tryz.sizeOf202,
 v139:=Tryz.zeroValue202,
 g3:=by kernel_rfl,
 g4:=by kernel_rfl}
end
section
open Go a8 Go.RowKit
section
open Go.Shelf
theorem ace (s:ByteArray) (w:World) (dK:Lib.Utf8Tabs 2 3 w):
 Calls Tryz.prog 137 #[.string s] w fun e an=>e=.returned (.tuple #[.int .i32 (Lib.decodeGo s).1,.int .i64 (Lib.decodeGo s).2])/\Below w.heap.size w an:=Any.utf8_DecodeRuneInString Tryz.ajo s w dK
theorem ZN (s:ByteArray) (n:Int) (aA:s.size<=18) (h:Lib.atoi s.data.toList=some n) (w:World):
 Calls Tryz.prog 166 #[.string s] w fun e an=>e=.returned (.tuple #[.int .i64 n,.nilIface])/\Below w.heap.size w an:=(Any.strconv_Atoi Tryz.ajm s n aA h w).mono fun e an q=>⟨q.1,by obtain ⟨t,rfl⟩:=q.2;exact Lib.bytesWorld_below _ _ _⟩
theorem aly (s:ByteArray) (yU:s.size<=9223372036854775806) (u:Nat) (h:Lib.parseUintB 64 s.data.toList=.ok u) (w:World):
 Calls Tryz.prog 155 #[.string s,.int .i64 10,.int .i64 64] w fun e an=>e=.returned (.tuple #[.int .u64 u,.nilIface])/\Below w.heap.size w an:=(Any.strconv_ParseUint_10_at64_ok Tryz.TU s yU u h w).mono fun e an q=>⟨q.1,by
  rcases q.2 with rfl | rfl
  . exact Below.refl _ _
  . exact Lib.bytesWorld_below _ _ _⟩
theorem alA (s:ByteArray) (wz:s.size<=281474976710656) (h:Lib.parseUintB 64 s.data.toList=.range) (w:World) (he:xO w 7):
 Calls Tryz.prog 155 #[.string s,.int .i64 10,.int .i64 64] w fun e an=>(∃p,e=.returned (.tuple #[.int .u64 18446744073709551615,.iface (Tryz.Lp.t 39) p]))/\Below w.heap.size w an:=by
 obtain ⟨aT,aa,ad⟩:=he;refine (Any.strconv_ParseUint_10_at64_range Tryz.TU s wz h aT w aa ad).mono fun e an q=>?_;obtain ⟨N,aJ,_,_,dD⟩:=q;exact ⟨⟨_,aJ⟩,dD⟩
end
theorem Ci {f:FuncId} (aZ:Nat.beq f dy=false) {args:List V} {v:V} {h:ah} (jQ:∃fn,Tryz.prog.funcs[f]? =some fn/\fn.body.isSome=true) (H:∀E xs w,HW w->bk E args xs->Calls Tryz.prog f xs.toArray w fun e an=>∃x,e=.returned x/\Rel E v x/\Below w.heap.size w an):gu Tryz.prog f args h v h:=by refine ⟨fun e=>by subst e;simp at aZ,.inl ⟨jQ,fun ay E w xs ak s=>?_⟩⟩;refine (H E xs w (Lay.hE s.laid s.frame) ak).mono fun e an q=>?_;obtain ⟨x,rfl,bj,ae⟩:=q;exact ⟨E,x,rfl,fun _ _ q=>q,bj,s.below ae⟩
theorem acb (s:List UInt8) (h:ah):gu Tryz.prog 137 [.str s] h (.tuple [.int .i32 (Lib.decodeGo ⟨⟨s⟩⟩).1,.int .i64 (Lib.decodeGo ⟨⟨s⟩⟩).2]) h:=by refine Ci (by decide) ⟨_,Tryz.func137,by kernel_rfl⟩ fun E xs w aA ak=>?_;obtain ⟨y,cV,rfl,ar,rfl⟩:=ak;simp only [Rel] at ar;subst ar;refine (ace ⟨⟨s⟩⟩ w aA.Xq).mono fun e an q=>?_;obtain ⟨rfl,ae⟩:=q;refine ⟨_,rfl,?_,ae⟩;simp only [Rel];exact ⟨_,rfl,_,_,rfl,rfl,_,_,rfl,rfl,rfl⟩
theorem abU (s sub:List UInt8) (aS:s.length<=100000) (h:ah):gu Tryz.prog 159 [.str s,.str sub] h (.bool (Lib.contains s sub)) h:=by refine Ci (by decide) ⟨_,Tryz.func159,by kernel_rfl⟩ fun E xs w aA ak=>?_;obtain ⟨y,cV,rfl,ar,z,fv,rfl,aw,rfl⟩:=ak;simp only [Rel] at ar aw;subst ar aw;obtain ⟨m,hm⟩:=aA.maxLen;refine (QX ⟨⟨s⟩⟩ ⟨⟨sub⟩⟩ m w (by show s.length<4294967281;omega) hm).mono fun e an q=>?_;obtain ⟨rfl,rfl⟩:=q;refine ⟨_,rfl,?_,Below.refl _ _⟩;simp only [Rel]
theorem ZM (s:List UInt8) (n:Int) (aA:s.length<=18) (h:Lib.atoi s=some n) (af:ah):gu Tryz.prog 166 [.str s] af (.tuple [.int .i64 n,.nilIface]) af:=by refine Ci (by decide) ⟨_,Tryz.func166,by kernel_rfl⟩ fun E xs w q_ ak=>?_;obtain ⟨y,cV,rfl,ar,rfl⟩:=ak;simp only [Rel] at ar;subst ar;refine (ZN ⟨⟨s⟩⟩ n aA h w).mono fun e an q=>?_;obtain ⟨rfl,ae⟩:=q;refine ⟨_,rfl,?_,ae⟩;simp only [Rel];exact ⟨_,rfl,_,_,rfl,rfl,_,_,rfl,rfl,rfl⟩
theorem alx (s:List UInt8) (u:Nat) (aA:s.length<=100000) (h:Lib.parseUintB 64 s=.ok u) (af:ah):gu Tryz.prog 155 [.str s,.int .i64 10,.int .i64 64] af (.tuple [.int .u64 u,.nilIface]) af:=by refine Ci (by decide) ⟨_,Tryz.func155,by kernel_rfl⟩ fun E xs w q_ ak=>?_;obtain ⟨y,cV,rfl,ar,z,fv,rfl,aw,t,cN,rfl,aK,rfl⟩:=ak;simp only [Rel] at ar aw aK;subst ar aw aK;refine (aly ⟨⟨s⟩⟩ (by show s.length<=9223372036854775806;omega) u h w).mono fun e an q=>?_;obtain ⟨rfl,ae⟩:=q;refine ⟨_,rfl,?_,ae⟩;simp only [Rel];exact ⟨_,rfl,_,_,rfl,rfl,_,_,rfl,rfl,rfl⟩
def acL:TypeId:=Tryz.Lp.t 39
theorem alz (s:List UInt8) (aA:s.length<=100000) (h:Lib.parseUintB 64 s=.range) (af:ah):gu Tryz.prog 155 [.str s,.int .i64 10,.int .i64 64] af (.tuple [.int .u64 18446744073709551615,.iface acL .bad]) af:=by refine Ci (by decide) ⟨_,Tryz.func155,by kernel_rfl⟩ fun E xs w q_ ak=>?_;obtain ⟨y,cV,rfl,ar,z,fv,rfl,aw,t,cN,rfl,aK,rfl⟩:=ak;simp only [Rel] at ar aw aK;subst ar aw aK;refine (alA ⟨⟨s⟩⟩ (by show s.length<=281474976710656;omega) h w q_.RC).mono fun e an q=>?_;obtain ⟨⟨p,rfl⟩,ae⟩:=q;refine ⟨_,rfl,?_,ae⟩;simp only [Rel];exact ⟨_,rfl,_,_,rfl,rfl,_,_,rfl,⟨p,rfl,trivial⟩,rfl⟩
end
section
open Go a8
def m_ (s:List UInt8) (i:Nat):Nat:=if decodeL s i=(65533,1) then 0 else (decodeL s i).2
def s8:Nat->List UInt8->Nat->Nat
 | 0,s,_=>s.length
 | f+1,s,a=>if a<s.length then (if m_ s a=0 then a else s8 f s (a+m_ s a)) else s.length
def rK (s:List UInt8) (a:Nat):Nat:=s8 (s.length-a) s a
def uS (s:List UInt8):Nat:=rK s 0
theorem V8 (s:List UInt8):∀(f g a:Nat),s.length-a<=f->s.length-a<=g->s8 f s a=s8 g s a
 | 0,g,a,aa,ad=>by
   cases g with
   | zero=>rfl
   | succ g=>simp only [s8];rw [if_neg (by omega)]
 | f+1,0,a,aa,ad=>by simp only [s8];rw [if_neg (by omega)]
 | f+1,g+1,a,aa,ad=>by
   simp only [s8];by_cases a1:a<s.length
   . rw [if_pos a1,if_pos a1];by_cases aD:m_ s a=0
     . rw [if_pos aD,if_pos aD]
     . rw [if_neg aD,if_neg aD];exact V8 s f g _ (by omega) (by omega)
   . rw [if_neg a1,if_neg a1]
theorem V7 {s:List UInt8} {a:Nat} (h:s.length<=a):rK s a=s.length:=by unfold rK;rw [show s.length-a=0 from by omega];rfl
theorem amn {s:List UInt8} {a:Nat} (h:a<s.length) (aD:m_ s a=0):rK s a=a:=by unfold rK;rw [show s.length-a=s.length-a-1+1 from by omega,s8,if_pos h,if_pos aD]
theorem MJ {s:List UInt8} {a:Nat} (h:a<s.length) (aD:m_ s a≠0):rK s a=rK s (a+m_ s a):=by unfold rK;rw [show s.length-a=s.length-a-1+1 from by omega,s8,if_pos h,if_neg aD];exact V8 s _ _ _ (by omega) (by omega)
def fx (c:UInt8):Bool:=na c.toNat
def fB (c:UInt8):Bool:=uz c.toNat
def jx (l:List UInt8):Nat:=l.foldl (fun n c=>10 * n + (c.toNat-48)) 0
abbrev tz:=Except Int (Int × Int × List UInt8 × Nat)
def zB (r:List UInt8):tz:=
 let t:=r.takeWhile fx
 if 2147483647<jx t then .error 254 else .ok (1,(if 1073741823 < (jx t:Int) then (jx t:Int)-2147483648 else jx t),[],t.length)
def pU:List UInt8->Option (UInt8 × Nat)
 | []=>none
 | c::r=>if c=110 then some (10,1) else if c=116 then some (9,1) else if c=34 then some (34,1) else if c=92 then some (92,1) else
   if 2<=r.length/\fx c/\fx (r[0]?.getD 0)/\fx (r[1]?.getD 0)/\jx (c::r.take 2)<256 then some ((jx (c::r.take 2)).toUInt8,3) else none
def xx:Nat->List UInt8->Option (List UInt8 × Nat)
 | 0,_=>none
 | _+1,[]=>none
 | f+1,c::r=>if c=34 then some ([],1) else if c=92 then (match pU r with
    | none=>none
    | some (b,n)=>(xx f (r.drop n)).map fun q=>(b::q.1,q.2+n+1))
   else if c<32\/c=127 then none else (xx f r).map fun q=>(c::q.1,q.2+1)
def qC (r:List UInt8):Option (List UInt8 × Nat):=xx r.length r
def td (r:List UInt8):tz:=
 match qC r with
 | none=>.error 252
 | some (b,n)=>if 4096<b.length then .error 255 else .ok (2,0,b,n+1)
def ux:List (List UInt8):=[[97,110,100],[98,101,103,105,110],[101,108,115,101],[101,110,100],[101,120,99,101,112,116,105,111,110],[102,97,108,115,101],[102,117,110],[105,102],[105,110],[108,101,116],[109,97,116,99,104],[109,111,100],[111,102],[114,97,105,115,101],[114,101,99],[116,104,101,110],[116,114,117,101],[116,114,121],[116,121,112,101],[119,105,116,104]]
def j1:List (List UInt8):=[[59,59],[58,61],[45,62],[60,61],[59],[40],[41],[44],[61],[60],[43],[45],[42],[47],[124],[33],[95]]
def pj (t:List UInt8):Bool:=ux.contains t
def kv (kind:Int) (r:List UInt8):tz:=
 let t:=r.takeWhile fB
 if kind=3/\t=[95] then .ok (7,0,t,t.length) else if kind=3/\pj t then .ok (6,0,t,t.length) else if 64<t.length then .error 255 else .ok (kind,0,t,t.length)
def zY (r:List UInt8):tz:=
 match j1.find? (·.isPrefixOf r) with
 | some t=>.ok (7,0,t,t.length)
 | none=>.error 251
def mm:List UInt8->Bool
 | d::_=>hH d.toNat
 | []=>false
def hf:List UInt8->tz
 | []=>.error 0
 | c::r=>if fx c then zB (c::r) else if c=34 then td r else if hH c.toNat||c=95 then kv 3 (c::r) else if nf c.toNat then kv 4 (c::r) else
   if c=39/\mm r then (kv 5 r).map fun q=>(q.1,q.2.1,q.2.2.1,q.2.2.2+1) else zY (c::r)
structure cw where
 kind:Int
 num:Int
 pos:Nat
 text:List UInt8
deriving DecidableEq
def blank (c:UInt8):Bool:=c=9||c=10||c=13||c=32
def A6 (w:cw):Except (Int × Nat) (List cw)->Except (Int × Nat) (List cw)
 | .ok ws=>.ok (w::ws)
 | .error e=>.error e
def oB:Nat->List UInt8->Nat->Except (Int × Nat) (List cw)
 | 0,_,_=>.ok []
 | _+1,[],_=>.ok []
 | f+1,c::r,p=>if blank c then oB f r (p+1) else if ([40,42]:List UInt8).isPrefixOf (c::r) then (match iN (c::r) 0 with
    | none=>.error (253,p)
    | some n=>oB f ((c::r).drop n) (p+n))
   else match hf (c::r) with
    | .error e=>.error (e,p)
    | .ok q=>A6 ⟨q.1,q.2.1,p,q.2.2.1⟩ (oB f ((c::r).drop q.2.2.2) (p+q.2.2.2))
def rp (r:List UInt8) (p:Nat):Except (Int × Nat) (List cw):=oB r.length r p
def oC (s:List UInt8):Except (Int × Nat) (List cw):=
 if 65536<s.length then .error (3,0) else if uS s<s.length then .error (250,uS s) else rp s 0
theorem Nb {p:UInt8->Bool} {c:UInt8} {r:List UInt8} (h:p c=true):1<=((c::r).takeWhile p).length:=by simp only [List.takeWhile_cons,h,if_true,List.length_cons];omega
theorem amX {t:List UInt8} (h:t ∈ j1):1<=t.length:=by revert t;decide
theorem MS {c:UInt8} (h:hH c.toNat=true):fB c=true:=by unfold fB uz;rw [h];simp
theorem R7 {c:UInt8} (h:nf c.toNat=true):fB c=true:=by unfold fB uz;rw [h];simp
theorem Xi {c:UInt8} (h:c=95):fB c=true:=by subst h;decide
theorem UC {k:Int} {r:List UInt8} {q:Int × Int × List UInt8 × Nat} (h:kv k r=.ok q):q.2.2.2=(r.takeWhile fB).length:=by
 unfold kv at h;simp only at h
 split at h
 . cases h;rfl
 . split at h
   . cases h;rfl
   . split at h
     . cases h
     . cases h;rfl
theorem LP {r:List UInt8} {q:Int × Int × List UInt8 × Nat} (h:hf r=.ok q):1<=q.2.2.2:=by
 match r,h with
 | c::r,h=>
   simp only [hf] at h
   split at h
   . rename_i bb;unfold zB at h;simp only at h
     split at h
     . cases h
     . cases h;exact Nb bb
   . split at h
     . unfold td at h
       split at h
       . cases h
       . split at h
         . cases h
         . cases h;simp only;omega
     . split at h
       . rename_i aS;rw [UC h];simp only [Bool.or_eq_true,decide_eq_true_eq] at aS;exact Nb (aS.elim MS Xi)
       . split at h
         . rename_i aS;rw [UC h];exact Nb (R7 aS)
         . split at h
           . cases aV:kv 5 r with
             | error e=>rw [aV] at h;cases h
             | ok dV=>rw [aV] at h;cases h;simp only;omega
           . unfold zY at h
             split at h
             . rename_i t av;cases h;exact amX (List.mem_of_find?_eq_some av)
             . cases h
theorem Gs:∀{r:List UInt8} {d:Int} {n:Nat},iN r d=some n->2<=n
 | [],d,n,h=>by simp [iN] at h
 | [_],d,n,h=>by simp [iN] at h
 | x::y::r,d,n,h=>by
   rw [iN] at h
   split at h
   . cases aC:iN r (d+1) with
     | none=>rw [aC] at h;cases h
     | some m=>rw [aC] at h;cases h;simp only;omega
   . split at h
     . split at h
       . cases h;omega
       . cases aC:iN r (d-1) with
         | none=>rw [aC] at h;cases h
         | some m=>rw [aC] at h;cases h;simp only;omega
     . cases aC:iN (y::r) d with
       | none=>rw [aC] at h;cases h
       | some m=>rw [aC] at h;cases h;have:=Gs aC;simp only;omega
theorem Cq:∀(f g:Nat) (r:List UInt8) (p:Nat),r.length<=f->r.length<=g->oB f r p=oB g r p
 | 0,g,r,p,aa,ad=>by have:r=[]:=List.length_eq_zero_iff.1 (by omega);subst this;cases g<;>rfl
 | f+1,0,r,p,aa,ad=>by have:r=[]:=List.length_eq_zero_iff.1 (by omega);subst this;rfl
 | f+1,g+1,[],p,aa,ad=>rfl
 | f+1,g+1,c::r,p,aa,ad=>by
   simp only [List.length_cons] at aa ad;simp only [oB]
   split
   . exact Cq f g _ _ (by omega) (by omega)
   . split
     . split
       . rfl
       . rename_i n aV;have:=Gs aV;exact Cq f g _ _ (by rw [List.length_drop,List.length_cons];omega) (by rw [List.length_drop,List.length_cons];omega)
     . split
       . rfl
       . rename_i q aC;have:=LP aC;rw [Cq f g _ _ (by rw [List.length_drop,List.length_cons];omega) (by rw [List.length_drop,List.length_cons];omega)]
theorem T_ (c:UInt8) (r:List UInt8) (p:Nat):rp (c::r) p=if blank c then rp r (p+1) else if ([40,42]:List UInt8).isPrefixOf (c::r) then (match iN (c::r) 0 with
 | none=>.error (253,p)
 | some n=>rp ((c::r).drop n) (p+n))
 else match hf (c::r) with
  | .error e=>.error (e,p)
  | .ok q=>A6 ⟨q.1,q.2.1,p,q.2.2.1⟩ (rp ((c::r).drop q.2.2.2) (p+q.2.2.2)):=by
 unfold rp;simp only [List.length_cons,oB]
 split
 . rfl
 . split
   . split
     . rfl
     . rename_i n aV;have:=Gs aV;exact Cq _ _ _ _ (by rw [List.length_drop,List.length_cons];omega) (Nat.le_refl _)
   . split
     . rfl
     . rename_i q aC;have:=LP aC;rw [Cq _ _ _ _ (by rw [List.length_drop,List.length_cons];omega) (Nat.le_refl _)]
theorem Nh:∀(f g:Nat) (r:List UInt8),r.length<=f->r.length<=g->xx f r=xx g r
 | 0,g,r,aa,ad=>by have:r=[]:=List.length_eq_zero_iff.1 (by omega);subst this;cases g<;>rfl
 | f+1,0,r,aa,ad=>by have:r=[]:=List.length_eq_zero_iff.1 (by omega);subst this;rfl
 | f+1,g+1,[],aa,ad=>rfl
 | f+1,g+1,c::r,aa,ad=>by
   simp only [List.length_cons] at aa ad;simp only [xx]
   split
   . rfl
   . split
     . split
       . rfl
       . rw [Nh f g _ (by rw [List.length_drop];omega) (by rw [List.length_drop];omega)]
     . split
       . rfl
       . rw [Nh f g _ (by omega) (by omega)]
theorem anK:qC []=none:=rfl
theorem anJ (c:UInt8) (r:List UInt8):qC (c::r)=if c=34 then some ([],1) else if c=92 then (match pU r with
 | none=>none
 | some (b,n)=>(qC (r.drop n)).map fun q=>(b::q.1,q.2+n+1))
 else if c<32\/c=127 then none else (qC r).map fun q=>(c::q.1,q.2+1):=by
 unfold qC;simp only [List.length_cons,xx]
 split
 . rfl
 . split
   . split
     . rfl
     . rw [Nh _ _ _ (by rw [List.length_drop];omega) (Nat.le_refl _)]
   . rfl
theorem RV:∀(l:List UInt8) (a:Nat),a<=l.foldl (fun n c=>10 * n + (c.toNat-48)) a
 | [],a=>Nat.le_refl _
 | c::l,a=>by simp only [List.foldl_cons];exact Nat.le_trans (by omega) (RV l _)
def tV (a:Nat) (l:List UInt8):Nat:=l.foldl (fun n c=>10 * n + (c.toNat-48)) a
theorem adg (a:Nat) (c:UInt8) (l:List UInt8):tV a (c::l)=tV (10 * a + (c.toNat-48)) l:=by unfold tV;rw [List.foldl_cons]
theorem alw (M:Nat) (dz:M<18446744073709551620) (l:List UInt8):∀(a:Nat),(∀c ∈ l,fx c=true)->(tV a l<=M->Lib.parseUintM M a l=.ok (tV a l))/\(a<=M->¬tV a l<=M->Lib.parseUintM M a l=.range):=by
 induction l with
 | nil=>
   intro a _;refine ⟨fun _=>?_,fun aa ad=>absurd aa ad⟩;simp only [Lib.parseUintM,tV,List.foldl_nil]
 | cons c l agv=>
   intro a h;have aD:=h c (List.mem_cons_self ..);simp only [fx,na,Bool.and_eq_true,decide_eq_true_eq] at aD;have aem:48<=c.toNat/\c.toNat<=57:=by omega
   have bq:=agv (10 * a + (c.toNat-48)) (fun x ak=>h x (List.mem_cons_of_mem _ ak));have hm:10 * a + (c.toNat-48)<=tV (10 * a + (c.toNat-48)) l:=RV l (10 * a + (c.toNat-48));simp only [Lib.parseUintM,aem,and_self,if_true];rw [Nat.mul_comm a 10,adg];have ng:10 * a<=10 * a + (c.toNat-48):=Nat.le_add_right _ _;generalize 10 * a + (c.toNat-48)=A at bq hm ng ⊢;refine ⟨fun aO=>?_,fun a1 jl=>?_⟩
   . rw [if_neg (by omega),if_neg (by omega)];exact bq.1 aO
   . by_cases aa:1844674407370955162<=a
     . rw [if_pos aa]
     . rw [if_neg aa];by_cases ad:M<A
       . rw [if_pos ad]
       . rw [if_neg ad];exact bq.2 (by omega) jl
theorem alv (l:List UInt8) (h:∀c ∈ l,fx c=true) (aA:l≠[]):(jx l<=18446744073709551615->Lib.parseUintB 64 l=.ok (jx l))/\(¬jx l<=18446744073709551615->Lib.parseUintB 64 l=.range):=by unfold Lib.parseUintB;rw [if_neg aA,show (2 ^ 64-1:Nat)=18446744073709551615 from by decide];have:=alw 18446744073709551615 (by omega) l 0 h;exact ⟨this.1,this.2 (Nat.zero_le _)⟩
structure oW (s:List UInt8) (p:Nat) (b:aQ) (h:ah) (res:tz) (x:V) (ab:ah):Prop where
 mod:Mod (fun q=>q=b) h ab
 res:∃k n t,x=.agg [.int .i64 k,.int .i64 n,.int .i64 0,.str t]/\match res with
  | .ok q=>k=q.1/\n=q.2.1/\t=q.2.2.1/\ab.get b=ft s ((p+q.2.2.2:Nat):Int) 0/\p+q.2.2.2<=s.length
  | .error e=>e≠0/\∃bw:Int,ab.get b=ft s bw e
theorem LN {P:Program}:(eC.jL true 5).run P .nilIface .nilIface=some (.bool false):=rfl
theorem akr {P:Program} (T:TypeId) (x:V):(eC.jL true 5).run P (.iface T x) .nilIface=some (.bool true):=rfl
theorem W5 {p:UInt8->Bool} {l:List UInt8}:∀c ∈ l.takeWhile p,p c=true:=fun c aD=>by
 induction l with
 | nil=>simp at aD
 | cons x l bq=>
   simp only [List.takeWhile_cons] at aD
   split at aD
   . rename_i ak;rcases List.mem_cons.1 aD with rfl | aD
     . exact ak
     . exact bq aD
   . simp at aD
theorem W6 (p:UInt8->Bool) (s:List UInt8) (a:Nat):((s.drop a).takeWhile p).length<=s.length-a:=by have:=W7 p (s.drop a);rwa [List.length_drop] at this
theorem akM (s:List UInt8) (a0:Nat) (b:aQ) (h:ah) (ae:h.get b=ft s a0 0) (aW:a0<s.length) (aS:s.length<=100000) (ha:Old h b) (bb:fx s[a0]=true):
 de Tryz.prog 141 [.ptr b 0] h (oW s a0 b h (zB (s.drop a0))):=by
 refine aaw.z rfl (dM ?_);unfold PR;have cc:(b=aj h.next)=False:=CB ha (Nat.le_refl _);have c':(aj h.next=b)=False:=by rw [<-cc];exact propext eq_comm
 simp +contextual only [ae,cc,c',↓al,aG,simprocAttr];have ak:Ext h (h.new (.bE [.int .i64 0,.int .i64 0,.int .i64 0,.str []] 0 false)):=(Ext.refl h).new _;refine cK (We s a0 0 b 140 na _ (by rw [ak.get _ ha,ae]) (by omega) aS (by decide) (fun c h=>yi c h)) ?_;rintro x aa ⟨rfl,hm,aB⟩;have hz:(fun c:UInt8=>na (c.toNat:Int))=fx:=rfl;rw [hz] at aB ⊢;have p6:Mod (fun q=>q=b) h aa:=(ak.mod _).trans hm;have g1:aa.get (aj h.next)=.bE [.int .i64 0,.int .i64 0,.int .i64 0,.str []] 0 false:=by rw [hm.get _ (fW (by rw [gk];omega)) (by rw [c'];exact id)];simp only [↓al,aG,simprocAttr]
 have ck:(s.drop a0).takeWhile fx≠[]:=by rw [drop_cons aW,List.takeWhile_cons,bb];simp
 have hlen:=W6 fx s a0;have af:=alv ((s.drop a0).takeWhile fx) W5 ck;unfold ft at aB;have BJ:zB (s.drop a0)=if 2147483647<jx ((s.drop a0).takeWhile fx) then .error 254 else .ok (1,(if 1073741823 < (jx ((s.drop a0).takeWhile fx):Int) then (jx ((s.drop a0).takeWhile fx):Int)-2147483648 else jx ((s.drop a0).takeWhile fx)),[],((s.drop a0).takeWhile fx).length):=rfl;rw [BJ];generalize (s.drop a0).takeWhile fx=t at *;simp +contextual only [↓al,aG,simprocAttr];by_cases Br:jx t<=18446744073709551615
 . refine gL (alx t (jx t) (by omega) (af.1 Br) aa) ?_;generalize jx t=u at *;by_cases JJ:(2147483647:Int) < (u:Int)
   . have yB:2147483647<u:=by omega
     simp +contextual only [LN,JJ,g1,aB,cc,c',↓al,aG,simprocAttr];refine ⟨(p6.set (fun _=>rfl) _).set (fun q=>absurd (show cB (aj h.next)<h.next from q) (by rw [b9];omega)) _,?_⟩;rw [if_pos yB];refine ⟨_,_,_,rfl,by decide,((a0+t.length:Nat):Int),?_⟩;simp only [ft,cc,c',↓al,aG,simprocAttr]
   . have yB:¬2147483647<u:=by omega
     have b3:IntKind.i64.wrap (u:Int)=(u:Int):=wrap_i64 (by omega) (by omega);have b2:IntKind.i64.wrap ((u:Int)-2147483648)=(u:Int)-2147483648:=wrap_i64 (by omega) (by omega);by_cases Sa:(1073741823:Int) < (u:Int)
     . simp +contextual only [LN,JJ,yB,Sa,g1,aB,cc,c',b3,b2,↓al,aG,simprocAttr];refine ⟨(p6.set (fun q=>absurd (show cB (aj h.next)<h.next from q) (by rw [b9];omega)) _),?_⟩;refine ⟨_,_,_,rfl,rfl,rfl,rfl,?_,by show a0+t.length<=s.length;omega⟩;simp only [ft,aB,cc,c',↓al,aG,simprocAttr]
     . simp +contextual only [LN,JJ,yB,Sa,g1,aB,cc,c',b3,b2,↓al,aG,simprocAttr];refine ⟨(p6.set (fun q=>absurd (show cB (aj h.next)<h.next from q) (by rw [b9];omega)) _),?_⟩;refine ⟨_,_,_,rfl,rfl,rfl,rfl,?_,by show a0+t.length<=s.length;omega⟩;simp only [ft,aB,cc,c',↓al,aG,simprocAttr]
 . refine gL (alz t (by omega) (af.2 Br) aa) ?_;have yB:2147483647<jx t:=by omega
   rw [if_pos yB];simp +contextual only [akr,g1,aB,cc,c',↓al,aG,simprocAttr];refine ⟨(p6.set (fun _=>rfl) _).set (fun q=>absurd (show cB (aj h.next)<h.next from q) (by rw [b9];omega)) _,?_⟩;refine ⟨_,_,_,rfl,by decide,((a0+t.length:Nat):Int),?_⟩;simp only [ft,cc,c',↓al,aG,simprocAttr]
theorem Xf (c:UInt8):((c.toNat:Int)).toNat.toUInt8=c:=by rw [Int.toNat_natCast];simp
theorem xA (c:UInt8) (n:Nat) (aV:n<256):((c.toNat:Int)=(n:Int))=(c=n.toUInt8):=by
 apply propext;constructor
 . intro q;have:c.toNat=n:=by omega
   rw [<-UInt8.toNat_inj,this];simp;omega
 . intro q;subst q;simp;omega
theorem acO (c:UInt8):Lib.indexByte [110,116,34,92] c=if c=110 then 0 else if c=116 then 1 else if c=34 then 2 else if c=92 then 3 else -1:=by
 simp only [Lib.indexByte,beq_iff_eq];by_cases aa:c=110
 . subst aa;decide
 . by_cases ad:c=116
   . subst ad;decide
   . by_cases aJ:c=34
     . subst aJ;decide
     . by_cases bG:c=92
       . subst bG;decide
       . have aP:¬(110:UInt8)=c:=fun q=>aa q.symm;have bf:¬(116:UInt8)=c:=fun q=>ad q.symm;have c4:¬(34:UInt8)=c:=fun q=>aJ q.symm;have gj:¬(92:UInt8)=c:=fun q=>bG q.symm;simp only [aa,ad,aJ,bG,aP,bf,c4,gj,if_false];rfl
theorem I' {c:UInt8} (h:fx c=true):Lib.digitVal c=some (c.toNat-48):=by unfold Lib.digitVal;unfold fx na at h;simp only [Bool.and_eq_true,decide_eq_true_eq] at h;rw [if_pos (by omega)]
theorem ZL {a b c:UInt8} (aa:fx a=true) (ad:fx b=true) (aJ:fx c=true):Lib.atoi [a,b,c]=some ((jx [a,b,c]:Nat):Int):=by
 have a1:=aa;unfold fx na at a1;simp only [Bool.and_eq_true,decide_eq_true_eq] at a1;have cT:(a == 45)=false:=by rw [beq_eq_false_iff_ne];rintro rfl;revert a1;decide
 have gP:(a == 43)=false:=by rw [beq_eq_false_iff_ne];rintro rfl;revert a1;decide
 simp [Lib.atoi,cT,gP,Lib.decNat,Lib.decFrom,I' aa,I' ad,I' aJ,jx];omega
theorem acP (s:List UInt8) (a0:Nat) (b:aQ) (h:ah) (ae:h.get b=ft s a0 0) (aW:a0<s.length) (aS:s.length<=100000) (ha:Old h b):
 de Tryz.prog 157 [.ptr b 0] h fun x ab=>Mod (fun q=>q=b) h ab/\match pU (s.drop (a0+1)) with
  | some (c,n)=>x=.int .u8 (c.toNat:Int)/\ab.get b=ft s ((a0+1+n:Nat):Int) 0/\a0+1+n<=s.length
  | none=>x=.int .u8 0/\ab.get b=ft s ((a0+1:Nat):Int) 252:=by
 refine aaF.z rfl (dM ?_);unfold P3;unfold ft at ae ⊢;have b3:IntKind.i64.wrap ((a0:Int)+1)=((a0+1:Nat):Int):=by rw [wrap_i64 (by omega) (by omega)];rfl
 have f0:(0<=((a0+1:Nat):Int))=True:=eq_true (by omega);have f1:(((a0+1:Nat):Int)<=(s.length:Int))=True:=eq_true (by omega);have wy:(s.drop (a0+1)).length=s.length - (a0+1):=List.length_drop;have z0:((0:Int)<=0)=True:=eq_true (by omega);have pr:∀v,a8.Mod (fun q=>q=b) h ((h.set b v)):=fun v=>(Mod.refl (fun q=>q=b) h).set (fun _=>rfl) _;cases cL:s.drop (a0+1) with
 | nil=>
   simp +contextual only [ae,b3,f0,f1,Int.toNat_natCast,cL,List.length_nil,Int.natCast_zero,↓al,aG,simprocAttr];refine ⟨(pr _).set (fun _=>rfl) _,?_⟩;simp only [pU,dC,if_true,true_and]
 | cons c r=>
   rw [cL] at wy;rw [List.length_cons] at wy;have c_:(c::r=[])=False:=eq_false (by simp);have f2:((0:Int) < ((r.length+1:Nat):Int))=True:=eq_true (by omega);simp +contextual only [ae,b3,f0,f1,f2,c_,Int.toNat_natCast,cL,Int.reduceToNat,z0,↓al,aG,simprocAttr];refine gL (Tv _ _ _) ?_;rw [Xf,acO];have b2:IntKind.i64.wrap (((a0+1:Nat):Int)+1)=((a0+2:Nat):Int):=by rw [wrap_i64 (by omega) (by omega)];omega
   by_cases bP:c=110
   . subst bP;simp +contextual only [ae,b3,b2,f0,f1,f2,c_,Int.toNat_natCast,cL,Int.reduceToNat,z0,List.length_cons,List.length_nil,Nat.reduceAdd,Int.reduceLT,Int.cast_ofNat_Int,↓al,aG,simprocAttr];refine ⟨(pr _).set (fun _=>rfl) _,rfl,?_⟩;simp only [dC,if_true];refine ⟨trivial,by omega⟩
   by_cases bX:c=116
   . subst bX;simp +contextual only [ae,b3,b2,f0,f1,f2,c_,Int.toNat_natCast,cL,Int.reduceToNat,z0,List.length_cons,List.length_nil,Nat.reduceAdd,Int.reduceLT,Int.cast_ofNat_Int,bP,↓al,aG,simprocAttr];refine ⟨(pr _).set (fun _=>rfl) _,rfl,?_⟩;simp only [dC,if_true];refine ⟨trivial,by omega⟩
   by_cases c3:c=34
   . subst c3;simp +contextual only [ae,b3,b2,f0,f1,f2,c_,Int.toNat_natCast,cL,Int.reduceToNat,z0,List.length_cons,List.length_nil,Nat.reduceAdd,Int.reduceLT,Int.cast_ofNat_Int,bP,bX,↓al,aG,simprocAttr];refine ⟨(pr _).set (fun _=>rfl) _,rfl,?_⟩;simp only [dC,if_true];refine ⟨trivial,by omega⟩
   by_cases eF:c=92
   . subst eF;simp +contextual only [ae,b3,b2,f0,f1,f2,c_,Int.toNat_natCast,cL,Int.reduceToNat,z0,List.length_cons,List.length_nil,Nat.reduceAdd,Int.reduceLT,Int.cast_ofNat_Int,bP,bX,c3,↓al,aG,simprocAttr];refine ⟨(pr _).set (fun _=>rfl) _,rfl,?_⟩;simp only [dC,if_true];refine ⟨trivial,by omega⟩
   match r,cL,wy,f2,c_ with
   | [],cL,wy,f2,c_=>
     simp +contextual only [ae,b3,b2,f0,f1,f2,c_,Int.toNat_natCast,cL,Int.reduceToNat,z0,List.length_cons,List.length_nil,Nat.reduceAdd,Int.reduceLT,Int.cast_ofNat_Int,bP,bX,c3,eF,↓al,aG,simprocAttr];refine ⟨(pr _).set (fun _=>rfl) _,?_⟩;simp [pU,bP,bX,c3,eF,dC]
   | [_],cL,wy,f2,c_=>
     simp +contextual only [ae,b3,b2,f0,f1,f2,c_,Int.toNat_natCast,cL,Int.reduceToNat,z0,List.length_cons,List.length_nil,Nat.reduceAdd,Int.reduceLT,Int.cast_ofNat_Int,bP,bX,c3,eF,↓al,aG,simprocAttr];refine ⟨(pr _).set (fun _=>rfl) _,?_⟩;simp [pU,bP,bX,c3,eF,dC]
   | d1::d2::bD,cL,wy,f2,c_=>
     simp only [List.length_cons] at wy;have g3:((3:Int)<=((bD.length+3:Nat):Int))=True:=eq_true (by omega);have g2:((2:Int) < ((bD.length+3:Nat):Int))=True:=eq_true (by omega);have g1:((1:Int) < ((bD.length+3:Nat):Int))=True:=eq_true (by omega);have g0:((0:Int) < ((bD.length+3:Nat):Int))=True:=eq_true (by omega);have em:pU (c::d1::d2::bD)=if fx c/\fx d1/\fx d2/\jx [c,d1,d2]<256 then some ((jx [c,d1,d2]).toUInt8,3) else none:=by simp [pU,bP,bX,c3,eF]
     rw [em];simp +contextual only [ae,b3,b2,f0,f1,g0,g1,g2,g3,c_,Int.toNat_natCast,cL,Int.reduceToNat,z0,List.length_cons,List.length_nil,Nat.reduceAdd,Int.reduceLT,Int.cast_ofNat_Int,bP,bX,c3,eF,↓al,aG,simprocAttr];refine gL (yi _ _) ?_;have dg:∀x:UInt8,na (x.toNat:Int)=fx x:=fun _=>rfl;simp only [dg];cases aex:fx c with
     | false=>
       simp +contextual only [ae,b3,b2,f0,f1,g0,g1,g2,g3,c_,Int.toNat_natCast,cL,Int.reduceToNat,z0,List.length_cons,List.length_nil,Nat.reduceAdd,Int.reduceLT,Int.cast_ofNat_Int,bP,bX,c3,eF,false_and,Bool.false_eq_true,↓al,aG,simprocAttr];exact (pr _).set (fun _=>rfl) _
     | true=>
       simp +contextual only [ae,b3,b2,f0,f1,g0,g1,g2,g3,c_,Int.toNat_natCast,cL,Int.reduceToNat,z0,List.length_cons,List.length_nil,Nat.reduceAdd,Int.reduceLT,Int.cast_ofNat_Int,bP,bX,c3,eF,↓al,aG,simprocAttr];refine gL (yi _ _) ?_;simp only [dg];cases Fe:fx d1 with
       | false=>
         simp +contextual only [ae,b3,b2,f0,f1,g0,g1,g2,g3,c_,Int.toNat_natCast,cL,Int.reduceToNat,z0,List.length_cons,List.length_nil,Nat.reduceAdd,Int.reduceLT,Int.cast_ofNat_Int,bP,bX,c3,eF,false_and,and_false,Bool.false_eq_true,↓al,aG,simprocAttr];exact (pr _).set (fun _=>rfl) _
       | true=>
         simp +contextual only [ae,b3,b2,f0,f1,g0,g1,g2,g3,c_,Int.toNat_natCast,cL,Int.reduceToNat,z0,List.length_cons,List.length_nil,Nat.reduceAdd,Int.reduceLT,Int.cast_ofNat_Int,bP,bX,c3,eF,↓al,aG,simprocAttr];refine gL (yi _ _) ?_;simp only [dg];cases Ff:fx d2 with
         | false=>
           simp +contextual only [ae,b3,b2,f0,f1,g0,g1,g2,g3,c_,Int.toNat_natCast,cL,Int.reduceToNat,z0,List.length_cons,List.length_nil,Nat.reduceAdd,Int.reduceLT,Int.cast_ofNat_Int,bP,bX,c3,eF,false_and,and_false,Bool.false_eq_true,↓al,aG,simprocAttr];exact (pr _).set (fun _=>rfl) _
         | true=>
           have z3:((0:Int)<=3)=True:=eq_true (by omega);simp +contextual only [ae,b3,b2,f0,f1,g0,g1,g2,g3,z3,c_,Int.toNat_natCast,cL,Int.reduceToNat,z0,List.length_cons,List.length_nil,Nat.reduceAdd,Int.reduceLT,Int.cast_ofNat_Int,bP,bX,c3,eF,↓al,aG,simprocAttr];refine gL (ZM [c,d1,d2] _ (by simp) (ZL aex Fe Ff) _) ?_;have iS:IntKind.i64.wrap (((a0+1:Nat):Int)+3)=((a0+4:Nat):Int):=by rw [wrap_i64 (by omega) (by omega)];omega
           generalize bj:jx [c,d1,d2]=v;by_cases FK:(v:Int)<256
           . have jy:IntKind.u8.wrap (v:Int)=((v.toUInt8).toNat:Int):=by
              simp [IntKind.wrap,IntKind.bits,IntKind.signed]
             have BY:v<256:=by omega
             simp +contextual only [ae,b3,b2,iS,jy,f0,f1,g0,g1,g2,g3,c_,FK,BY,Int.toNat_natCast,cL,Int.reduceToNat,z0,List.length_cons,List.length_nil,Nat.reduceAdd,Int.reduceLT,Int.cast_ofNat_Int,bP,bX,c3,eF,and_self,true_and,↓al,aG,simprocAttr];refine ⟨(pr _).set (fun _=>rfl) _,?_⟩
             first | omega | (refine ⟨?_,by omega⟩;simp [dC]) | skip
           . have BY:¬v<256:=by omega
             simp +contextual only [ae,b3,b2,iS,f0,f1,g0,g1,g2,g3,c_,FK,BY,Int.toNat_natCast,cL,Int.reduceToNat,z0,List.length_cons,List.length_nil,Nat.reduceAdd,Int.reduceLT,Int.cast_ofNat_Int,bP,bX,c3,eF,and_false,↓al,aG,simprocAttr];exact (pr _).set (fun _=>rfl) _
theorem an6 (c:UInt8) (n:Nat) (aV:n<256):((c.toNat:Int) < (n:Int))=(c<n.toUInt8):=by
 apply propext;rw [UInt8.lt_iff_toNat_lt];have:(n.toUInt8).toNat=n:=by simp;omega
 rw [this];omega
theorem anL (s:List UInt8) (a0:Nat) (b:aQ) (h:ah) (ae:h.get b=ft s a0 0) (aW:a0<s.length) (aS:s.length<=100000) (ha:Old h b):
 de Tryz.prog 142 [.ptr b 0] h (oW s a0 b h (td (s.drop (a0+1)))):=by
 refine aax.z rfl (dM ?_);unfold PS;have cc:(b=aj h.next)=False:=CB ha (Nat.le_refl _);have c':(aj h.next=b)=False:=by rw [<-cc];exact propext eq_comm
 have b3:IntKind.i64.wrap ((a0:Int)+1)=((a0+1:Nat):Int):=by rw [wrap_i64 (by omega) (by omega)];rfl
 unfold ft at ae;simp +contextual only [ae,cc,c',b3,↓al,aG,simprocAttr];have zz:∀{v:V} {ab:ah} {n:Nat} {us:List V},cJ (h.next+1) ab 1 v n us->∀q,v.aN q->¬(fun q=>q=b) q:=by
  intro v ab n us dn q aC he;have aa:=dn.base aC;rw [show q=b from he] at aa;have ad:cB b<h.next:=ha
  omega
 have Z4:∀{v:V} {ab:ah} {n:Nat} {us:List V},cJ (h.next+1) ab 1 v n us->∀i,i<h.next+1->¬v.aN (aj i):=by intro v ab n us dn i ao aC;have aa:=dn.base aC;rw [b9] at aa;omega
 refine fa (fun r ab=>r 0=.ptr b 0/\r 2=.ptr (aj h.next) 0/\∃(a:Nat) (e:Int) (fc:List UInt8) (v:V),r 3=v/\ab.get b=.bE [.str s,.int .i64 a,.int .i64 e] 0 false/\a<=s.length/\a0+1<=a/\fc.length<=a/\
  ab.get (aj h.next)=.bE [.int .i64 0,.int .i64 0,.int .i64 0,.str []] 0 false/\Mod (fun q=>q=b) h ab/\h.next+1<=ab.next/\cJ (h.next+1) ab 1 v fc.length (iD fc)/\
  ((e=0/\qC (s.drop (a0+1))=(qC (s.drop a)).map fun q=>(fc++q.1,q.2 + (a - (a0+1))))\/(e=252/\qC (s.drop (a0+1))=none)))
  (fun r ab=>(s.length - ((ia (ab.get b) 1).getD .bad).toN) + (252 - ((ia (ab.get b) 2).getD .bad).toN)) ?_ ?_
 . refine ⟨by simp only [cc,c',↓al,aG,simprocAttr],by simp only [cc,c',↓al,aG,simprocAttr],a0+1,0,[],.bB,by simp only [cc,c',↓al,aG,simprocAttr],by simp only [cc,c',↓al,aG,simprocAttr],by omega,by omega,by simp,by simp only [cc,c',↓al,aG,simprocAttr],?_,?_,⟨rfl,rfl⟩,.inl ⟨rfl,?_⟩⟩
   . exact (((Ext.refl h).new _).mod (fun q=>q=b)).self _
   . rw [l5,gk];exact Nat.le_refl _
   . rw [Nat.sub_self];cases qC (s.drop (a0+1))<;>rfl
 . rintro r ab ⟨bt,cF,a,e,fc,v,cr,aB,bz,iu,lk,bn,hm,mu,dn,bK⟩;unfold PT;have SS:Old ab b:=hm.bF ha;have fin:∀(ad:ah) (bw:Int),qC (s.drop (a0+1))=none->Mod (fun q=>q=b) h ad->ad.get b=.bE [.str s,.int .i64 bw,.int .i64 252] 0 false->
    oW s a0 b h (td (s.drop (a0+1))) (.agg [.int .i64 0,.int .i64 0,.int .i64 0,.str []]) (ad.set (aj h.next) (.bE [.int .i64 0,.int .i64 0,.int .i64 0,.str []] 0 false)):=by
    intro ad bw aV o_ wk;unfold td;rw [aV];refine ⟨o_.set (fun q=>absurd (show cB (aj h.next)<h.next from q) (by rw [b9];omega)) _,_,_,_,rfl,by decide,bw,?_⟩;rw [dC,if_neg (by rw [c'];exact id),wk];rfl
   have step:∀(ad:ah),Mod (fun q=>q=b) h ad->ab.next<=ad.next->cJ (h.next+1) ad 1 v fc.length (iD fc)->∀(c:UInt8),∃v3 aJ,ij 1 v (.slice (aj ad.next) 0 1 1) (ad.new (.bE [.int .u8 (c.toNat:Int)] 0 false))=.val v3 aJ/\cJ (h.next+1) aJ 1 v3 (fc++[c]).length (iD (fc++[c]))/\Mod (fun q=>q=b) h aJ/\h.next+1<=aJ.next/\aJ.get b=ad.get b/\aJ.get (aj h.next)=ad.get (aj h.next):=by
    intro ad o_ apU lg c;obtain ⟨v3,aJ,ar,aw,aK,bY,ek⟩:=qO (cs:=[.int .u8 (c.toNat:Int)]) (by omega) lg (by omega) (by unfold top;omega) rfl rfl;refine ⟨v3,aJ,ar,by rw [List.length_append,Ps];exact aw,o_.z_ aK (fun q aC=>Nat.le_trans (Nat.le_succ _) (lg.base aC)),by omega,?_,?_⟩
    . exact aK.get _ (o_.bF ha) (fun aC=>zz lg _ aC rfl)
    . exact aK.get _ (fW (by omega)) (Z4 lg _ (by omega))
   rcases bK with ⟨rfl,bK⟩ | ⟨rfl,bK⟩
   . by_cases gB:(s.length:Int)<=(a:Int)
     . have a1:a=s.length:=by omega
       rw [a1,List.drop_length,anK] at bK;simp +contextual only [bt,cF,cr,aB,gB,bn,cc,c',↓al,aG,simprocAttr];exact fin _ _ bK (hm.set (fun _=>rfl) _) (by rw [dC,if_pos rfl])
     . have aO:a<s.length:=by omega
       rw [drop_cons aO,anJ] at bK;have f0:(0<=(a:Int))=True:=eq_true (by omega);have f1:((a:Int) < (s.length:Int))=True:=eq_true (by omega);have b2:IntKind.i64.wrap ((a:Int)+1)=((a+1:Nat):Int):=by rw [wrap_i64 (by omega) (by omega)];rfl
       have k':(((s[a]).toNat:Int)=34)=(s[a]=34):=xA _ 34 (by omega);have Jj:(((s[a]).toNat:Int)=92)=(s[a]=92):=xA _ 92 (by omega);have Rm:(((s[a]).toNat:Int)=127)=(s[a]=127):=xA _ 127 (by omega);have TR:(((s[a]).toNat:Int)<32)=(s[a]<32):=an6 _ 32 (by omega);by_cases bP:s[a]=34
       . rw [if_pos bP] at bK;replace bP:(s[a]=34)=True:=eq_true bP;simp only [Option.map_some,List.append_nil] at bK;by_cases Br:(4096:Int) < (fc.length:Int)
         . have lg:∀k bx,cJ (h.next+1) ((ab.set b k).set b bx) 1 v fc.length (iD fc):=fun k bx=>dn.mod (((Mod.refl (fun q=>q=b) ab).set (fun _=>rfl) _).set (fun _=>rfl) _) (zz dn);simp +contextual only [bt,cF,cr,aB,gB,bn,cc,c',f0,f1,b2,k',bP,dn.v.len,Br,QY (lg _ _),List.getElem?_eq_getElem aO,Int.toNat_natCast,↓al,aG,simprocAttr];refine ⟨((hm.set (fun _=>rfl) _).set (fun _=>rfl) _).set (fun q=>absurd (show cB (aj h.next)<h.next from q) (by rw [b9];omega)) _,_,_,_,rfl,?_⟩;unfold td;rw [bK];simp only;rw [if_pos (by omega)];refine ⟨by decide,((a+1:Nat):Int),?_⟩;simp only [ft,cc,c',↓al,aG,simprocAttr]
         . have lg:∀k,cJ (h.next+1) (ab.set b k) 1 v fc.length (iD fc):=fun k=>dn.mod ((Mod.refl (fun q=>q=b) ab).set (fun _=>rfl) _) (zz dn);simp +contextual only [bt,cF,cr,aB,gB,bn,cc,c',f0,f1,b2,k',bP,dn.v.len,Br,QY (lg _),List.getElem?_eq_getElem aO,Int.toNat_natCast,↓al,aG,simprocAttr];refine ⟨(hm.set (fun _=>rfl) _).set (fun q=>absurd (show cB (aj h.next)<h.next from q) (by rw [b9];omega)) _,_,_,_,rfl,?_⟩;unfold td;rw [bK];simp only;rw [if_neg (by omega)];refine ⟨rfl,rfl,rfl,?_,?_⟩
           . simp only [ft,cc,c',↓al,aG,simprocAttr];rw [show a0 + (1 + (a - (a0+1))+1)=a+1 from by omega]
           . simp only;omega
       rw [if_neg bP] at bK;by_cases bX:s[a]=92
       . rw [if_pos bX] at bK;replace bX:(s[a]=92)=True:=eq_true bX;simp +contextual only [bt,cF,cr,aB,gB,bn,cc,c',f0,f1,b2,k',Jj,bP,bX,List.getElem?_eq_getElem aO,Int.toNat_natCast,↓al,aG,simprocAttr];refine cK (acP s a b ab aB aO aS SS) ?_;rintro x ad ⟨o_,ak⟩;have lg:=dn.mod o_ (zz dn);have qb:ad.get (aj h.next)=.bE [.int .i64 0,.int .i64 0,.int .i64 0,.str []] 0 false:=by
          rw [o_.get _ (fW (by omega)) (by rw [c'];exact id),bn]
         have rC:=o_.next
         obtain ⟨c,aD,FF⟩:∃c:UInt8,x=.int .u8 (c.toNat:Int)/\((∃n,pU (s.drop (a+1))=some (c,n)/\ad.get b=ft s ((a+1+n:Nat):Int) 0/\a+1+n<=s.length)\/(pU (s.drop (a+1))=none/\ad.get b=ft s ((a+1:Nat):Int) 252)):=by
          cases yN:pU (s.drop (a+1)) with
          | none=>rw [yN] at ak;exact ⟨0,ak.1,.inr ⟨rfl,ak.2⟩⟩
          | some q=>rw [yN] at ak;exact ⟨q.1,ak.1,.inl ⟨q.2,rfl,ak.2⟩⟩
         subst aD;obtain ⟨v3,aJ,ar,aw,aK,bY,ek,fk⟩:=step ad (hm.trans o_) rC lg c;have GO:cJ (h.next+1) aJ 1 v3 (fc.length+1) (iD (fc++[c])):=by rw [List.length_append] at aw;exact aw
         have B6:aJ.get (aj h.next)=.bE [.int .i64 0,.int .i64 0,.int .i64 0,.str []] 0 false:=by rw [fk,qb]
         unfold ft at FF;rcases FF with ⟨n,yN,wk,hle⟩ | ⟨yN,wk⟩
         . simp +contextual only [ar,bt,cF,aB,wk,ek,cc,c',↓al,aG,simprocAttr];rw [yN] at bK;simp only at bK;refine ⟨⟨a+1+n,0,fc++[c],rfl,hle,by omega,by simp;omega,B6,aK,bY,aw,.inl ⟨rfl,?_⟩⟩,by omega⟩;rw [bK,List.drop_drop,Option.map_map];congr 1;funext q;simp only [Function.comp,List.append_assoc,List.singleton_append,Prod.mk.injEq,true_and];omega
         . simp +contextual only [ar,bt,cF,aB,wk,ek,cc,c',↓al,aG,simprocAttr];rw [yN] at bK;exact ⟨⟨a+1,252,fc++[c],rfl,by omega,by omega,by simp;omega,B6,aK,bY,aw,.inr ⟨rfl,bK⟩⟩,by omega⟩
       rw [if_neg bX] at bK;by_cases c3:s[a]<32\/s[a]=127
       . rw [if_pos c3] at bK;have jh:(decide (s[a]<32)||decide (s[a]=127))=true:=by simpa using c3
         simp +contextual only [bt,cF,cr,aB,gB,bn,cc,c',f0,f1,b2,k',Jj,Rm,TR,bP,bX,jh,List.getElem?_eq_getElem aO,Int.toNat_natCast,↓al,aG,simprocAttr];exact ⟨⟨a,252,fc,rfl,bz,iu,lk,hm.self _,mu,dn.mod ((Mod.refl (fun q=>q=b) ab).self _) (zz dn),.inr ⟨rfl,bK⟩⟩,by omega⟩
       . rw [if_neg c3] at bK;have jh:(decide (s[a]<32)||decide (s[a]=127))=false:=by simpa using c3
         obtain ⟨v3,aJ,ar,aw,aK,bY,ek,fk⟩:=step (ab.set b (.bE [.str s,.int .i64 ((a+1:Nat):Int),.int .i64 0] 0 false)) (hm.self _) (by rw [l5];exact Nat.le_refl _) (dn.mod ((Mod.refl (fun q=>q=b) ab).self _) (zz dn)) s[a];simp only [l5,dC,cc,c',if_true,if_false] at ar ek fk;simp +contextual only [ar,bt,cF,cr,aB,gB,bn,cc,c',f0,f1,b2,k',Jj,Rm,TR,bP,bX,jh,ek,List.getElem?_eq_getElem aO,Int.toNat_natCast,↓al,aG,simprocAttr];refine ⟨⟨a+1,0,fc++[s[a]],rfl,by omega,by omega,by simp;omega,by rw [fk,bn],aK,bY,aw,.inl ⟨rfl,?_⟩⟩,by omega⟩;rw [bK,Option.map_map];congr 1;funext q;simp only [Function.comp,List.append_assoc,List.singleton_append,Prod.mk.injEq,true_and];omega
   . simp +contextual only [bt,cF,cr,aB,bn,cc,c',↓al,aG,simprocAttr];exact fin _ _ bK hm aB
def Lk:List UInt8:=[32,97,110,100,32,98,101,103,105,110,32,101,108,115,101,32,101,110,100,32,101,120,99,101,112,116,105,111,110,32,102,97,108,115,101,32,102,117,110,32,105,102,32,105,110,32,108,101,116,32,109,97,116,99,104,32,109,111,100,32,111,102,32,114,97,105,115,101,32,114,101,99,32,116,104,101,110,32,116,114,117,101,32,116,114,121,32,116,121,112,101,32,119,105,116,104,32]
def tU:List (List UInt8)->List UInt8
 | []=>[32]
 | w::L=>32::(w++tU L)
theorem ac_:tU ux=Lk:=by decide
theorem ac' (L:List (List UInt8)):∃r,tU L=32::r:=by cases L<;>exact ⟨_,rfl⟩
theorem index_ge (sub:List UInt8):∀l:List UInt8,-1<=Lib.index l sub
 | []=>by simp only [Lib.index];split<;>decide
 | b::l=>by
   have:=index_ge sub l;simp only [Lib.index]
   split
   . decide
   . split<;>omega
theorem Tx (sub:List UInt8) (b:UInt8) (l:List UInt8):(0<=Lib.index (b::l) sub)↔(sub.isPrefixOf (b::l)=true\/0<=Lib.index l sub):=by
 have:=index_ge sub l;simp only [Lib.index]
 split
 . rename_i h;simp [h]
 . rename_i h
   split
   . rename_i ad;have:Lib.index l sub=-1:=by simpa using ad
     simp [h,this]
   . rename_i ad;have aJ:¬Lib.index l sub=-1:=by simpa using ad
     simp only [h,Bool.false_eq_true,false_or];omega
theorem Tz (x:List UInt8) (r:List UInt8):∀w:List UInt8,(32:UInt8) ∉ w->((0<=Lib.index (w++r) (32::x))↔0<=Lib.index r (32::x))
 | [],_=>Iff.rfl
 | b::w,h=>by
   rw [List.cons_append,Tx,Tz x r w (fun q=>h (List.mem_cons_of_mem _ q))];have ae:((32:UInt8) == b)=false:=by rw [beq_eq_false_iff_ne];rintro rfl;exact h (List.mem_cons_self ..)
   simp [List.isPrefixOf,ae]
theorem Vv (r:List UInt8):∀(t w:List UInt8),(32:UInt8) ∉ t->(32:UInt8) ∉ w->((t++[32]).isPrefixOf (w++32::r)=true↔t=w)
 | [],[],_,_=>by simp [List.isPrefixOf]
 | [],b::w,_,h=>by
   have ae:((32:UInt8) == b)=false:=by rw [beq_eq_false_iff_ne];rintro rfl;exact h (List.mem_cons_self ..)
   simp [List.isPrefixOf,ae]
 | a::t,[],h,_=>by
   have ae:(a == (32:UInt8))=false:=by rw [beq_eq_false_iff_ne];rintro rfl;exact h (List.mem_cons_self ..)
   simp [List.isPrefixOf,ae]
 | a::t,b::w,h,ab=>by have bq:=Vv r t w (fun q=>h (List.mem_cons_of_mem _ q)) (fun q=>ab (List.mem_cons_of_mem _ q));simp only [List.cons_append,List.isPrefixOf,Bool.and_eq_true,beq_iff_eq,bq,List.cons.injEq]
theorem Ty (t:List UInt8) (av:(32:UInt8) ∉ t):∀L:List (List UInt8),(∀w ∈ L,(32:UInt8) ∉ w)->((0<=Lib.index (tU L) (32::(t++[32])))↔t ∈ L)
 | [],_=>by cases t<;>simp [tU,Lib.index,List.isPrefixOf]
 | w::L,h=>by
   have bq:=Ty t av L (fun x ak=>h x (List.mem_cons_of_mem _ ak));have hw:=h w (List.mem_cons_self ..);obtain ⟨r,aE⟩:=ac' L;simp only [tU];rw [Tx,Tz _ _ _ hw,bq,List.mem_cons];have:(32::(t++[32])).isPrefixOf (32::(w++tU L))=(t++[32]).isPrefixOf (w++tU L):=by simp [List.isPrefixOf]
   rw [this,aE,Vv r t w av hw]
theorem abV (t:List UInt8) (av:(32:UInt8) ∉ t):Lib.contains Lk (32::(t++[32]))=pj t:=by have:=Ty t av ux (by decide);rw [ac_] at this;unfold Lib.contains pj;rw [Bool.eq_iff_iff,decide_eq_true_eq,this];simp
theorem aj9 {l:List UInt8}:(32:UInt8) ∉ l.takeWhile fB:=fun h=>by have:=W5 _ h;revert this;decide
theorem Gi (s:List UInt8) (a0:Nat) (k:Int) (b:aQ) (h:ah) (ae:h.get b=ft s a0 0) (aW:a0<=s.length) (aS:s.length<=100000) (ha:Old h b):
 de Tryz.prog 144 [.ptr b 0,.int .i64 k] h (oW s a0 b h (kv k (s.drop a0))):=by
 refine aaz.z rfl (dM ?_);unfold PV;have cc:(b=aj h.next)=False:=CB ha (Nat.le_refl _);have c':(aj h.next=b)=False:=by rw [<-cc];exact propext eq_comm
 simp +contextual only [ae,cc,c',↓al,aG,simprocAttr];have ak:Ext h (h.new (.bE [.int .i64 0,.int .i64 0,.int .i64 0,.str []] 0 false)):=(Ext.refl h).new _;refine cK (We s a0 0 b 158 uz _ (by rw [ak.get _ ha,ae]) aW aS (by decide) (fun c h=>ajK c h)) ?_;rintro x aa ⟨rfl,hm,aB⟩;have hz:(fun c:UInt8=>uz (c.toNat:Int))=fB:=rfl;rw [hz] at aB ⊢;have p6:Mod (fun q=>q=b) h aa:=(ak.mod _).trans hm;have g1:aa.get (aj h.next)=.bE [.int .i64 0,.int .i64 0,.int .i64 0,.str []] 0 false:=by rw [hm.get _ (fW (by rw [gk];omega)) (by rw [c'];exact id)];simp only [↓al,aG,simprocAttr]
 have hlen:=W6 fB s a0;have adW:(32:UInt8) ∉ (s.drop a0).takeWhile fB:=aj9;unfold ft at aB;have BJ:kv k (s.drop a0)=if k=3/\(s.drop a0).takeWhile fB=[95] then .ok (7,0,(s.drop a0).takeWhile fB,((s.drop a0).takeWhile fB).length) else if k=3/\pj ((s.drop a0).takeWhile fB) then .ok (6,0,(s.drop a0).takeWhile fB,((s.drop a0).takeWhile fB).length) else if 64 < ((s.drop a0).takeWhile fB).length then .error 255 else .ok (k,0,(s.drop a0).takeWhile fB,((s.drop a0).takeWhile fB).length):=rfl;rw [BJ];generalize (s.drop a0).takeWhile fB=t at *;have Gx:∀(dj:Int),oW s a0 b h (.ok (dj,0,t,t.length)) (.agg [.int .i64 dj,.int .i64 0,.int .i64 0,.str t]) (aa.set (aj h.next) (.bE [.int .i64 dj,.int .i64 0,.int .i64 0,.str t] 0 false)):=by intro dj;refine ⟨p6.fresh (Nat.le_refl _) _,_,_,_,rfl,rfl,rfl,rfl,?_,by show a0+t.length<=s.length;omega⟩;rw [dC,if_neg (by rw [c'];exact id),aB];rfl
 have tail:(64<t.length->oW s a0 b h (.error 255) (.agg [.int .i64 k,.int .i64 0,.int .i64 0,.str t]) ((aa.set b (.bE [.str s,.int .i64 ((a0+t.length:Nat):Int),.int .i64 255] 0 false)).set (aj h.next) (.bE [.int .i64 k,.int .i64 0,.int .i64 0,.str t] 0 false))):=by intro aA;refine ⟨(p6.self _).fresh (Nat.le_refl _) _,_,_,_,rfl,by decide,((a0+t.length:Nat):Int),?_⟩;simp only [ft,cc,c',↓al,aG,simprocAttr]
 by_cases aH:k=3
 . subst aH;by_cases hu:t=[95]
   . simp +contextual only [g1,aB,cc,c',hu,true_and,↓al,aG,simprocAttr];subst hu;exact Gx 7
   . have t1:(1+t.length<=top)=True:=eq_true (by unfold top;omega);have t2:(t.length+1+1<=top)=True:=eq_true (by unfold top;omega);simp only [top] at t1 t2;simp +contextual only [g1,aB,cc,c',hu,true_and,List.length_append,t1,t2,↓al,aG,simprocAttr];refine gL (abU Lk (32::(t++[32])) (by decide) _) ?_;rw [abV t adW];cases Ko:pj t with
     | true=>
       simp +contextual only [g1,aB,cc,c',hu,true_and,and_false,Ko,List.length_append,t1,t2,↓al,aG,simprocAttr];exact Gx 6
     | false=>
       by_cases aA:64<t.length
       . have fq:(64:Int) < (t.length:Int):=by omega
         simp +contextual only [g1,aB,cc,c',hu,aA,fq,true_and,and_false,Ko,List.length_append,t1,t2,Bool.false_eq_true,↓al,aG,simprocAttr];exact tail aA
       . have fq:¬(64:Int) < (t.length:Int):=by omega
         simp +contextual only [g1,aB,cc,c',hu,aA,fq,true_and,and_false,Ko,List.length_append,t1,t2,Bool.false_eq_true,↓al,aG,simprocAttr];exact Gx 3
 . by_cases aA:64<t.length
   . have fq:(64:Int) < (t.length:Int):=by omega
     simp +contextual only [g1,aB,cc,c',aH,aA,fq,false_and,↓al,aG,simprocAttr];exact tail aA
   . have fq:¬(64:Int) < (t.length:Int):=by omega
     simp +contextual only [g1,aB,cc,c',aH,aA,fq,false_and,↓al,aG,simprocAttr];exact Gx k
def zZ:List V:=j1.map V.str
theorem amY (h:ah):de Tryz.prog 146 [] h fun x ab=>x=.slice (aj h.next) 0 17 17/\ab=h.new (.bE zZ 0 false):=by refine aaB.z rfl (dM ?_);unfold PX;simp +contextual only [↓al,aG,simprocAttr];rfl
theorem amW {i:Nat} (ao:i<17):zZ[i]? =some (.str (j1[i]'ao)):=by unfold zZ;rw [List.getElem?_map,List.getElem?_eq_getElem (show i<j1.length from ao)];rfl
theorem ac8 (p:List UInt8->Bool) {i:Nat} (ao:i<17):(j1.drop i).find? p=if p (j1[i]'ao) then some (j1[i]'ao) else (j1.drop (i+1)).find? p:=by rw [List.drop_eq_getElem_cons (show i<j1.length from ao),List.find?_cons];cases p j1[i]<;>rfl
theorem oW.store {s:List UInt8} {p:Nat} {b:aQ} {h:ah} {z bx:cd} {res:tz} {x:V} {aa:ah} (w:oW s p b (h.new z) res x aa) (ha:Old h b):oW s p b h res x (aa.set (aj h.next) bx):=by
 have c':¬(aj h.next=b):=by
  intro q;have:cB b<h.next:=ha
  rw [<-q,b9] at this;omega
 obtain ⟨hm,k,n,t,ak,aE⟩:=w;refine ⟨((((Ext.refl h).new z).mod _).trans hm).fresh (Nat.le_refl _) _,k,n,t,ak,?_⟩;cases res with
 | ok q=>simpa only [dC,if_neg c'] using aE
 | error e=>simpa only [dC,if_neg c'] using aE
theorem aky (s:List UInt8) (a0:Nat) (b:aQ) (h:ah) (ae:h.get b=ft s a0 0) (aW:a0<s.length) (aS:s.length<=100000) (ha:Old h b):
 de Tryz.prog 127 [.ptr b 0] h (oW s a0 b h (hf (s.drop a0))):=by
 refine aaq.z rfl (dM ?_);unfold PK;have cc:(b=aj h.next)=False:=CB ha (Nat.le_refl _);have c':(aj h.next=b)=False:=by rw [<-cc];exact propext eq_comm
 have iX:=ae;unfold ft at ae;have f0:(0<=(a0:Int))=True:=eq_true (by omega);have f1:((a0:Int) < (s.length:Int))=True:=eq_true (by omega);have ak:Ext h (h.new (.bE [.int .i64 0,.int .i64 0,.int .i64 0,.str []] 0 false)):=(Ext.refl h).new _;have yY:Old (h.new (.bE [.int .i64 0,.int .i64 0,.int .i64 0,.str []] 0 false)) b:=ak.bF ha;have Bt:(h.new (.bE [.int .i64 0,.int .i64 0,.int .i64 0,.str []] 0 false)).get b=ft s a0 0:=by rw [ak.get _ ha,iX]
 have yA:∀{res:tz} {x:V} {aa:ah},oW s a0 b (h.new (.bE [.int .i64 0,.int .i64 0,.int .i64 0,.str []] 0 false)) res x aa->aa.get (aj h.next)=.bE [.int .i64 0,.int .i64 0,.int .i64 0,.str []] 0 false:=by intro res x aa w;rw [w.mod.get _ (fW (by rw [gk];omega)) (by rw [c'];exact id)];simp only [↓al,aG,simprocAttr]
 have bb:=drop_cons aW;rw [bb];have dg:na ((s[a0]).toNat:Int)=fx s[a0]:=rfl;have k':(((s[a0]).toNat:Int)=34)=(s[a0]=34):=xA _ 34 (by omega);have tQ:(((s[a0]).toNat:Int)=95)=(s[a0]=95):=xA _ 95 (by omega);have yk:(((s[a0]).toNat:Int)=39)=(s[a0]=39):=xA _ 39 (by omega);simp +contextual only [ae,cc,c',f0,f1,List.getElem?_eq_getElem aW,Int.toNat_natCast,↓al,aG,simprocAttr];refine gL (yi _ _) ?_;rw [dg];cases aa:fx s[a0] with
 | true=>
   have dS:hf (s[a0]::s.drop (a0+1))=zB (s.drop a0):=by rw [bb];simp only [hf,aa,if_true]
   rw [dS];simp +contextual only [ae,cc,c',f0,f1,List.getElem?_eq_getElem aW,Int.toNat_natCast,↓al,aG,simprocAttr];refine cK (akM s a0 b _ Bt aW aS yY aa) ?_;rintro x af w;have g1:=yA w;obtain ⟨k,n,t,rfl,_⟩:=w.res;simp +contextual only [g1,ae,cc,c',f0,f1,↓al,aG,simprocAttr];exact w.store ha
 | false=>
   by_cases ad:s[a0]=34
   . have dS:hf (s[a0]::s.drop (a0+1))=td (s.drop (a0+1)):=by simp only [hf];rw [if_neg (by rw [aa];exact Bool.false_ne_true),if_pos ad]
     rw [dS];replace ad:=eq_true ad;simp +contextual only [ae,cc,c',f0,f1,k',ad,List.getElem?_eq_getElem aW,Int.toNat_natCast,↓al,aG,simprocAttr];refine cK (anL s a0 b _ Bt aW aS yY) ?_;rintro x af w;have g1:=yA w;obtain ⟨k,n,t,rfl,_⟩:=w.res;simp +contextual only [g1,ae,cc,c',f0,f1,↓al,aG,simprocAttr];exact w.store ha
   simp +contextual only [ae,cc,c',f0,f1,k',ad,List.getElem?_eq_getElem aW,Int.toNat_natCast,↓al,aG,simprocAttr];refine gL (G4 _ _) ?_;by_cases aJ:(hH ((s[a0]).toNat:Int)||decide (s[a0]=95))=true
   . have dS:hf (s[a0]::s.drop (a0+1))=kv 3 (s.drop a0):=by rw [bb];simp only [hf,aa,ad,aJ,Bool.false_eq_true,if_false,if_true]
     rw [dS];have fin:pQ Tryz.prog 144 [.ptr b 0,.int .i64 3] (some 33) none [] [] (fun _=>.bad) h (fun _ _ _=>True)->True:=fun _=>trivial;cases y5:hH ((s[a0]).toNat:Int) with
     | true=>
       simp +contextual only [ae,cc,c',f0,f1,k',ad,y5,List.getElem?_eq_getElem aW,Int.toNat_natCast,↓al,aG,simprocAttr];refine cK (Gi s a0 3 b _ Bt (by omega) aS yY) ?_;rintro x af w;have g1:=yA w;obtain ⟨k,n,t,rfl,_⟩:=w.res;simp +contextual only [g1,ae,cc,c',f0,f1,↓al,aG,simprocAttr];exact w.store ha
     | false=>
       rw [y5,Bool.false_or,decide_eq_true_eq] at aJ;replace aJ:=eq_true aJ;simp +contextual only [ae,cc,c',f0,f1,k',tQ,ad,aJ,y5,List.getElem?_eq_getElem aW,Int.toNat_natCast,↓al,aG,simprocAttr];refine cK (Gi s a0 3 b _ Bt (by omega) aS yY) ?_;rintro x af w;have g1:=yA w;obtain ⟨k,n,t,rfl,_⟩:=w.res;simp +contextual only [g1,ae,cc,c',f0,f1,↓al,aG,simprocAttr];exact w.store ha
   . have R_:=aJ;rw [Bool.not_eq_true,Bool.or_eq_false_iff,decide_eq_false_iff_not] at R_;obtain ⟨adY,adZ⟩:=R_;simp +contextual only [ae,cc,c',f0,f1,k',tQ,ad,adY,adZ,List.getElem?_eq_getElem aW,Int.toNat_natCast,↓al,aG,simprocAttr];refine gL (R8 _ _) ?_;cases bG:nf ((s[a0]).toNat:Int) with
     | true=>
       have dS:hf (s[a0]::s.drop (a0+1))=kv 4 (s.drop a0):=by rw [bb];simp only [hf,aa,ad,aJ,bG,Bool.false_eq_true,if_false,if_true]
       rw [dS];simp +contextual only [ae,cc,c',f0,f1,List.getElem?_eq_getElem aW,Int.toNat_natCast,↓al,aG,simprocAttr];refine cK (Gi s a0 4 b _ Bt (by omega) aS yY) ?_;rintro x af w;have g1:=yA w;obtain ⟨k,n,t,rfl,_⟩:=w.res;simp +contextual only [g1,ae,cc,c',f0,f1,↓al,aG,simprocAttr];exact w.store ha
     | false=>
       have b3:IntKind.i64.wrap ((a0:Int)+1)=((a0+1:Nat):Int):=by rw [wrap_i64 (by omega) (by omega)];rfl
       have f2:(0<=((a0+1:Nat):Int))=True:=eq_true (by omega);by_cases di:s[a0]=39/\mm (s.drop (a0+1))
       . have dS:hf (s[a0]::s.drop (a0+1))=(kv 5 (s.drop (a0+1))).map fun q=>(q.1,q.2.1,q.2.2.1,q.2.2.2+1):=by simp only [hf];rw [if_neg (by rw [aa];exact Bool.false_ne_true),if_neg ad,if_neg aJ,if_neg (by rw [bG];exact Bool.false_ne_true),if_pos di]
         rw [dS];obtain ⟨E0,E1⟩:=di;replace E0:=eq_true E0;have aO:a0+1<s.length:=by
          by_cases q:a0+1<s.length
          . exact q
          . rw [List.drop_eq_nil_of_le (by omega)] at E1;cases E1
         rw [drop_cons aO] at E1;have f3:(((a0+1:Nat):Int) < (s.length:Int))=True:=eq_true (by omega);simp +contextual (maxSteps:=1000000) only [ae,cc,c',f0,f1,f2,f3,b3,k',tQ,yk,ad,E0,List.getElem?_eq_getElem aW,List.getElem?_eq_getElem aO,Int.toNat_natCast,↓al,aG,simprocAttr];refine gL (G4 _ _) ?_;rw [show hH ((s[a0+1]).toNat:Int)=true from E1];simp +contextual (maxSteps:=1000000) only [ae,cc,c',f0,f1,f2,f3,b3,k',tQ,yk,ad,E0,List.getElem?_eq_getElem aW,List.getElem?_eq_getElem aO,Int.toNat_natCast,↓al,aG,simprocAttr];have SP:Mod (fun q=>q=b) (h.new (.bE [.int .i64 0,.int .i64 0,.int .i64 0,.str []] 0 false)) ((h.new (.bE [.int .i64 0,.int .i64 0,.int .i64 0,.str []] 0 false)).set b (.bE [.str s,.int .i64 ((a0+1:Nat):Int),.int .i64 0] 0 false)):=(Mod.refl _ _).self _;refine cK (Gi s (a0+1) 5 b _ (by rw [dC,if_pos rfl];rfl) (by omega) aS (SP.bF yY)) ?_;rintro x af w;have an:oW s a0 b (h.new (.bE [.int .i64 0,.int .i64 0,.int .i64 0,.str []] 0 false)) ((kv 5 (s.drop (a0+1))).map fun q=>(q.1,q.2.1,q.2.2.1,q.2.2.2+1)) x af:=by
          obtain ⟨aos,k,n,t,xJ,wr⟩:=w;refine ⟨SP.trans aos,k,n,t,xJ,?_⟩;cases aV:kv 5 (s.drop (a0+1)) with
          | error e=>rw [aV] at wr;exact wr
          | ok q=>
            rw [aV] at wr;obtain ⟨br,cF,cr,gm,c1⟩:=wr;refine ⟨br,cF,cr,?_,?_⟩
            . rw [gm];show ft s ((a0+1+q.2.2.2:Nat):Int) 0=ft s ((a0 + (q.2.2.2+1):Nat):Int) 0;rw [show a0+1+q.2.2.2=a0 + (q.2.2.2+1) from by omega]
            . show a0 + (q.2.2.2+1)<=s.length;omega
         have g1:=yA an;obtain ⟨k,n,t,rfl,_⟩:=an.res;simp +contextual only [g1,ae,cc,c',f0,f1,↓al,aG,simprocAttr];exact an.store ha
       . have dS:hf (s[a0]::s.drop (a0+1))=zY (s.drop a0):=by rw [bb];simp only [hf];rw [if_neg (by rw [aa];exact Bool.false_ne_true),if_neg ad,if_neg aJ,if_neg (by rw [bG];exact Bool.false_ne_true),if_neg di]
         rw [dS];have Bu:((s[a0]=39)=False)\/(((s[a0]=39)=True)/\¬a0+1<s.length)\/(((s[a0]=39)=True)/\∃aO:a0+1<s.length,hH ((s[a0+1]).toNat:Int)=false):=by
          by_cases q:s[a0]=39
          . by_cases aO:a0+1<s.length
            . refine .inr (.inr ⟨eq_true q,aO,?_⟩);cases aC:hH ((s[a0+1]).toNat:Int) with
              | false=>rfl
              | true=>exact absurd ⟨q,by rw [drop_cons aO];exact aC⟩ di
            . exact .inr (.inl ⟨eq_true q,aO⟩)
          . exact .inl (eq_false q)
         have two:∀t ∈ j1,t.length<=2:=by decide
         have tJ:((17:Nat):Int)=17:=rfl;rcases Bu with ar | ⟨ar,aw⟩ | ⟨ar,aO,aw⟩
         case' neg.inl=>
          simp +contextual (maxSteps:=1000000) only [ae,cc,c',f0,f1,f2,b3,k',tQ,yk,ad,ar,List.getElem?_eq_getElem aW,Int.toNat_natCast,↓al,aG,simprocAttr]
         case' neg.inr.inl=>
          have f3:(((a0+1:Nat):Int) < (s.length:Int))=False:=eq_false (by omega);simp +contextual (maxSteps:=1000000) only [ae,cc,c',f0,f1,f2,f3,b3,k',tQ,yk,ad,ar,List.getElem?_eq_getElem aW,Int.toNat_natCast,↓al,aG,simprocAttr]
         case' neg.inr.inr=>
          have f3:(((a0+1:Nat):Int) < (s.length:Int))=True:=eq_true (by omega);simp +contextual (maxSteps:=1000000) only [ae,cc,c',f0,f1,f2,f3,b3,k',tQ,yk,ad,ar,List.getElem?_eq_getElem aW,List.getElem?_eq_getElem aO,Int.toNat_natCast,↓al,aG,simprocAttr];refine gL (G4 _ _) ?_;rw [aw];simp +contextual (maxSteps:=1000000) only [ae,cc,c',f0,f1,f2,f3,b3,k',tQ,yk,ad,ar,List.getElem?_eq_getElem aW,List.getElem?_eq_getElem aO,Int.toNat_natCast,↓al,aG,simprocAttr]
         all_goals
          refine cK (amY _) ?_;rintro x af ⟨rfl,rfl⟩;simp +contextual only [↓al,aG,simprocAttr];refine fa (fun r ab=>r 0=.ptr b 0/\r 2=.ptr (aj h.next) 0/\r 77=.slice (aj (h.next+1)) 0 17 17/\r 78=.int .i64 17/\∃i:Nat,i<=17/\r 79=.int .i64 i/\ab=(h.new (.bE [.int .i64 0,.int .i64 0,.int .i64 0,.str []] 0 false)).new (.bE zZ 0 false)/\
           j1.find? (·.isPrefixOf (s.drop a0))=(j1.drop i).find? (·.isPrefixOf (s.drop a0))) (fun r ab=>17 - (r 79).toN) ?_ ?_
          . exact ⟨by simp only [↓al,aG,simprocAttr],by simp only [↓al,aG,simprocAttr],by simp only [↓al,aG,simprocAttr],by simp only [tJ,↓al,aG,simprocAttr],0,by omega,by simp only [↓al,aG,simprocAttr]<;>rfl,rfl,rfl⟩
          . rintro r ab ⟨bt,cF,GP,pB,i,ao,pC,rfl,uc⟩;unfold PL;have SS:Old ((h.new (.bE [.int .i64 0,.int .i64 0,.int .i64 0,.str []] 0 false)).new (.bE zZ 0 false)) b:=(ak.new _).bF ha;have lN:((h.new (.bE [.int .i64 0,.int .i64 0,.int .i64 0,.str []] 0 false)).new (.bE zZ 0 false)).get b=.bE [.str s,.int .i64 a0,.int .i64 0] 0 false:=by rw [(ak.new _).get _ ha,ae]
            have Cz:(b=aj (h.next+1))=False:=CB ha (by omega);have Eg:(aj (h.next+1)=b)=False:=by rw [<-Cz];exact propext eq_comm
            by_cases j9:i<17
            . have g0:((i:Int)<17)=True:=eq_true (by omega);have g1:(0<=(i:Int))=True:=eq_true (by omega);rw [ac8 _ j9] at uc;have hlen:=two _ (List.getElem_mem (h:=(show i<j1.length from j9)));simp +contextual only [tJ,bt,cF,GP,pB,pC,g0,g1,cc,c',Cz,Eg,Int.toNat_natCast,Nat.mul_one,amW j9,↓al,aG,simprocAttr];refine gL (JU s _ (a0:Int) [.int .i64 0] b 0 false _ lN (by omega) (by omega)) ?_;rw [Int.toNat_natCast];cases pb:(j1[i]'j9).isPrefixOf (s.drop a0) with
              | true=>
                rw [pb,if_pos rfl] at uc;have ir:(j1[i]'j9).length<=s.length-a0:=by rw [List.isPrefixOf_iff_prefix] at pb;have:=pb.length_le;rwa [List.length_drop] at this
                have iS:IntKind.i64.wrap ((a0:Int) + ((j1[i]'j9).length:Int))=((a0 + (j1[i]'j9).length:Nat):Int):=by rw [wrap_i64 (by omega) (by omega)];rfl
                simp +contextual only [tJ,bt,cF,GP,pB,pC,g0,g1,iS,cc,c',Cz,Eg,ae,↓al,aG,simprocAttr];unfold zY;rw [uc];refine ⟨(((ak.new _).mod _).self _).fresh (Nat.le_refl _) _,_,_,_,rfl,rfl,rfl,rfl,?_,by show a0 + (j1[i]'j9).length<=s.length;omega⟩;simp only [ft,cc,c',↓al,aG,simprocAttr]
              | false=>
                rw [pb,if_neg Bool.false_ne_true] at uc;have iS:IntKind.i64.wrap ((i:Int)+1)=((i+1:Nat):Int):=by rw [wrap_i64 (by omega) (by omega)];rfl
                simp +contextual only [tJ,bt,cF,GP,pB,pC,g0,g1,iS,cc,c',Cz,Eg,ae,↓al,aG,simprocAttr];exact ⟨⟨i+1,by omega,rfl,uc⟩,by omega⟩
            . obtain rfl:i=17:=by omega
              have dE:j1.find? (·.isPrefixOf (s.drop a0))=none:=by rw [uc];rfl
              have g0:((17:Int)<17)=False:=eq_false (by omega);simp +contextual only [tJ,bt,cF,GP,pB,pC,g0,lN,cc,c',Cz,Eg,ae,↓al,aG,simprocAttr];unfold zY;rw [dE];refine ⟨(((ak.new _).mod _).self _).fresh (Nat.le_refl _) _,_,_,_,rfl,by decide,(a0:Int),?_⟩;simp only [ft,cc,c',↓al,aG,simprocAttr]
theorem R2 (s:List UInt8) (i:Nat):(ByteArray.mk ⟨s⟩).get! i=(s[i]?).getD 0:=by show (Array.mk s)[i]! =_;simp;rfl
theorem acd (s:List UInt8) (a:Nat):Lib.decodeGo ⟨⟨s.drop a⟩⟩=if a<s.length then decodeL s a else (65533,0):=by
 unfold Lib.decodeGo decodeL;have bn:(ByteArray.mk ⟨s.drop a⟩).size=s.length-a:=by show (s.drop a).length=_;rw [List.length_drop]
 have qb:(ByteArray.mk ⟨s⟩).size=s.length:=rfl;by_cases a1:a<s.length
 . rw [if_pos a1,if_neg (by rw [bn];omega),Lib.decode_at,Lib.decode_at,bn,qb];simp only [R2,List.getElem?_drop,Nat.add_zero,Nat.sub_zero,Nat.zero_add]
 . rw [if_neg a1,if_pos (by rw [bn];omega)]
theorem akw {h:ah} {b:aQ} {s:List UInt8} {a:Nat} (aB:h.get b=.iter s a):
 w9 (.ptr b 0) h=if a<s.length then .val (.tuple [.bool true,.int .i64 a,.int .i32 (decodeL s a).1]) (h.set b (.iter s (a + (decodeL s a).2))) else .val (.tuple [.bool false]) h:=by
 unfold w9;simp only [V.j0,aB];rw [show Nat.beq 0 0=true from rfl];simp only [cond_true];by_cases a1:a<s.length
 . rw [if_pos a1,show Nat.blt a s.length=true from by rw [Nat.blt_eq];exact a1];rfl
 . rw [if_neg a1,show Nat.blt a s.length=false from by rw [<-Bool.not_eq_true,Nat.blt_eq];exact a1];rfl
def agP (s:List UInt8):cd->Nat
 | .iter _ a=>s.length-a
 | _=>0
theorem aca (s:List UInt8) (a:Nat):1<=(decodeL s a).2:=by
 unfold decodeL;rw [Lib.decode_at];unfold Lib.decodeN
 repeat' split
 all_goals simp
theorem amo (s:List UInt8) (aS:s.length<=100000) (h:ah):de Tryz.prog 123 [.str s] h fun x ab=>x=.int .i64 (uS s:Nat)/\Ext h ab:=by
 refine aam.z rfl (dM ?_);unfold PE;simp +contextual only [↓al,aG,simprocAttr];refine fa (fun r ab=>r 0=.str s/\r 8=.ptr (aj h.next) 0/\Ext h ab/\∃a,ab.get (aj h.next)=.iter s a/\uS s=rK s a) (fun r ab=>agP s (ab.get (aj h.next))) ?_ ?_
 . exact ⟨by simp only [↓al,aG,simprocAttr],by simp only [↓al,aG,simprocAttr],(Ext.refl h).new _,0,by simp only [↓al,aG,simprocAttr],rfl⟩
 . rintro r ab ⟨bt,dW,ak,a,aB,a1⟩;unfold PF;have mu:=akw aB;by_cases aO:a<s.length
   . rw [if_pos aO] at mu;have af:=aca s a;by_cases aD:(decodeL s a).1=65533
     . have j8:(((decodeL s a).1:Int)=65533)=True:=eq_true (by omega);have f0:(0<=(a:Int))=True:=eq_true (by omega);have f1:((a:Int)<=(s.length:Int))=True:=eq_true (by omega);simp +contextual only [bt,dW,mu,j8,f0,f1,Int.toNat_natCast,↓al,aG,simprocAttr];refine gL (acb _ _) ?_;rw [acd,if_pos aO];by_cases hw:(decodeL s a).2=1
       . have B2:(((decodeL s a).2:Int)=1)=True:=eq_true (by omega);have we:m_ s a=0:=by unfold m_;rw [if_pos (Prod.ext aD hw)]
         rw [amn aO we] at a1;simp +contextual only [bt,dW,mu,j8,B2,f0,f1,Int.toNat_natCast,↓al,aG,simprocAttr];rw [a1];exact ⟨rfl,ak.set (Nat.le_refl _) _⟩
       . have B2:(((decodeL s a).2:Int)=1)=False:=eq_false (by omega);have we:m_ s a=(decodeL s a).2:=by unfold m_;rw [if_neg (fun q=>hw (congrArg Prod.snd q))]
         rw [MJ aO (by rw [we];omega),we] at a1;simp +contextual only [bt,dW,mu,j8,B2,f0,f1,Int.toNat_natCast,↓al,aG,simprocAttr];refine ⟨⟨ak.set (Nat.le_refl _) _,_,rfl,a1⟩,?_⟩;rw [aB];show s.length - (a + (decodeL s a).2)<s.length-a;omega
     . have j8:(((decodeL s a).1:Int)=65533)=False:=eq_false (by omega);have we:m_ s a=(decodeL s a).2:=by unfold m_;rw [if_neg (fun q=>aD (congrArg Prod.fst q))]
       rw [MJ aO (by rw [we];omega),we] at a1;simp +contextual only [bt,dW,mu,j8,Int.toNat_natCast,↓al,aG,simprocAttr];refine ⟨⟨ak.set (Nat.le_refl _) _,_,rfl,a1⟩,?_⟩;rw [aB];show s.length - (a + (decodeL s a).2)<s.length-a;omega
   . rw [if_neg aO] at mu;rw [V7 (by omega)] at a1;simp +contextual only [bt,dW,mu,Int.toNat_natCast,↓al,aG,simprocAttr];rw [a1];exact ⟨rfl,ak⟩
def cw.enc (w:cw):List V:=[.int .i64 w.kind,.int .i64 w.num,.int .i64 w.pos,.str w.text]
def qD:List cw->List V
 | []=>[]
 | w::ws=>w.enc++qD ws
theorem Xy:∀a b:List cw,qD (a++b)=qD a++qD b
 | [],b=>rfl
 | w::a,b=>by simp only [qD,List.cons_append,Xy a b,List.append_assoc]
def CV (ws:List cw):Except (Int × Nat) (List cw)->Except (Int × Nat) (List cw)
 | .ok b2=>.ok (ws++b2)
 | .error e=>.error e
theorem alJ (ws:List cw) (w:cw) (r:Except (Int × Nat) (List cw)):CV ws (A6 w r)=CV (ws++[w]) r:=by
 cases r with
 | ok b2=>simp [CV,A6]
 | error e=>rfl
theorem alK (r:Except (Int × Nat) (List cw)):CV [] r=r:=by cases r<;>rfl
def Yn (s:List UInt8) (h:ah) (x:V) (ab:ah):Prop:=Ext h ab/\match oC s with
 | .ok ws=>∃v,x=.tuple [v,.agg [.int .i64 0,.int .i64 0]]/\cJ h.next ab 4 v ws.length (qD ws)
 | .error e=>x=.tuple [.bB,.agg [.int .i64 e.1,.int .i64 e.2]]
theorem Pl (c:UInt8):(0<=Lib.indexByte [9,10,13,32] c)=(blank c=true):=by
 have aW:∀d:UInt8,(d == c)=decide (c=d):=fun d=>by
  by_cases q:c=d
  . subst q;simp
  . have dV:¬d=c:=fun e=>q e.symm;simp [q,dV]
 simp only [Lib.indexByte,aW,blank];by_cases aa:c=9
 . subst aa;decide
 . by_cases ad:c=10
   . subst ad;decide
   . by_cases aJ:c=13
     . subst aJ;decide
     . by_cases bG:c=32
       . subst bG;decide
       . simp [aa,ad,aJ,bG]
theorem ajM (s:List UInt8) (h:ah):de Tryz.prog 104 [.str s] h (Yn s h):=by
 refine aah.z rfl (dM ?_);unfold Px;by_cases BF:(65536:Int) < (s.length:Int)
 . simp +contextual only [BF,↓al,aG,simprocAttr];refine ⟨((Ext.refl h).new _).set (Nat.le_refl _) _,?_⟩;unfold oC;rw [if_pos (by omega)];rfl
 simp +contextual only [BF,↓al,aG,simprocAttr];refine cK (amo s (by omega) _) ?_;rintro x aa ⟨rfl,K1⟩;have ak:Ext h (h.new (.bE [.int .i64 0,.int .i64 0] 0 false)):=(Ext.refl h).new _;have ze:=ak.trans K1;have g1:aa.get (aj h.next)=.bE [.int .i64 0,.int .i64 0] 0 false:=by rw [K1.get _ (fW (by rw [gk];omega))];simp only [↓al,aG,simprocAttr]
 have CF:h.next+1<=aa.next:=K1.next
 have cD:(aj aa.next=aj h.next)=False:=by rw [rH];exact eq_false (by omega)
 have cT:(aj h.next=aj aa.next)=False:=by rw [rH];exact eq_false (by omega)
 have oE:(aa.next=h.next)=False:=eq_false (by omega);have oF:(h.next=aa.next)=False:=eq_false (by omega);have hlen:¬65536<s.length:=by omega
 by_cases aE:uS s<s.length
 . have sE:((uS s:Int) < (s.length:Int))=True:=eq_true (by omega);simp +contextual only [sE,g1,cD,cT,oE,oF,↓al,aG,simprocAttr];refine ⟨ze.set (Nat.le_refl _) _,?_⟩;unfold oC;rw [if_neg hlen,if_pos aE]
 have sE:((uS s:Int) < (s.length:Int))=False:=eq_false (by omega);have lO:oC s=rp s 0:=by unfold oC;rw [if_neg hlen,if_neg aE]
 simp +contextual only [sE,g1,cD,cT,oE,oF,↓al,aG,simprocAttr];have agl:Ext h (aa.new (.bE [.str s,.int .i64 0,.int .i64 0] 0 false)):=ze.new _;refine fa (fun r ab=>r 0=.str s/\r 3=.ptr (aj h.next) 0/\r 5=.ptr (aj aa.next) 0/\∃(a:Nat) (ws:List cw) (v:V),r 6=v/\ab.get (aj aa.next)=.bE [.str s,.int .i64 a,.int .i64 0] 0 false/\a<=s.length/\ws.length<=a/\
  ab.get (aj h.next)=.bE [.int .i64 0,.int .i64 0] 0 false/\Ext h ab/\aa.next+1<=ab.next/\cJ (aa.next+1) ab 4 v ws.length (qD ws)/\oC s=CV ws (rp (s.drop a) a))
  (fun r ab=>s.length - ((ia (ab.get (aj aa.next)) 1).getD .bad).toN) ?_ ?_
 . refine ⟨by simp only [↓al,aG,simprocAttr],by simp only [↓al,aG,simprocAttr],by simp only [↓al,aG,simprocAttr],0,[],.bB,by simp only [↓al,aG,simprocAttr],by simp only [↓al,aG,simprocAttr]<;>rfl,by omega,by simp,by simp only [g1,cD,oE,cT,oF,↓al,aG,simprocAttr],agl,?_,⟨rfl,rfl⟩,?_⟩
   . rw [gk];exact Nat.le_refl _
   . rw [lO,List.drop_zero,alK]
 . rintro r ab ⟨bt,cr,c1,a,ws,v,ct,aB,bz,kw,bn,FN,mu,dn,bK⟩;unfold Py;have ha:Old ab (aj aa.next):=fW (by omega);by_cases gB:(s.length:Int)<=(a:Int)
   . have a1:a=s.length:=by omega
     have FA:oC s=.ok ws:=by rw [bK,a1,List.drop_length];show Except.ok (ws++[])=_;rw [List.append_nil]
     simp +contextual only [bt,cr,c1,ct,aB,bn,gB,cD,cT,oE,oF,↓al,aG,simprocAttr];refine ⟨FN.set (Nat.le_refl _) _,?_⟩;rw [FA];refine ⟨v,rfl,?_⟩;have:=dn.mod ((Mod.refl (fun q=>q=aj h.next) ab).self (.bE [.int .i64 0,.int .i64 0] 0 false)) (fun q aC e=>by have ad:=dn.base aC;rw [show q=aj h.next from e,b9] at ad;omega);exact this.mono (by omega)
   . have aO:a<s.length:=by omega
     rw [drop_cons aO,T_,<-drop_cons aO] at bK;have f0:(0<=(a:Int))=True:=eq_true (by omega);have f1:((a:Int) < (s.length:Int))=True:=eq_true (by omega);have b3:IntKind.i64.wrap ((a:Int)+1)=((a+1:Nat):Int):=by rw [wrap_i64 (by omega) (by omega)];rfl
     simp +contextual only [bt,cr,c1,ct,aB,bn,gB,cD,cT,oE,oF,f0,f1,List.getElem?_eq_getElem aO,Int.toNat_natCast,↓al,aG,simprocAttr];refine gL (Tv _ _ _) ?_;rw [Xf];by_cases Fa:blank s[a]=true
     . have J0:(0<=Lib.indexByte [9,10,13,32] s[a])=True:=by rw [Pl,Fa];exact eq_self _
       rw [if_pos Fa] at bK;simp +contextual only [J0,b3,bt,cr,c1,ct,aB,bn,gB,cD,cT,oE,oF,f0,f1,List.getElem?_eq_getElem aO,Int.toNat_natCast,↓al,aG,simprocAttr];refine ⟨⟨a+1,ws,rfl,by omega,by omega,FN.set (by omega) _,mu,?_,bK⟩,by omega⟩;exact dn.mod ((Mod.refl (fun q=>q=aj aa.next) ab).self _) (fun q aC e=>by have ad:=dn.base aC;rw [show q=aj aa.next from e,b9] at ad;omega)
     . have J0:(0<=Lib.indexByte [9,10,13,32] s[a])=False:=by rw [Pl];exact eq_false Fa
       rw [if_neg Fa] at bK;simp +contextual only [J0,b3,bt,cr,c1,ct,aB,bn,gB,cD,cT,oE,oF,f0,f1,List.getElem?_eq_getElem aO,Int.toNat_natCast,↓al,aG,simprocAttr];have BO:=JU s [40,42] (a:Int) [.int .i64 0] (aj aa.next) 0 false ab aB (by omega) (by omega);rw [Int.toNat_natCast] at BO;refine gL BO ?_;cases pb:([40,42]:List UInt8).isPrefixOf (s.drop a) with
       | true=>
         rw [pb,if_pos rfl] at bK;simp +contextual only [b3,bt,cr,c1,ct,aB,bn,gB,cD,cT,oE,oF,f0,f1,List.getElem?_eq_getElem aO,Int.toNat_natCast,↓al,aG,simprocAttr];refine cK (akL s a 0 (aj aa.next) ab aB bz (by omega) ha) ?_;rintro x ad ⟨rfl,hm,aV⟩;have qb:ad.get (aj h.next)=.bE [.int .i64 0,.int .i64 0] 0 false:=by rw [hm.get _ (fW (by omega)) (by rw [cT];exact id),bn]
         have FL:Ext h ad:=FN.h1 hm (fun b ae=>by rw [show b=aj aa.next from ae,b9];omega);have rC:=hm.next
         have lg:=dn.mod hm (fun q aC e=>by have ad:=dn.base aC;rw [show q=aj aa.next from e,b9] at ad;omega);cases KE:iN (s.drop a) 0 with
         | some n=>
           rw [KE] at aV bK;obtain ⟨g2,hle⟩:=aV;have BN:=Gs KE;unfold ft at g2;simp +contextual only [b3,bt,cr,c1,ct,g2,aB,qb,gB,cD,cT,oE,oF,f0,f1,List.getElem?_eq_getElem aO,Int.toNat_natCast,↓al,aG,simprocAttr];refine ⟨⟨a+n,ws,rfl,hle,by omega,FL,by omega,lg,?_⟩,by omega⟩;rw [bK];simp only [List.drop_drop]
         | none=>
           rw [KE] at aV bK;unfold ft at aV;simp +contextual only [b3,bt,cr,c1,ct,aV,aB,qb,gB,cD,cT,oE,oF,f0,f1,List.getElem?_eq_getElem aO,Int.toNat_natCast,↓al,aG,simprocAttr];refine ⟨FL.set (Nat.le_refl _) _,?_⟩;rw [bK];rfl
       | false=>
         rw [pb,if_neg Bool.false_ne_true] at bK;simp +contextual only [b3,bt,cr,c1,ct,aB,bn,gB,cD,cT,oE,oF,f0,f1,List.getElem?_eq_getElem aO,Int.toNat_natCast,↓al,aG,simprocAttr];refine cK (aky s a (aj aa.next) ab aB aO (by omega) ha) ?_;rintro x ad w;obtain ⟨hm,k,n,t,rfl,ui⟩:=w;have qb:ad.get (aj h.next)=.bE [.int .i64 0,.int .i64 0] 0 false:=by rw [hm.get _ (fW (by omega)) (by rw [cT];exact id),bn]
         have FL:Ext h ad:=FN.h1 hm (fun b ae=>by rw [show b=aj aa.next from ae,b9];omega);have rC:=hm.next
         have lg:=dn.mod hm (fun q aC e=>by have ad:=dn.base aC;rw [show q=aj aa.next from e,b9] at ad;omega);have m0:(aj ad.next=aj h.next)=False:=by rw [rH];exact eq_false (by omega)
         have m1:(aj ad.next=aj aa.next)=False:=by rw [rH];exact eq_false (by omega)
         have Uo:(ad.next=h.next)=False:=eq_false (by omega);have Up:(ad.next=aa.next)=False:=eq_false (by omega);have FM:Ext ad (((ad.new (.bE [.int .i64 0,.int .i64 0,.int .i64 0,.str []] 0 false)).set (aj ad.next) (.bE [.int .i64 k,.int .i64 n,.int .i64 0,.str t] 0 false)).set (aj ad.next) (.bE [.int .i64 k,.int .i64 n,.int .i64 a,.str t] 0 false)):=(((Ext.refl ad).new _).set (Nat.le_refl _) _).set (Nat.le_refl _) _;obtain ⟨v3,aJ,ar,aw,aK,bY,ek⟩:=qO (cs:=[.int .i64 k,.int .i64 n,.int .i64 a,.str t]) (by omega) (lg.ext FM) (by simp only [l5,gk];omega) (by unfold top;omega) rfl rfl;simp only [l5,gk] at ar bY;have Tj:Ext h aJ:=(FL.trans FM).h1 aK (fun b ae=>Nat.le_trans (by omega) (lg.base ae));have B6:aJ.get (aj h.next)=.bE [.int .i64 0,.int .i64 0] 0 false:=by rw [aK.get _ (fW (by simp only [l5,gk];omega)) (fun aC=>by have:=lg.base aC;rw [b9] at this;omega),FM.get _ (fW (by omega)),qb]
         have kM:aJ.get (aj aa.next)=ad.get (aj aa.next):=by rw [aK.get _ (fW (by simp only [l5,gk];omega)) (fun aC=>by have:=lg.base aC;rw [b9] at this;omega),FM.get _ (fW (by omega))]
         cases mu:hf (s.drop a) with
         | ok q=>
           have BN:=LP mu;rw [mu] at ui bK;obtain ⟨rfl,rfl,rfl,g2,hle⟩:=ui;unfold ft at g2;rw [g2] at kM;simp +contextual only [ar,m0,m1,Uo,Up,b3,bt,cr,c1,ct,g2,kM,aB,qb,gB,cD,cT,oE,oF,f0,f1,List.getElem?_eq_getElem aO,Int.toNat_natCast,↓al,aG,simprocAttr];refine ⟨⟨a+q.2.2.2,ws++[⟨q.1,q.2.1,a,q.2.2.1⟩],rfl,hle,by simp;omega,B6,Tj,by omega,?_,?_⟩,by omega⟩
           . rw [List.length_append,Xy];exact aw
           . rw [bK,alJ];simp only [List.drop_drop]
         | error e=>
           rw [mu] at ui bK;obtain ⟨he,bw,g2⟩:=ui;unfold ft at g2;rw [g2] at kM;simp +contextual only [he,ar,m0,m1,Uo,Up,b3,bt,cr,c1,ct,g2,kM,B6,aB,qb,gB,cD,cT,oE,oF,f0,f1,List.getElem?_eq_getElem aO,Int.toNat_natCast,↓al,aG,simprocAttr];refine ⟨Tj.set (Nat.le_refl _) _,?_⟩;rw [bK];rfl
def G9 (L:List (List UInt8)):List V:=L.map V.str
theorem TP (h:ah):de Tryz.prog 108 [] h fun x ab=>x=.slice (aj h.next) 0 20 20/\ab=h.new (.bE (G9 ux) 0 false):=by refine aal.z rfl (dM ?_);unfold PD;simp +contextual only [↓al,aG,simprocAttr];rfl
theorem WZ {L:List (List UInt8)} {i:Nat} (ao:i<L.length):(G9 L)[i]? =some (.str L[i]):=by unfold G9;rw [List.getElem?_map,List.getElem?_eq_getElem ao];rfl
theorem acs {t:List UInt8} {L:List (List UInt8)} {i:Nat} (ao:i<L.length):(L.drop i).contains t=(decide (L[i]=t)||(L.drop (i+1)).contains t):=by rw [List.drop_eq_getElem_cons ao,List.contains_cons];congr 1;rw [Bool.eq_iff_iff];simp;exact eq_comm
theorem Tu (t:List UInt8) (L:List (List UInt8)) (b:aQ) (cap:Nat) (h:ah) (eL:L.length<=100000) (aB:h.get b=.bE (G9 L) 0 false):
 gu Tryz.prog 107 [.str t,.slice b 0 L.length cap] h (.bool (L.contains t)) h:=by
 refine pz (aak.z rfl (dM ?_));unfold PB;simp +contextual only [↓al,aG,simprocAttr];refine fa (fun r ab=>ab=h/\r 0=.str t/\r 1=.slice b 0 L.length cap/\∃i:Nat,r 5=.int .i64 i/\i<=L.length/\L.contains t=(L.drop i).contains t) (fun r ab=>L.length - (r 5).toN) ?_ ?_
 . exact ⟨rfl,by simp only [↓al,aG,simprocAttr],by simp only [↓al,aG,simprocAttr],0,by simp only [↓al,aG,simprocAttr]<;>rfl,by omega,rfl⟩
 . rintro r ab ⟨rfl,bt,br,i,c1,ao,bK⟩;unfold PC;by_cases aO:i<L.length
   . have g0:((i:Int) < (L.length:Int))=True:=eq_true (by omega);have g1:(0<=(i:Int))=True:=eq_true (by omega);rw [acs aO] at bK;by_cases he:L[i]=t
     . simp +contextual only [bt,br,c1,g0,g1,aB,he,Int.toNat_natCast,Nat.mul_one,WZ aO,↓al,aG,simprocAttr];rw [bK];simp [he]
     . have w:IntKind.i64.wrap ((i:Int)+1)=((i+1:Nat):Int):=by rw [wrap_i64 (by omega) (by omega)];rfl
       simp +contextual only [bt,br,c1,g0,g1,aB,he,w,Int.toNat_natCast,Nat.mul_one,WZ aO,↓al,aG,simprocAttr];refine ⟨⟨i+1,rfl,aO,?_⟩,by omega⟩;rw [bK];simp [he]
   . have g0:((i:Int) < (L.length:Int))=False:=eq_false (by omega);rw [List.drop_eq_nil_of_le (by omega)] at bK;rw [bK];simp +contextual only [bt,br,c1,g0,↓al,aG,simprocAttr];rfl
def Bw:List UInt8->Bool
 | d::_=>nf d.toNat
 | []=>false
def i' (k:Int) (s:List UInt8):Bool:=
 decide (s≠[])&&decide (s.length<=64)&&s.all fB&&(if k=3 then (mm s||s.head? == some 95)&&!decide (s=[95])&&!pj s else if k=4 then Bw s else mm s)
def T' (c:Int):Bool:=nM c 97 122||nM c 65 90||nM c 48 57||decide (c=95)||decide (c=39)
theorem ajJ (c:UInt8):T' (c.toNat:Int)=fB c:=by unfold T' fB uz nM na hH nf;generalize (c.toNat:Int)=x;cases decide (97<=x)<;>cases decide (x<=122)<;>cases decide (65<=x)<;>cases decide (x<=90)<;>cases decide (48<=x)<;>cases decide (x<=57)<;>cases decide (x=95)<;>cases decide (x=39)<;>rfl
theorem aeB {s:List UInt8} {c:UInt8} {r:List UInt8} (h:s=c::r):mm s=hH c.toNat:=by rw [h];rfl
theorem amg (k:Int) (s:List UInt8) (aS:s.length<=17179869184) (aH:k=3\/k=4\/k=5) (h:ah):de Tryz.prog 89 [.int .i64 k,.str s] h fun x ab=>x=.bool (i' k s)/\Ext h ab:=by
 refine abh.z rfl (dM ?_);unfold QM;by_cases yX:s=[]
 . subst yX;simp +contextual only [↓al,aG,simprocAttr];exact ⟨rfl,Ext.refl _⟩
 obtain ⟨c,r,BU⟩:=List.exists_cons_of_ne_nil yX;have c_:(s=([]:List UInt8))=False:=eq_false yX;have mw:s[0]? =some c:=by rw [BU];rfl
 by_cases hlen:(64:Int) < (s.length:Int)
 . have aV:i' k s=false:=by
    unfold i';rw [decide_eq_false (show ¬s.length<=64 by omega)];simp
   have Kq:=eq_true hlen;simp +contextual only [c_,Kq,aV,↓al,aG,simprocAttr];exact Ext.refl _
 have Kq:=eq_false hlen;simp +contextual only [c_,Kq,↓al,aG,simprocAttr];refine fa (fun r ab=>ab=h/\r 0=.int .i64 k/\r 1=.str s/\∃i:Nat,r 5=.int .i64 i/\i<=s.length/\s.all fB=(s.drop i).all fB) (fun r ab=>s.length - (r 5).toN) ?_ ?_
 . exact ⟨rfl,by simp only [↓al,aG,simprocAttr],by simp only [↓al,aG,simprocAttr],0,by simp only [↓al,aG,simprocAttr]<;>rfl,by omega,rfl⟩
 . rintro R ab ⟨rfl,bt,br,i,c1,ao,bK⟩;unfold QN;by_cases aO:i<s.length
   . have g0:((i:Int) < (s.length:Int))=True:=eq_true (by omega);have g1:(0<=(i:Int))=True:=eq_true (by omega);rw [List.drop_eq_getElem_cons aO,List.all_cons] at bK;have w:IntKind.i64.wrap ((i:Int)+1)=((i+1:Nat):Int):=by rw [wrap_i64 (by omega) (by omega)];rfl
     simp +contextual only [bt,br,c1,g0,g1,List.getElem?_eq_getElem aO,Int.toNat_natCast,↓al,aG,simprocAttr];refine gL (Ym _ _) ?_;rw [show (nM (s[i].toNat:Int) 97 122||nM (s[i].toNat:Int) 65 90||nM (s[i].toNat:Int) 48 57||decide ((s[i].toNat:Int)=95)||decide ((s[i].toNat:Int)=39))=fB s[i] from ajJ _];cases aA:fB s[i] with
     | true=>
       simp +contextual only [bt,br,c1,w,↓al,aG,simprocAttr];exact ⟨⟨i+1,rfl,aO,by rw [bK,aA,Bool.true_and]⟩,by omega⟩
     | false=>
       have aV:i' k s=false:=by unfold i';rw [bK,aA];simp
       simp +contextual only [aV,↓al,aG,simprocAttr];exact Ext.refl _
   . have g0:((i:Int) < (s.length:Int))=False:=eq_false (by omega);rw [List.drop_eq_nil_of_le (by omega)] at bK;have ec:s.all fB=true:=by rw [bK];rfl
     have f1:((0:Int) < (s.length:Int))=True:=eq_true (by rw [BU];simp only [List.length_cons];omega);have aV:i' k s=(if k=3 then (mm s||s.head? == some 95)&&!decide (s=[95])&&!pj s else if k=4 then Bw s else mm s):=by unfold i';rw [ec,decide_eq_true (show s.length<=64 by omega),decide_eq_true (show s≠[] from yX)];simp
     rw [aV];have ae:(mm s||s.head? == some 95)=(hH c.toNat||decide (c=95)):=by rw [BU];show (hH c.toNat||(some c == some 95))=_;congr 1
     have afR:mm s=hH c.toNat:=aeB BU;have aeT:Bw s=nf c.toNat:=by rw [BU];rfl
     rw [ae];have hu:((c.toNat:Int)=95)=(c=95):=xA c 95 (by omega);rcases aH with rfl | rfl | rfl
     . simp +contextual only [bt,br,c1,g0,f1,mw,Int.toNat_zero,if_true,↓al,aG,simprocAttr];refine gL (Ae _ _ _ _) ?_;rw [show nM (c.toNat:Int) 97 122=hH (c.toNat:Int) from rfl];cases qa:hH (c.toNat:Int) with
       | false=>
         by_cases Sb:c=95
         . have pX:=eq_true Sb;by_cases aa:s=[95]
           . have gN:=eq_true aa;simp +contextual only [bt,br,qa,hu,pX,gN,f1,mw,Int.toNat_zero,↓al,aG,simprocAttr];exact Ext.refl _
           . have gN:=eq_false aa;simp +contextual only [bt,br,qa,hu,pX,gN,f1,mw,Int.toNat_zero,↓al,aG,simprocAttr];refine cK (TP _) ?_;rintro x aa ⟨rfl,rfl⟩;simp +contextual only [bt,br,qa,hu,pX,gN,f1,mw,↓al,aG,simprocAttr];refine gL (Tu s ux _ 20 _ (by decide) (by rw [nd])) ?_;have Kn:ux.contains s=pj s:=rfl;rw [Kn];simp +contextual only [bt,br,qa,hu,pX,gN,↓al,aG,simprocAttr];exact (Ext.refl _).new _
         . have pX:=eq_false Sb;simp +contextual only [bt,br,qa,hu,pX,f1,mw,Int.toNat_zero,↓al,aG,simprocAttr];exact Ext.refl _
       | true=>
         have pX:True=True:=rfl;by_cases aa:s=[95]
         . have gN:=eq_true aa;simp +contextual only [bt,br,qa,hu,pX,gN,f1,mw,Int.toNat_zero,↓al,aG,simprocAttr];exact Ext.refl _
         . have gN:=eq_false aa;simp +contextual only [bt,br,qa,hu,pX,gN,f1,mw,Int.toNat_zero,↓al,aG,simprocAttr];refine cK (TP _) ?_;rintro x aa ⟨rfl,rfl⟩;simp +contextual only [bt,br,qa,hu,pX,gN,f1,mw,↓al,aG,simprocAttr];refine gL (Tu s ux _ 20 _ (by decide) (by rw [nd])) ?_;have Kn:ux.contains s=pj s:=rfl;rw [Kn];simp +contextual only [bt,br,qa,hu,pX,gN,↓al,aG,simprocAttr];exact (Ext.refl _).new _
     . simp +contextual only [bt,br,c1,g0,f1,mw,Int.toNat_zero,if_true,if_false,↓al,aG,simprocAttr];refine gL (Ae _ _ _ _) ?_;rw [aeT];simp +contextual only [↓al,aG,simprocAttr];exact ⟨rfl,Ext.refl _⟩
     . simp +contextual only [bt,br,c1,g0,f1,mw,Int.toNat_zero,if_true,if_false,↓al,aG,simprocAttr];refine gL (Ae _ _ _ _) ?_;rw [afR];simp +contextual only [↓al,aG,simprocAttr];exact ⟨rfl,Ext.refl _⟩
theorem Zy {s:List UInt8} (h:∀c ∈ s,c.toNat<128):uS s=s.length:=by
 have aD:∀a,a<s.length->m_ s a=1:=by
  intro a a1;have bb:decodeL s a=((s[a]).toNat,1):=by unfold decodeL;rw [Lib.decode_at];simp only [R2,List.getElem?_eq_getElem a1,Option.getD_some];unfold Lib.decodeN;rw [if_pos (h _ (List.getElem_mem a1))]
  unfold m_;rw [bb,if_neg (by have:=h _ (List.getElem_mem a1);simp only [Prod.mk.injEq,and_true];omega)]
 have:∀n a,s.length-a=n->a<=s.length->rK s a=s.length:=by
  intro n
  induction n with
  | zero=>intro a aa ad;exact V7 (by omega)
  | succ n bq=>
    intro a aa ad;have aO:a<s.length:=by omega
    rw [MJ aO (by rw [aD a aO];decide),aD a aO];exact bq _ (by omega) (by omega)
 exact this s.length 0 (by omega) (by omega)
theorem ajL {s:List UInt8} (h:∀c ∈ s,c.toNat<128):oC s=if 65536<s.length then .error (3,0) else rp s 0:=by unfold oC;rw [Zy h,if_neg (Nat.lt_irrefl _)]
theorem aj' {c:UInt8} (h:fB c=true):blank c=false/\c≠40:=by
 constructor
 . cases ae:blank c with
   | false=>rfl
   | true=>
     unfold blank at ae;simp only [Bool.or_eq_true,decide_eq_true_eq] at ae;rcases ae with ((rfl | rfl) | rfl) | rfl<;>exact absurd h (by decide)
 . rintro rfl;exact absurd h (by decide)
theorem akG {c:UInt8} (h:c≠40) (r:List UInt8):([40,42]:List UInt8).isPrefixOf (c::r)=false:=by
 have:((40:UInt8) == c)=false:=by rw [beq_eq_false_iff_ne];exact fun q=>h q.symm
 simp [List.isPrefixOf,this]
theorem Wy {c:UInt8} (h:hH c.toNat=true):fx c=false/\c≠34:=by unfold hH at h;simp only [Bool.and_eq_true,decide_eq_true_eq] at h;refine ⟨?_,by rintro rfl;exact absurd h (by decide)⟩;unfold fx na;simp only [Bool.and_eq_false_iff,decide_eq_false_iff_not];omega
theorem adQ {c:UInt8} (h:nf c.toNat=true):fx c=false/\c≠34/\hH c.toNat=false/\c≠95:=by
 unfold nf at h;simp only [Bool.and_eq_true,decide_eq_true_eq] at h;refine ⟨?_,by rintro rfl;exact absurd h (by decide),?_,by rintro rfl;exact absurd h (by decide)⟩
 . unfold fx na;simp only [Bool.and_eq_false_iff,decide_eq_false_iff_not];omega
 . unfold hH;simp only [Bool.and_eq_false_iff,decide_eq_false_iff_not];omega
theorem akq {k:Int} {s:List UInt8} (h:i' k s=true):s≠[]/\s.length<=64/\s.all fB=true/\(if k=3 then (mm s||s.head? == some 95)&&!decide (s=[95])&&!pj s else if k=4 then Bw s else mm s)=true:=by unfold i' at h;rw [Bool.and_eq_true,Bool.and_eq_true,Bool.and_eq_true,decide_eq_true_eq,decide_eq_true_eq] at h;exact ⟨h.1.1.1,h.1.1.2,h.1.2,h.2⟩
theorem akz {c:UInt8} {t:List UInt8} (h:hH c.toNat=true\/c=95):hf (c::t)=kv 3 (c::t):=by
 have bb:fx c=false:=h.elim (fun q=>(Wy q).1) (fun q=>by rw [q];decide);have adX:c≠34:=h.elim (fun q=>(Wy q).2) (fun q=>by rw [q];decide);have aS:(hH c.toNat||decide (c=95))=true:=by simpa using h
 simp only [hf,bb,aS,if_neg adX,Bool.false_eq_true,if_false,if_true]
theorem Zx {c:UInt8} (h:fB c=true):c.toNat<128:=by unfold fB uz na hH nf at h;simp only [Bool.or_eq_true,Bool.and_eq_true,decide_eq_true_eq] at h;omega
theorem Xe {p:UInt8->Bool}:∀s:List UInt8,s.all p=true->s.takeWhile p=s
 | [],_=>rfl
 | c::s,h=>by rw [List.all_cons,Bool.and_eq_true] at h;rw [List.takeWhile_cons,h.1,if_pos rfl,Xe s h.2]
theorem OW (p:UInt8->Bool):∀s:List UInt8,(s.takeWhile p).all p=true
 | []=>rfl
 | c::s=>by
   rw [List.takeWhile_cons]
   split
   . rename_i h;rw [List.all_cons,h,OW p s];rfl
   . rfl
theorem LM {k:Int} {c:UInt8} {r:List UInt8} {q:Int × Int × List UInt8 × Nat} (aH:(k=3/\(hH c.toNat=true\/c=95))\/(k=4/\nf c.toNat=true)\/(k=5/\hH c.toNat=true)) (h:kv k (c::r)=.ok q) (aC:q.1=3\/q.1=4\/q.1=5):
 q.1=k/\i' k q.2.2.1=true:=by
 have aA:fB c=true:=by
  rcases aH with ⟨_,q | q⟩ | ⟨_,q⟩ | ⟨_,q⟩
  . exact MS q
  . exact Xi q
  . exact R7 q
  . exact MS q
 have av:(c::r).takeWhile fB=c::r.takeWhile fB:=by rw [List.takeWhile_cons,if_pos aA]
 have a1:=OW fB (c::r);rw [av] at a1;unfold kv at h;simp only [av] at h;generalize r.takeWhile fB=t at *
 split at h
 . cases h;simp at aC
 . rename_i afz
   split at h
   . cases h;simp at aC
   . rename_i y1
     split at h
     . cases h
     . rename_i hlen;cases h;refine ⟨rfl,?_⟩;have mr:(if k=3 then (mm (c::t)||(c::t).head? == some 95)&&!decide (c::t=[95])&&!pj (c::t) else if k=4 then Bw (c::t) else mm (c::t))=true:=by
        rcases aH with ⟨rfl,z⟩ | ⟨rfl,z⟩ | ⟨rfl,z⟩
        . rw [if_pos rfl];have aa:(mm (c::t)||(c::t).head? == some 95)=true:=by
           rcases z with z | z
           . show (hH c.toNat||_)=true;rw [z];rfl
           . subst z;simp
          rw [aa,decide_eq_false (fun z=>afz ⟨rfl,z⟩),Bool.eq_false_iff.2 (fun z=>y1 ⟨rfl,z⟩)];rfl
        . exact z
        . exact z
       show i' k (c::t)=true;unfold i';rw [mr,a1,decide_eq_true (show c::t≠[] by simp),decide_eq_true (show (c::t).length<=64 by omega)];rfl
theorem aku {r:List UInt8} {q:Int × Int × List UInt8 × Nat} (h:hf r=.ok q) (aC:q.1=3\/q.1=4\/q.1=5):i' q.1 q.2.2.1=true:=by
 match r,h with
 | c::r,h=>
   simp only [hf] at h
   split at h
   . unfold zB at h;simp only at h
     split at h
     . cases h
     . cases h;simp at aC
   . split at h
     . unfold td at h
       split at h
       . cases h
       . split at h
         . cases h
         . cases h;simp at aC
     . split at h
       . rename_i aS;have:=LM (.inl ⟨rfl,by simpa using aS⟩) h aC;rw [this.1];exact this.2
       . split at h
         . rename_i aS;have:=LM (.inr (.inl ⟨rfl,aS⟩)) h aC;rw [this.1];exact this.2
         . split at h
           . rename_i aS;cases aV:kv 5 r with
             | error e=>rw [aV] at h;cases h
             | ok dV=>
               rw [aV] at h;cases h;obtain ⟨d,t,rfl⟩:∃d t,r=d::t:=by
                cases r with
                | nil=>simp [mm] at aS
                | cons d t=>exact ⟨d,t,rfl⟩
               have:=LM (.inr (.inr ⟨rfl,aS.2⟩)) aV aC;show i' dV.1 dV.2.2.1=true;rw [this.1];exact this.2
           . unfold zY at h
             split at h
             . cases h;simp at aC
             . cases h
theorem F9:∀(f:Nat) (r:List UInt8) (p:Nat) (ws:List cw),oB f r p=.ok ws->∀w ∈ ws,w.kind=3\/w.kind=4\/w.kind=5->i' w.kind w.text=true
 | 0,r,p,ws,h,w,hw,_=>by simp only [oB,Except.ok.injEq] at h;subst h;cases hw
 | f+1,[],p,ws,h,w,hw,_=>by simp only [oB,Except.ok.injEq] at h;subst h;cases hw
 | f+1,c::r,p,ws,h,w,hw,aH=>by
   simp only [oB] at h
   split at h
   . exact F9 f _ _ ws h w hw aH
   . split at h
     . split at h
       . cases h
       . exact F9 f _ _ ws h w hw aH
     . split at h
       . cases h
       . rename_i q aV;cases aE:oB f ((c::r).drop q.2.2.2) (p+q.2.2.2) with
         | error aP=>rw [aE] at h;cases h
         | ok b2=>
           rw [aE] at h;simp only [A6,Except.ok.injEq] at h;subst h;rcases List.mem_cons.1 hw with rfl | hw
           . exact aku aV aH
           . exact F9 f _ _ b2 aE w hw aH
theorem ame {k:Int} {s:List UInt8} (aH:k=3\/k=4\/k=5) (h:i' k s=true):oC (if k=5 then 39::s else s)=.ok [⟨k,0,0,s⟩]:=by
 obtain ⟨g1,g2,g3,g4⟩:=akq h;obtain ⟨c,t,rfl⟩:=List.exists_cons_of_ne_nil g1;have aeh:∀d ∈ (if k=5 then 39::c::t else c::t),d.toNat<128:=by
  intro d bb;have aa:∀d ∈ c::t,d.toNat<128:=fun d bb=>Zx (List.all_eq_true.1 g3 d bb)
  split at bb
  . rcases List.mem_cons.1 bb with rfl | bb
    . decide
    . exact aa d bb
  . exact aa d bb
 rw [ajL aeh,if_neg (by split<;>simp only [List.length_cons] at g2 ⊢<;>omega)];have aA:fB c=true:=by rw [List.all_cons,Bool.and_eq_true] at g3;exact g3.1
 obtain ⟨cb,ca⟩:=aj' aA;have rd:∀j:Int,(j=3->c::t≠[95]/\pj (c::t)=false)->kv j (c::t)=.ok (j,0,c::t,(c::t).length):=by intro j aU;unfold kv;simp only [Xe _ g3];rw [if_neg (fun q=>(aU q.1).1 q.2),if_neg (fun q=>by rw [(aU q.1).2] at q;simp at q),if_neg (by omega)]
 have fin:∀(d:UInt8) (u:List UInt8) (q:Int × Int × List UInt8 × Nat),blank d=false->d≠40->hf (d::u)=.ok q->q.2.2.2=(d::u).length->rp (d::u) 0=.ok [⟨q.1,q.2.1,0,q.2.2.1⟩]:=by intro d u q aP bf c4 gj;rw [T_,aP,if_neg Bool.false_ne_true,akG bf,if_neg Bool.false_ne_true,c4];simp only [gj,List.drop_length];rfl
 rcases aH with rfl | rfl | rfl
 . rw [if_neg (by decide)];rw [if_pos rfl] at g4;simp only [Bool.and_eq_true,Bool.not_eq_true',decide_eq_false_iff_not,Bool.or_eq_true,beq_iff_eq] at g4;have bl:hH c.toNat=true\/c=95:=g4.1.1.imp id (fun q=>Option.some.inj q);exact fin c t _ cb ca (by rw [akz bl];exact rd 3 (fun _=>⟨g4.1.2,g4.2⟩)) rfl
 . rw [if_neg (by decide)];rw [if_neg (by decide),if_pos rfl] at g4;have aB:nf c.toNat=true:=g4;obtain ⟨cT,gP,n3,n4⟩:=adQ aB;refine fin c t (4,0,c::t,(c::t).length) cb ca ?_ rfl;simp only [hf,cT,n3,aB,if_neg gP,Bool.false_eq_true,if_false,if_true,Bool.false_or,decide_eq_true_eq,if_neg n4];exact rd 4 (fun q=>absurd q (by decide))
 . rw [if_pos rfl];rw [if_neg (by decide),if_neg (by decide)] at g4;refine fin 39 (c::t) (5,0,c::t,(c::t).length+1) (by decide) (by decide) ?_ rfl;simp only [hf];rw [if_neg (by decide),if_neg (by decide),if_neg (by decide),if_neg (by decide),if_pos ⟨trivial,g4⟩,rd 5 (fun q=>absurd q (by decide))];rfl
theorem I8 (t:aM):t.deep=eY t.l+1:=by cases t;simp only [aM.deep,aM.l]
theorem size_eq (t:aM):t.size=1+cE t.l:=by cases t;simp only [aM.size,aM.l]
theorem GI:∀l m:List aM,eY (l++m)=max (eY l) (eY m)
 | [],m=>by simp [eY]
 | t::l,m=>by rw [List.cons_append,eY,eY,GI l m,Nat.max_assoc]
theorem s4:∀l m:List aM,cE (l++m)=cE l+cE m
 | [],m=>by simp [cE]
 | t::l,m=>by rw [List.cons_append,cE,cE,s4 l m,Nat.add_assoc]
theorem take_one {l:List aM} {i:Nat} (h:i<l.length):l.take (i+1)=l.take i++[l[i]]:=by rw [List.take_succ_eq_append_getElem h]
theorem Vj {l:List aM} {i:Nat} (h:i<l.length):eY (l.take (i+1))=max (eY (l.take i)) l[i].deep:=by rw [take_one h,GI,eY,eY,Nat.max_zero]
theorem xf {l:List aM} {i:Nat} (h:i<l.length):cE (l.take (i+1))=cE (l.take i)+l[i].size:=by rw [take_one h,s4,cE,cE,Nat.add_zero]
mutual
theorem Q7:∀t:aM,t.deep<=t.size
 | .mk k n s l=>by rw [aM.deep,aM.size];have:=GJ l;omega
theorem GJ:∀l:List aM,eY l<=cE l
 | []=>Nat.le_refl _
 | t::l=>by rw [eY,cE];have:=Q7 t;have:=GJ l;omega
end
theorem py (l:List aM) (i:Nat):cE (l.take i)<=cE l:=by have:=s4 (l.take i) (l.drop i);rw [List.take_append_drop] at this;omega
theorem Gh (a b:Nat):(if (a:Int) < (b:Int) then (b:Int) else (a:Int))=((max a b:Nat):Int):=by
 by_cases h:(a:Int) < (b:Int)
 . rw [if_pos h,Nat.max_eq_right (by omega)]
 . rw [if_neg h,Nat.max_eq_left (by omega)]
mutual
def aM.pred:Nat->aM->List (Nat × aM)
 | d,.mk k n s l=>(d,.mk k n s l)::iR (d+1) l
def iR:Nat->List aM->List (Nat × aM)
 | _,[]=>[]
 | d,t::l=>t.pred d++iR d l
end
theorem alF (d:Nat) (t:aM):t.pred d=(d,t)::iR (d+1) t.l:=by cases t;simp only [aM.pred,aM.l]
theorem Mi (d:Nat):∀l m:List aM,iR d (l++m)=iR d l++iR d m
 | [],m=>rfl
 | t::l,m=>by rw [List.cons_append,iR,iR,Mi d l m,List.append_assoc]
theorem alI (d:Nat) (t:aM):iR d [t]=t.pred d:=by rw [iR,iR,List.append_nil]
mutual
theorem Mg:∀(d:Nat) (t:aM),(t.pred d).map Prod.snd=t.pre
 | d,.mk k n s l=>by rw [aM.pred,aM.pre,List.map_cons,Mj (d+1) l]
theorem Mj:∀(d:Nat) (l:List aM),(iR d l).map Prod.snd=uM l
 | _,[]=>rfl
 | d,t::l=>by rw [iR,uM,List.map_append,Mg d t,Mj d l]
end
theorem alG (d:Nat) (t:aM):(t.pred d).length=t.size:=by rw [<-Vu,<-Mg d t,List.length_map]
theorem alH (d:Nat) (l:List aM):(iR d l).length=cE l:=by rw [<-Mk,<-Mj d l,List.length_map]
def maxD (l:List (Nat × aM)):Nat:=l.foldl (fun m x=>max m x.1) 0
theorem foldl_max (l:List (Nat × aM)) (m:Nat):l.foldl (fun m x=>max m x.1) m=max m (maxD l):=by
 unfold maxD
 induction l generalizing m with
 | nil=>simp
 | cons x l bq=>rw [List.foldl_cons,List.foldl_cons,bq,bq (max 0 x.1)];omega
theorem LH (l m:List (Nat × aM)):maxD (l++m)=max (maxD l) (maxD m):=by
 conv=>lhs;unfold maxD
 rw [List.foldl_append,foldl_max];rfl
theorem Ut (x:Nat × aM) (l:List (Nat × aM)):maxD (x::l)=max x.1 (maxD l):=by have:=LH [x] l;rw [List.singleton_append] at this;rw [this];congr 1
mutual
theorem Vw:∀(d:Nat) (t:aM),maxD (t.pred d)+1=d+t.deep
 | d,.mk k n s l=>by
   rw [aM.pred,aM.deep,Ut];have:=Vx (d+1) l;simp only
   split at this
   . rename_i q;subst q;simp only [iR,eY];unfold maxD;simp
   . omega
theorem Vx:∀(d:Nat) (l:List aM),if l=[] then maxD (iR d l)=0 else maxD (iR d l)+1=d+eY l
 | _,[]=>by simp [iR,maxD]
 | d,t::l=>by
   rw [if_neg (by simp),iR,LH,eY];have aa:=Vw d t;have ad:=Vx d l
   split at ad
   . rename_i q;subst q;rw [ad];simp only [eY];omega
   . omega
end
def AV:List UInt8:=[45,62]
def xu:List UInt8:=[42]
def aM.own (t:aM):Bool:=
 if t.k=1 then decide (0<=t.n)&&decide (t.n<=1048575)&&decide (t.s=[])&&decide (t.l.length=0)
 else if t.k=2 then (if t.s=AV\/t.s=xu then decide (t.n=0)&&decide (t.l.length=2) else decide (t.n=0)&&decide (t.l.length<=64)&&i' 3 t.s)
 else false
mutual
def aM.shape:aM->Bool
 | .mk k n s l=>(aM.mk k n s l).own&&kZ l
def kZ:List aM->Bool
 | []=>true
 | t::l=>t.shape&&kZ l
end
theorem amS (t:aM):t.shape=(t.own&&kZ t.l):=by cases t;rw [aM.shape];rfl
mutual
theorem Wr:∀t:aM,t.shape=t.pre.all aM.own
 | .mk k n s l=>by rw [aM.shape,aM.pre,List.all_cons,Wt l]
theorem Wt:∀l:List aM,kZ l=(uM l).all aM.own
 | []=>rfl
 | t::l=>by rw [kZ,uM,List.all_append,Wr t,Wt l]
end
def aM.check (t:aM):Int:=if t.shape then (if t.size<=4096/\t.deep<=200 then 0 else 3) else 2
def OP (out:List Int) (t:aM):List Int:=if t.k=1/\¬t.n ∈ out then out++[t.n] else out
end
end Go.Proofs.YthemdhlheglhoaaGreatDoor
