/- The chapter's functions, walked by the abstract machine: plain lemmas, no condition. Printed by a program from longer texts: names made short. -/
import Derived.Test.YthemdhlheglhoaaGreatDoorM8
import Derived.Test.YthemdhlheglhoaaGreatDoorM9
import Derived.Shelf.LaysM
import Derived.Shelf.Strconv.Itoa3
import Derived.Shelf.Unicode.Decode
import Derived.Shelf.Unicode.DecodeSlow
import Derived.Shelf.Unicode.DecodeAny
import Derived.Shelf.Strconv.Atoi
import Derived.Shelf.Pu.ParseUintPublic10
import Derived.Lib.LaidU8T
import Derived.Test.YthemdhlheglhoaaGreatDoorM6
set_option linter.unusedSectionVars false
set_option linter.unusedSimpArgs false
set_option linter.unusedVariables false
set_option maxHeartbeats 64000000
noncomputable section
namespace Go.Proofs.YthemdhlheglhoaaGreatDoor
section
open Go a7
theorem adr:Extern.findNext Tryz.f153=none:=by kernel_rfl
theorem adq:(Extern.find Tryz.f153)=some Extern.BytealgIndexByte.indexByte:=by kernel_rfl
theorem agS (s:List UInt8) (c:Int) (h:ai):gv Tryz.prog 153 [.str s,.int .u8 c] h (.int .i64 (Lib.indexByte s c.toNat.toUInt8)) h:=
 agU (by decide) Tryz.func153 (by kernel_rfl) (by kernel_rfl) adr adq s c h
theorem agR (s:List UInt8) (c:Int) (h:ai):gv Tryz.prog 138 [.str s,.int .u8 c] h (.int .i64 (Lib.indexByte s c.toNat.toUInt8)) h:=by refine pB (aaH.z rfl (dB ?_));unfold c138;simp +contextual only [↓al,aE,simprocAttr];refine gR (agS _ _ _) ?_;simp +contextual only [↓al,aE,simprocAttr]
theorem TJ (s:List UInt8) (c:Int) (h:ai):gv Tryz.prog 124 [.str s,.int .u8 c] h (.int .i64 (Lib.indexByte s c.toNat.toUInt8)) h:=by refine pB (aaC.z rfl (dB ?_));unfold PQ;simp +contextual only [↓al,aE,simprocAttr];refine gR (agR _ _ _) ?_;simp +contextual only [↓al,aE,simprocAttr]
end
section
open Go Go.Shelf
def Tryz.ajF:Go.Shelf.Ren:=⟨fun | 197=>137 | 260=>152 | n=>n,fun | 9=>9 | 21=>21 | 3=>3 | 4=>4 | 5=>5 | 105=>182 | 119=>199 | 0=>0 | 46=>141 | 139=>202 | 138=>201 | n=>n,fun | 3=>2 | 4=>3 | n=>n⟩
theorem Tryz.ajE:Go.Proofs.Lays.n197 Tryz.prog Tryz.ajF:={
 mixed:=by kernel_rfl,
 f197:=Tryz.func137.trans (congrArg some (by kernel_rfl)),
 f260:=Tryz.func152.trans (congrArg some (by kernel_rfl)),
 t0:=Tryz.underlying0,
 a0:=Tryz.isAgg0,
 z0:=Tryz.sizeOf0,
 v0:=Tryz.zeroValue0,
 t3:=Tryz.underlying3,
 a3:=Tryz.isAgg3,
 z3:=Tryz.sizeOf3,
 v3:=Tryz.zeroValue3,
 t4:=Tryz.underlying4,
 a4:=Tryz.isAgg4,
 z4:=Tryz.sizeOf4,
 v4:=Tryz.zeroValue4,
 t5:=Tryz.underlying5,
 a5:=Tryz.isAgg5,
 z5:=Tryz.sizeOf5,
 v5:=Tryz.zeroValue5,
 t9:=Tryz.underlying9,
 a9:=Tryz.isAgg9,
 z9:=Tryz.sizeOf9,
 v9:=Tryz.zeroValue9,
 t21:=Tryz.underlying21,
 a21:=Tryz.isAgg21,
 z21:=Tryz.sizeOf21,
 v21:=Tryz.zeroValue21,
 t46:=Tryz.underlying141,
 a46:=Tryz.isAgg141,
 z46:=Tryz.sizeOf141,
 v46:=Tryz.zeroValue141,
 t105:=Tryz.underlying182,
 a105:=Tryz.isAgg182,
 z105:=Tryz.sizeOf182,
 v105:=Tryz.zeroValue182,
 t119:=Tryz.underlying199,
 a119:=Tryz.isAgg199,
 z119:=Tryz.sizeOf199,
 t138:=Tryz.underlying201,
 a138:=Tryz.isAgg201,
 z138:=Tryz.sizeOf201,
 v138:=Tryz.zeroValue201,
 t139:=Tryz.underlying202,
 a139:=Tryz.isAgg202,
 z139:=Tryz.sizeOf202,
 v139:=Tryz.zeroValue202,
 g3:=by kernel_rfl,
 g4:=by kernel_rfl}
def Tryz.ajD:Go.Shelf.Ren:=⟨fun | 172=>166 | 244=>176 | 245=>165 | 247=>180 | 279=>172 | 280=>173 | 281=>174 | 282=>175 | 287=>164 | 316=>178 | 171=>94 | 205=>179 | 321=>170 | 322=>171 | 243=>109 | 246=>128 | 283=>147 | 284=>148 | 285=>149 | 286=>150 | 129=>122 | 317=>160 | 318=>161 | 319=>162 | 320=>163 | 337=>168 | 338=>169 | n=>n,fun | 9=>9 | 3=>3 | 75=>133 | 76=>134 | 4=>4 | 5=>5 | 167=>205 | 37=>128 | 0=>0 | 85=>216 | 2=>2 | 168=>207 | 53=>166 | 175=>192 | 46=>141 | 210=>214 | 127=>155 | 145=>220 | 143=>218 | 21=>21 | 171=>186 | 173=>188 | 212=>197 | 51=>164 | 20=>20 | 213=>198 | 232=>210 | 233=>211 | 80=>136 | n=>n,fun | 15=>6 | 16=>7 | 17=>1 | 18=>4 | 19=>5 | n=>n⟩
theorem Tryz.ajC:Go.Proofs.Lays.n172 Tryz.prog Tryz.ajD:={
 mixed:=by kernel_rfl,
 f129:=Tryz.func122.trans (congrArg some (by kernel_rfl)),
 f171:=Tryz.func94.trans (congrArg some (by kernel_rfl)),
 f172:=Tryz.func166.trans (congrArg some (by kernel_rfl)),
 f205:=Tryz.func179.trans (congrArg some (by kernel_rfl)),
 f243:=Tryz.func109.trans (congrArg some (by kernel_rfl)),
 f244:=Tryz.func176.trans (congrArg some (by kernel_rfl)),
 f245:=Tryz.func165.trans (congrArg some (by kernel_rfl)),
 f246:=Tryz.func128.trans (congrArg some (by kernel_rfl)),
 f247:=Tryz.func180.trans (congrArg some (by kernel_rfl)),
 f279:=Tryz.func172.trans (congrArg some (by kernel_rfl)),
 f280:=Tryz.func173.trans (congrArg some (by kernel_rfl)),
 f281:=Tryz.func174.trans (congrArg some (by kernel_rfl)),
 f282:=Tryz.func175.trans (congrArg some (by kernel_rfl)),
 f283:=Tryz.func147.trans (congrArg some (by kernel_rfl)),
 f284:=Tryz.func148.trans (congrArg some (by kernel_rfl)),
 f285:=Tryz.func149.trans (congrArg some (by kernel_rfl)),
 f286:=Tryz.func150.trans (congrArg some (by kernel_rfl)),
 f287:=Tryz.func164.trans (congrArg some (by kernel_rfl)),
 f316:=Tryz.func178.trans (congrArg some (by kernel_rfl)),
 f317:=Tryz.func160.trans (congrArg some (by kernel_rfl)),
 f318:=Tryz.func161.trans (congrArg some (by kernel_rfl)),
 f319:=Tryz.func162.trans (congrArg some (by kernel_rfl)),
 f320:=Tryz.func163.trans (congrArg some (by kernel_rfl)),
 f321:=Tryz.func170.trans (congrArg some (by kernel_rfl)),
 f322:=Tryz.func171.trans (congrArg some (by kernel_rfl)),
 f337:=Tryz.func168.trans (congrArg some (by kernel_rfl)),
 f338:=Tryz.func169.trans (congrArg some (by kernel_rfl)),
 t0:=Tryz.underlying0,
 a0:=Tryz.isAgg0,
 z0:=Tryz.sizeOf0,
 v0:=Tryz.zeroValue0,
 t2:=Tryz.underlying2,
 a2:=Tryz.isAgg2,
 z2:=Tryz.sizeOf2,
 v2:=Tryz.zeroValue2,
 t3:=Tryz.underlying3,
 a3:=Tryz.isAgg3,
 z3:=Tryz.sizeOf3,
 v3:=Tryz.zeroValue3,
 t4:=Tryz.underlying4,
 a4:=Tryz.isAgg4,
 z4:=Tryz.sizeOf4,
 v4:=Tryz.zeroValue4,
 t5:=Tryz.underlying5,
 a5:=Tryz.isAgg5,
 z5:=Tryz.sizeOf5,
 v5:=Tryz.zeroValue5,
 t9:=Tryz.underlying9,
 a9:=Tryz.isAgg9,
 z9:=Tryz.sizeOf9,
 v9:=Tryz.zeroValue9,
 t20:=Tryz.underlying20,
 a20:=Tryz.isAgg20,
 z20:=Tryz.sizeOf20,
 v20:=Tryz.zeroValue20,
 t21:=Tryz.underlying21,
 a21:=Tryz.isAgg21,
 z21:=Tryz.sizeOf21,
 v21:=Tryz.zeroValue21,
 t37:=Tryz.underlying128,
 a37:=Tryz.isAgg128,
 z37:=Tryz.sizeOf128,
 v37:=Tryz.zeroValue128,
 t46:=Tryz.underlying141,
 a46:=Tryz.isAgg141,
 z46:=Tryz.sizeOf141,
 v46:=Tryz.zeroValue141,
 t51:=Tryz.underlying164,
 a51:=Tryz.isAgg164,
 z51:=Tryz.sizeOf164,
 v51:=Tryz.zeroValue164,
 t53:=Tryz.underlying166,
 a53:=Tryz.isAgg166,
 z53:=Tryz.sizeOf166,
 v53:=Tryz.zeroValue166,
 t75:=Tryz.underlying133,
 a75:=Tryz.isAgg133,
 z75:=Tryz.sizeOf133,
 v75:=Tryz.zeroValue133,
 t76:=Tryz.underlying134,
 a76:=Tryz.isAgg134,
 z76:=Tryz.sizeOf134,
 v76:=Tryz.zeroValue134,
 t85:=Tryz.underlying216,
 a85:=Tryz.isAgg216,
 z85:=Tryz.sizeOf216,
 v85:=Tryz.zeroValue216,
 t127:=Tryz.underlying155,
 a127:=Tryz.isAgg155,
 z127:=Tryz.sizeOf155,
 v127:=Tryz.zeroValue155,
 t143:=Tryz.underlying218,
 a143:=Tryz.isAgg218,
 z143:=Tryz.sizeOf218,
 v143:=Tryz.zeroValue218,
 t145:=Tryz.underlying220,
 a145:=Tryz.isAgg220,
 z145:=Tryz.sizeOf220,
 v145:=Tryz.zeroValue220,
 t167:=Tryz.underlying205,
 a167:=Tryz.isAgg205,
 z167:=Tryz.sizeOf205,
 v167:=Tryz.zeroValue205,
 t168:=Tryz.underlying207,
 a168:=Tryz.isAgg207,
 z168:=Tryz.sizeOf207,
 v168:=Tryz.zeroValue207,
 t171:=Tryz.underlying186,
 a171:=Tryz.isAgg186,
 z171:=Tryz.sizeOf186,
 v171:=Tryz.zeroValue186,
 t173:=Tryz.underlying188,
 a173:=Tryz.isAgg188,
 z173:=Tryz.sizeOf188,
 v173:=Tryz.zeroValue188,
 t175:=Tryz.underlying192,
 a175:=Tryz.isAgg192,
 z175:=Tryz.sizeOf192,
 v175:=Tryz.zeroValue192,
 t210:=Tryz.underlying214,
 a210:=Tryz.isAgg214,
 z210:=Tryz.sizeOf214,
 v210:=Tryz.zeroValue214,
 t212:=Tryz.underlying197,
 a212:=Tryz.isAgg197,
 z212:=Tryz.sizeOf197,
 v212:=Tryz.zeroValue197,
 t213:=Tryz.underlying198,
 a213:=Tryz.isAgg198,
 z213:=Tryz.sizeOf198,
 t232:=Tryz.underlying210,
 a232:=Tryz.isAgg210,
 z232:=Tryz.sizeOf210,
 v232:=Tryz.zeroValue210,
 t233:=Tryz.underlying211,
 a233:=Tryz.isAgg211,
 z233:=Tryz.sizeOf211,
 v233:=Tryz.zeroValue211,
 g15:=by kernel_rfl,
 g16:=by kernel_rfl,
 g17:=by kernel_rfl,
 g18:=by kernel_rfl,
 g19:=by kernel_rfl}
def Tryz.Lu:Go.Shelf.Ren:=⟨fun | 14=>155 | 16=>164 | 17=>165 | 19=>170 | 20=>171 | 21=>172 | 22=>173 | 23=>174 | 24=>175 | 25=>178 | 27=>94 | 26=>179 | 28=>109 | 29=>128 | 30=>147 | 31=>148 | 32=>149 | 33=>150 | 35=>122 | 34=>160 | 36=>161 | 37=>162 | 38=>163 | 39=>168 | 40=>169 | n=>n,fun | 9=>9 | 3=>3 | 22=>166 | 24=>133 | 25=>192 | 4=>4 | 34=>205 | 5=>5 | 36=>141 | 37=>128 | 0=>0 | 39=>207 | 21=>21 | 44=>214 | 47=>155 | 50=>220 | 48=>218 | 2=>2 | 52=>186 | 55=>188 | 59=>197 | 60=>164 | 20=>20 | 61=>198 | 65=>210 | 66=>211 | 67=>136 | n=>n,fun | 0=>6 | 1=>7 | 2=>1 | 3=>4 | 4=>5 | n=>n⟩
theorem Tryz.T':Go.Proofs.LaysPu.n14 Tryz.prog Tryz.Lu:={
 mixed:=by kernel_rfl,
 f14:=Tryz.func155.trans (congrArg some (by kernel_rfl)),
 f16:=Tryz.func164.trans (congrArg some (by kernel_rfl)),
 f17:=Tryz.func165.trans (congrArg some (by kernel_rfl)),
 f19:=Tryz.func170.trans (congrArg some (by kernel_rfl)),
 f20:=Tryz.func171.trans (congrArg some (by kernel_rfl)),
 f21:=Tryz.func172.trans (congrArg some (by kernel_rfl)),
 f22:=Tryz.func173.trans (congrArg some (by kernel_rfl)),
 f23:=Tryz.func174.trans (congrArg some (by kernel_rfl)),
 f24:=Tryz.func175.trans (congrArg some (by kernel_rfl)),
 f25:=Tryz.func178.trans (congrArg some (by kernel_rfl)),
 f26:=Tryz.func179.trans (congrArg some (by kernel_rfl)),
 f27:=Tryz.func94.trans (congrArg some (by kernel_rfl)),
 f28:=Tryz.func109.trans (congrArg some (by kernel_rfl)),
 f29:=Tryz.func128.trans (congrArg some (by kernel_rfl)),
 f30:=Tryz.func147.trans (congrArg some (by kernel_rfl)),
 f31:=Tryz.func148.trans (congrArg some (by kernel_rfl)),
 f32:=Tryz.func149.trans (congrArg some (by kernel_rfl)),
 f33:=Tryz.func150.trans (congrArg some (by kernel_rfl)),
 f34:=Tryz.func160.trans (congrArg some (by kernel_rfl)),
 f35:=Tryz.func122.trans (congrArg some (by kernel_rfl)),
 f36:=Tryz.func161.trans (congrArg some (by kernel_rfl)),
 f37:=Tryz.func162.trans (congrArg some (by kernel_rfl)),
 f38:=Tryz.func163.trans (congrArg some (by kernel_rfl)),
 f39:=Tryz.func168.trans (congrArg some (by kernel_rfl)),
 f40:=Tryz.func169.trans (congrArg some (by kernel_rfl)),
 t0:=Tryz.underlying0,
 a0:=Tryz.isAgg0,
 z0:=Tryz.sizeOf0,
 v0:=Tryz.zeroValue0,
 i0:=by kernel_rfl,
 t2:=Tryz.underlying2,
 a2:=Tryz.isAgg2,
 z2:=Tryz.sizeOf2,
 v2:=Tryz.zeroValue2,
 i2:=by kernel_rfl,
 t3:=Tryz.underlying3,
 a3:=Tryz.isAgg3,
 z3:=Tryz.sizeOf3,
 v3:=Tryz.zeroValue3,
 i3:=by kernel_rfl,
 t4:=Tryz.underlying4,
 a4:=Tryz.isAgg4,
 z4:=Tryz.sizeOf4,
 v4:=Tryz.zeroValue4,
 i4:=by kernel_rfl,
 t5:=Tryz.underlying5,
 a5:=Tryz.isAgg5,
 z5:=Tryz.sizeOf5,
 v5:=Tryz.zeroValue5,
 i5:=by kernel_rfl,
 t9:=Tryz.underlying9,
 a9:=Tryz.isAgg9,
 z9:=Tryz.sizeOf9,
 v9:=Tryz.zeroValue9,
 i9:=by kernel_rfl,
 t20:=Tryz.underlying20,
 a20:=Tryz.isAgg20,
 z20:=Tryz.sizeOf20,
 v20:=Tryz.zeroValue20,
 i20:=by kernel_rfl,
 t21:=Tryz.underlying21,
 a21:=Tryz.isAgg21,
 z21:=Tryz.sizeOf21,
 v21:=Tryz.zeroValue21,
 i21:=by kernel_rfl,
 t22:=Tryz.underlying166,
 a22:=Tryz.isAgg166,
 z22:=Tryz.sizeOf166,
 v22:=Tryz.zeroValue166,
 i22:=by kernel_rfl,
 t24:=Tryz.underlying133,
 a24:=Tryz.isAgg133,
 z24:=Tryz.sizeOf133,
 v24:=Tryz.zeroValue133,
 i24:=by kernel_rfl,
 t25:=Tryz.underlying192,
 a25:=Tryz.isAgg192,
 z25:=Tryz.sizeOf192,
 v25:=Tryz.zeroValue192,
 i25:=by kernel_rfl,
 t34:=Tryz.underlying205,
 a34:=Tryz.isAgg205,
 z34:=Tryz.sizeOf205,
 v34:=Tryz.zeroValue205,
 i34:=by kernel_rfl,
 c34:=by kernel_rfl,
 t36:=Tryz.underlying141,
 a36:=Tryz.isAgg141,
 z36:=Tryz.sizeOf141,
 v36:=Tryz.zeroValue141,
 i36:=by kernel_rfl,
 t37:=Tryz.underlying128,
 a37:=Tryz.isAgg128,
 z37:=Tryz.sizeOf128,
 v37:=Tryz.zeroValue128,
 i37:=by kernel_rfl,
 t39:=Tryz.underlying207,
 a39:=Tryz.isAgg207,
 z39:=Tryz.sizeOf207,
 v39:=Tryz.zeroValue207,
 i39:=by kernel_rfl,
 t44:=Tryz.underlying214,
 a44:=Tryz.isAgg214,
 z44:=Tryz.sizeOf214,
 v44:=Tryz.zeroValue214,
 i44:=by kernel_rfl,
 t47:=Tryz.underlying155,
 a47:=Tryz.isAgg155,
 z47:=Tryz.sizeOf155,
 v47:=Tryz.zeroValue155,
 i47:=by kernel_rfl,
 t48:=Tryz.underlying218,
 a48:=Tryz.isAgg218,
 z48:=Tryz.sizeOf218,
 v48:=Tryz.zeroValue218,
 i48:=by kernel_rfl,
 t50:=Tryz.underlying220,
 a50:=Tryz.isAgg220,
 z50:=Tryz.sizeOf220,
 v50:=Tryz.zeroValue220,
 i50:=by kernel_rfl,
 t52:=Tryz.underlying186,
 a52:=Tryz.isAgg186,
 z52:=Tryz.sizeOf186,
 v52:=Tryz.zeroValue186,
 i52:=by kernel_rfl,
 t55:=Tryz.underlying188,
 a55:=Tryz.isAgg188,
 z55:=Tryz.sizeOf188,
 v55:=Tryz.zeroValue188,
 i55:=by kernel_rfl,
 t59:=Tryz.underlying197,
 a59:=Tryz.isAgg197,
 z59:=Tryz.sizeOf197,
 v59:=Tryz.zeroValue197,
 i59:=by kernel_rfl,
 t60:=Tryz.underlying164,
 a60:=Tryz.isAgg164,
 z60:=Tryz.sizeOf164,
 v60:=Tryz.zeroValue164,
 i60:=by kernel_rfl,
 t61:=Tryz.underlying198,
 a61:=Tryz.isAgg198,
 z61:=Tryz.sizeOf198,
 t65:=Tryz.underlying210,
 a65:=Tryz.isAgg210,
 z65:=Tryz.sizeOf210,
 v65:=Tryz.zeroValue210,
 i65:=by kernel_rfl,
 t66:=Tryz.underlying211,
 a66:=Tryz.isAgg211,
 z66:=Tryz.sizeOf211,
 v66:=Tryz.zeroValue211,
 i66:=by kernel_rfl,
 t67:=Tryz.underlying136,
 a67:=Tryz.isAgg136,
 z67:=Tryz.sizeOf136,
 v67:=Tryz.zeroValue136,
 i67:=by kernel_rfl,
 g0:=by kernel_rfl,
 m0:=by kernel_rfl,
 g1:=by kernel_rfl,
 m1:=by kernel_rfl,
 g2:=by kernel_rfl,
 m2:=by kernel_rfl,
 g3:=by kernel_rfl,
 m3:=by kernel_rfl,
 g4:=by kernel_rfl,
 m4:=by kernel_rfl}
def Tryz.Cl:Go.Shelf.Ren:=⟨fun | 260=>152 | n=>n,fun | 9=>9 | 21=>21 | 3=>3 | 4=>4 | 5=>5 | 119=>199 | 0=>0 | 46=>141 | 139=>202 | 138=>201 | n=>n,fun | 3=>2 | 4=>3 | n=>n⟩
theorem Tryz.ajG:Go.Proofs.Lays.n260 Tryz.prog Tryz.Cl:={
 mixed:=by kernel_rfl,
 f260:=Tryz.func152.trans (congrArg some (by kernel_rfl)),
 t0:=Tryz.underlying0,
 a0:=Tryz.isAgg0,
 z0:=Tryz.sizeOf0,
 v0:=Tryz.zeroValue0,
 t3:=Tryz.underlying3,
 a3:=Tryz.isAgg3,
 z3:=Tryz.sizeOf3,
 v3:=Tryz.zeroValue3,
 t4:=Tryz.underlying4,
 a4:=Tryz.isAgg4,
 z4:=Tryz.sizeOf4,
 v4:=Tryz.zeroValue4,
 t5:=Tryz.underlying5,
 a5:=Tryz.isAgg5,
 z5:=Tryz.sizeOf5,
 v5:=Tryz.zeroValue5,
 t9:=Tryz.underlying9,
 a9:=Tryz.isAgg9,
 z9:=Tryz.sizeOf9,
 v9:=Tryz.zeroValue9,
 t21:=Tryz.underlying21,
 a21:=Tryz.isAgg21,
 z21:=Tryz.sizeOf21,
 v21:=Tryz.zeroValue21,
 t46:=Tryz.underlying141,
 a46:=Tryz.isAgg141,
 z46:=Tryz.sizeOf141,
 v46:=Tryz.zeroValue141,
 t119:=Tryz.underlying199,
 a119:=Tryz.isAgg199,
 z119:=Tryz.sizeOf199,
 t138:=Tryz.underlying201,
 a138:=Tryz.isAgg201,
 z138:=Tryz.sizeOf201,
 v138:=Tryz.zeroValue201,
 t139:=Tryz.underlying202,
 a139:=Tryz.isAgg202,
 z139:=Tryz.sizeOf202,
 v139:=Tryz.zeroValue202,
 g3:=by kernel_rfl,
 g4:=by kernel_rfl}
end
section
open Go a7 Go.RowKit
section
open Go.Shelf
theorem acC (s:ByteArray) (w:World) (dz:Lib.Utf8Tabs 2 3 w):
 Calls Tryz.prog 137 #[.string s] w fun e ao=>e=.returned (.tuple #[.int .i32 (Lib.decodeGo s).1,.int .i64 (Lib.decodeGo s).2])/\Below w.heap.size w ao:=Any.utf8_DecodeRuneInString Tryz.ajE s w dz
theorem Z1 (s:ByteArray) (n:Int) (ay:s.size<=18) (h:Lib.atoi s.data.toList=some n) (w:World):
 Calls Tryz.prog 166 #[.string s] w fun e ao=>e=.returned (.tuple #[.int .i64 n,.nilIface])/\Below w.heap.size w ao:=(Any.strconv_Atoi Tryz.ajC s n ay h w).mono fun e ao q=>⟨q.1,by obtain ⟨t,rfl⟩:=q.2;exact Lib.bytesWorld_below _ _ _⟩
theorem alK (s:ByteArray) (yT:s.size<=9223372036854775806) (u:Nat) (h:Lib.parseUintB 64 s.data.toList=.ok u) (w:World):
 Calls Tryz.prog 155 #[.string s,.int .i64 10,.int .i64 64] w fun e ao=>e=.returned (.tuple #[.int .u64 u,.nilIface])/\Below w.heap.size w ao:=(Any.strconv_ParseUint_10_at64_ok Tryz.T' s yT u h w).mono fun e ao q=>⟨q.1,by
  rcases q.2 with rfl | rfl
  . exact Below.refl _ _
  . exact Lib.bytesWorld_below _ _ _⟩
theorem alM (s:ByteArray) (wA:s.size<=281474976710656) (h:Lib.parseUintB 64 s.data.toList=.range) (w:World) (he:xQ w 7):
 Calls Tryz.prog 155 #[.string s,.int .i64 10,.int .i64 64] w fun e ao=>(∃p,e=.returned (.tuple #[.int .u64 18446744073709551615,.iface (Tryz.Lu.t 39) p]))/\Below w.heap.size w ao:=by
 obtain ⟨aT,aa,ad⟩:=he;refine (Any.strconv_ParseUint_10_at64_range Tryz.T' s wA h aT w aa ad).mono fun e ao q=>?_;obtain ⟨N,aJ,_,_,dH⟩:=q;exact ⟨⟨_,aJ⟩,dH⟩
end
theorem Cg {f:FuncId} (aZ:Nat.beq f dC=false) {args:List V} {v:V} {h:ai} (kD:∃fn,Tryz.prog.funcs[f]? =some fn/\fn.body.isSome=true) (H:∀E xs w,HW w->bk E args xs->Calls Tryz.prog f xs.toArray w fun e ao=>∃x,e=.returned x/\Rel E v x/\Below w.heap.size w ao):gv Tryz.prog f args h v h:=by refine ⟨fun e=>by subst e;simp at aZ,.inl ⟨kD,fun az E w xs ak s=>?_⟩⟩;refine (H E xs w (Lay.gT s.laid s.frame) ak).mono fun e ao q=>?_;obtain ⟨x,rfl,bh,ae⟩:=q;exact ⟨E,x,rfl,fun _ _ q=>q,bh,s.below ae⟩
theorem acA (s:List UInt8) (h:ai):gv Tryz.prog 137 [.str s] h (.tuple [.int .i32 (Lib.decodeGo ⟨⟨s⟩⟩).1,.int .i64 (Lib.decodeGo ⟨⟨s⟩⟩).2]) h:=by refine Cg (by decide) ⟨_,Tryz.func137,by kernel_rfl⟩ fun E xs w ay ak=>?_;obtain ⟨y,cY,rfl,ar,rfl⟩:=ak;simp only [Rel] at ar;subst ar;refine (acC ⟨⟨s⟩⟩ w ay.XK).mono fun e ao q=>?_;obtain ⟨rfl,ae⟩:=q;refine ⟨_,rfl,?_,ae⟩;simp only [Rel];exact ⟨_,rfl,_,_,rfl,rfl,_,_,rfl,rfl,rfl⟩
theorem acg (s sub:List UInt8) (aR:s.length<=100000) (h:ai):gv Tryz.prog 159 [.str s,.str sub] h (.bool (Lib.contains s sub)) h:=by refine Cg (by decide) ⟨_,Tryz.func159,by kernel_rfl⟩ fun E xs w ay ak=>?_;obtain ⟨y,cY,rfl,ar,z,fA,rfl,av,rfl⟩:=ak;simp only [Rel] at ar av;subst ar av;obtain ⟨m,hm⟩:=ay.maxLen;refine (Q_ ⟨⟨s⟩⟩ ⟨⟨sub⟩⟩ m w (by show s.length<4294967281;omega) hm).mono fun e ao q=>?_;obtain ⟨rfl,rfl⟩:=q;refine ⟨_,rfl,?_,Below.refl _ _⟩;simp only [Rel]
theorem Z0 (s:List UInt8) (n:Int) (ay:s.length<=18) (h:Lib.atoi s=some n) (ag:ai):gv Tryz.prog 166 [.str s] ag (.tuple [.int .i64 n,.nilIface]) ag:=by refine Cg (by decide) ⟨_,Tryz.func166,by kernel_rfl⟩ fun E xs w rb ak=>?_;obtain ⟨y,cY,rfl,ar,rfl⟩:=ak;simp only [Rel] at ar;subst ar;refine (Z1 ⟨⟨s⟩⟩ n ay h w).mono fun e ao q=>?_;obtain ⟨rfl,ae⟩:=q;refine ⟨_,rfl,?_,ae⟩;simp only [Rel];exact ⟨_,rfl,_,_,rfl,rfl,_,_,rfl,rfl,rfl⟩
theorem alJ (s:List UInt8) (u:Nat) (ay:s.length<=100000) (h:Lib.parseUintB 64 s=.ok u) (ag:ai):gv Tryz.prog 155 [.str s,.int .i64 10,.int .i64 64] ag (.tuple [.int .u64 u,.nilIface]) ag:=by refine Cg (by decide) ⟨_,Tryz.func155,by kernel_rfl⟩ fun E xs w rb ak=>?_;obtain ⟨y,cY,rfl,ar,z,fA,rfl,av,t,cQ,rfl,aK,rfl⟩:=ak;simp only [Rel] at ar av aK;subst ar av aK;refine (alK ⟨⟨s⟩⟩ (by show s.length<=9223372036854775806;omega) u h w).mono fun e ao q=>?_;obtain ⟨rfl,ae⟩:=q;refine ⟨_,rfl,?_,ae⟩;simp only [Rel];exact ⟨_,rfl,_,_,rfl,rfl,_,_,rfl,rfl,rfl⟩
def ac6:TypeId:=Tryz.Lu.t 39
theorem alL (s:List UInt8) (ay:s.length<=100000) (h:Lib.parseUintB 64 s=.range) (ag:ai):gv Tryz.prog 155 [.str s,.int .i64 10,.int .i64 64] ag (.tuple [.int .u64 18446744073709551615,.iface ac6 .bad]) ag:=by refine Cg (by decide) ⟨_,Tryz.func155,by kernel_rfl⟩ fun E xs w rb ak=>?_;obtain ⟨y,cY,rfl,ar,z,fA,rfl,av,t,cQ,rfl,aK,rfl⟩:=ak;simp only [Rel] at ar av aK;subst ar av aK;refine (alM ⟨⟨s⟩⟩ (by show s.length<=281474976710656;omega) h w rb.RR).mono fun e ao q=>?_;obtain ⟨⟨p,rfl⟩,ae⟩:=q;refine ⟨_,rfl,?_,ae⟩;simp only [Rel];exact ⟨_,rfl,_,_,rfl,rfl,_,_,rfl,⟨p,rfl,trivial⟩,rfl⟩
end
section
open Go a7
def nd (s:List UInt8) (i:Nat):Nat:=if decodeL s i=(65533,1) then 0 else (decodeL s i).2
def s_:Nat->List UInt8->Nat->Nat
 | 0,s,_=>s.length
 | f+1,s,a=>if a<s.length then (if nd s a=0 then a else s_ f s (a+nd s a)) else s.length
def rM (s:List UInt8) (a:Nat):Nat:=s_ (s.length-a) s a
def uU (s:List UInt8):Nat:=rM s 0
theorem Wp (s:List UInt8):∀(f g a:Nat),s.length-a<=f->s.length-a<=g->s_ f s a=s_ g s a
 | 0,g,a,aa,ad=>by
   cases g with
   | zero=>rfl
   | succ g=>simp only [s_];rw [if_neg (by omega)]
 | f+1,0,a,aa,ad=>by simp only [s_];rw [if_neg (by omega)]
 | f+1,g+1,a,aa,ad=>by
   simp only [s_];by_cases a1:a<s.length
   . rw [if_pos a1,if_pos a1];by_cases aD:nd s a=0
     . rw [if_pos aD,if_pos aD]
     . rw [if_neg aD,if_neg aD];exact Wp s f g _ (by omega) (by omega)
   . rw [if_neg a1,if_neg a1]
theorem Wo {s:List UInt8} {a:Nat} (h:s.length<=a):rM s a=s.length:=by unfold rM;rw [show s.length-a=0 from by omega];rfl
theorem amA {s:List UInt8} {a:Nat} (h:a<s.length) (aD:nd s a=0):rM s a=a:=by unfold rM;rw [show s.length-a=s.length-a-1+1 from by omega,s_,if_pos h,if_pos aD]
theorem MM {s:List UInt8} {a:Nat} (h:a<s.length) (aD:nd s a≠0):rM s a=rM s (a+nd s a):=by unfold rM;rw [show s.length-a=s.length-a-1+1 from by omega,s_,if_pos h,if_neg aD];exact Wp s _ _ _ (by omega) (by omega)
def fE (c:UInt8):Bool:=nf c.toNat
def fH (c:UInt8):Bool:=uA c.toNat
def jE (l:List UInt8):Nat:=l.foldl (fun n c=>10 * n + (c.toNat-48)) 0
abbrev tA:=Except Int (Int × Int × List UInt8 × Nat)
def zy (r:List UInt8):tA:=
 let t:=r.takeWhile fE
 if 2147483647<jE t then .error 254 else .ok (1,(if 1073741823 < (jE t:Int) then (jE t:Int)-2147483648 else jE t),[],t.length)
def p0:List UInt8->Option (UInt8 × Nat)
 | []=>none
 | c::r=>if c=110 then some (10,1) else if c=116 then some (9,1) else if c=34 then some (34,1) else if c=92 then some (92,1) else
   if 2<=r.length/\fE c/\fE (r[0]?.getD 0)/\fE (r[1]?.getD 0)/\jE (c::r.take 2)<256 then some ((jE (c::r.take 2)).toUInt8,3) else none
def xz:Nat->List UInt8->Option (List UInt8 × Nat)
 | 0,_=>none
 | _+1,[]=>none
 | f+1,c::r=>if c=34 then some ([],1) else if c=92 then (match p0 r with
    | none=>none
    | some (b,n)=>(xz f (r.drop n)).map fun q=>(b::q.1,q.2+n+1))
   else if c<32\/c=127 then none else (xz f r).map fun q=>(c::q.1,q.2+1)
def qC (r:List UInt8):Option (List UInt8 × Nat):=xz r.length r
def tf (r:List UInt8):tA:=
 match qC r with
 | none=>.error 252
 | some (b,n)=>if 4096<b.length then .error 255 else .ok (2,0,b,n+1)
def ux:List (List UInt8):=[[97,110,100],[98,101,103,105,110],[101,108,115,101],[101,110,100],[101,120,99,101,112,116,105,111,110],[102,97,108,115,101],[102,117,110],[105,102],[105,110],[108,101,116],[109,97,116,99,104],[109,111,100],[111,102],[114,97,105,115,101],[114,101,99],[116,104,101,110],[116,114,117,101],[116,114,121],[116,121,112,101],[119,105,116,104]]
def j':List (List UInt8):=[[59,59],[58,61],[45,62],[60,61],[59],[40],[41],[44],[61],[60],[43],[45],[42],[47],[124],[33],[95]]
def pn (t:List UInt8):Bool:=ux.contains t
def kI (kind:Int) (r:List UInt8):tA:=
 let t:=r.takeWhile fH
 if kind=3/\t=[95] then .ok (7,0,t,t.length) else if kind=3/\pn t then .ok (6,0,t,t.length) else if 64<t.length then .error 255 else .ok (kind,0,t,t.length)
def zU (r:List UInt8):tA:=
 match j'.find? (·.isPrefixOf r) with
 | some t=>.ok (7,0,t,t.length)
 | none=>.error 251
def mw:List UInt8->Bool
 | d::_=>hN d.toNat
 | []=>false
def hf:List UInt8->tA
 | []=>.error 0
 | c::r=>if fE c then zy (c::r) else if c=34 then tf r else if hN c.toNat||c=95 then kI 3 (c::r) else if nj c.toNat then kI 4 (c::r) else
   if c=39/\mw r then (kI 5 r).map fun q=>(q.1,q.2.1,q.2.2.1,q.2.2.2+1) else zU (c::r)
structure cA where
 kind:Int
 num:Int
 pos:Nat
 text:List UInt8
deriving DecidableEq
def blank (c:UInt8):Bool:=c=9||c=10||c=13||c=32
def A3 (w:cA):Except (Int × Nat) (List cA)->Except (Int × Nat) (List cA)
 | .ok ws=>.ok (w::ws)
 | .error e=>.error e
def oD:Nat->List UInt8->Nat->Except (Int × Nat) (List cA)
 | 0,_,_=>.ok []
 | _+1,[],_=>.ok []
 | f+1,c::r,p=>if blank c then oD f r (p+1) else if ([40,42]:List UInt8).isPrefixOf (c::r) then (match iW (c::r) 0 with
    | none=>.error (253,p)
    | some n=>oD f ((c::r).drop n) (p+n))
   else match hf (c::r) with
    | .error e=>.error (e,p)
    | .ok q=>A3 ⟨q.1,q.2.1,p,q.2.2.1⟩ (oD f ((c::r).drop q.2.2.2) (p+q.2.2.2))
def ru (r:List UInt8) (p:Nat):Except (Int × Nat) (List cA):=oD r.length r p
def oE (s:List UInt8):Except (Int × Nat) (List cA):=
 if 65536<s.length then .error (3,0) else if uU s<s.length then .error (250,uU s) else ru s 0
theorem Nh {p:UInt8->Bool} {c:UInt8} {r:List UInt8} (h:p c=true):1<=((c::r).takeWhile p).length:=by simp only [List.takeWhile_cons,h,if_true,List.length_cons];omega
theorem am8 {t:List UInt8} (h:t ∈ j'):1<=t.length:=by revert t;decide
theorem MX {c:UInt8} (h:hN c.toNat=true):fH c=true:=by unfold fH uA;rw [h];simp
theorem Sk {c:UInt8} (h:nj c.toNat=true):fH c=true:=by unfold fH uA;rw [h];simp
theorem XC {c:UInt8} (h:c=95):fH c=true:=by subst h;decide
theorem UR {k:Int} {r:List UInt8} {q:Int × Int × List UInt8 × Nat} (h:kI k r=.ok q):q.2.2.2=(r.takeWhile fH).length:=by
 unfold kI at h;simp only at h
 split at h
 . cases h;rfl
 . split at h
   . cases h;rfl
   . split at h
     . cases h
     . cases h;rfl
theorem LQ {r:List UInt8} {q:Int × Int × List UInt8 × Nat} (h:hf r=.ok q):1<=q.2.2.2:=by
 match r,h with
 | c::r,h=>
   simp only [hf] at h
   split at h
   . rename_i bc;unfold zy at h;simp only at h
     split at h
     . cases h
     . cases h;exact Nh bc
   . split at h
     . unfold tf at h
       split at h
       . cases h
       . split at h
         . cases h
         . cases h;simp only;omega
     . split at h
       . rename_i aR;rw [UR h];simp only [Bool.or_eq_true,decide_eq_true_eq] at aR;exact Nh (aR.elim MX XC)
       . split at h
         . rename_i aR;rw [UR h];exact Nh (Sk aR)
         . split at h
           . cases aV:kI 5 r with
             | error e=>rw [aV] at h;cases h
             | ok ec=>rw [aV] at h;cases h;simp only;omega
           . unfold zU at h
             split at h
             . rename_i t aw;cases h;exact am8 (List.mem_of_find?_eq_some aw)
             . cases h
theorem Gp:∀{r:List UInt8} {d:Int} {n:Nat},iW r d=some n->2<=n
 | [],d,n,h=>by simp [iW] at h
 | [_],d,n,h=>by simp [iW] at h
 | x::y::r,d,n,h=>by
   rw [iW] at h
   split at h
   . cases aC:iW r (d+1) with
     | none=>rw [aC] at h;cases h
     | some m=>rw [aC] at h;cases h;simp only;omega
   . split at h
     . split at h
       . cases h;omega
       . cases aC:iW r (d-1) with
         | none=>rw [aC] at h;cases h
         | some m=>rw [aC] at h;cases h;simp only;omega
     . cases aC:iW (y::r) d with
       | none=>rw [aC] at h;cases h
       | some m=>rw [aC] at h;cases h;have:=Gp aC;simp only;omega
theorem Co:∀(f g:Nat) (r:List UInt8) (p:Nat),r.length<=f->r.length<=g->oD f r p=oD g r p
 | 0,g,r,p,aa,ad=>by have:r=[]:=List.length_eq_zero_iff.1 (by omega);subst this;cases g<;>rfl
 | f+1,0,r,p,aa,ad=>by have:r=[]:=List.length_eq_zero_iff.1 (by omega);subst this;rfl
 | f+1,g+1,[],p,aa,ad=>rfl
 | f+1,g+1,c::r,p,aa,ad=>by
   simp only [List.length_cons] at aa ad;simp only [oD]
   split
   . exact Co f g _ _ (by omega) (by omega)
   . split
     . split
       . rfl
       . rename_i n aV;have:=Gp aV;exact Co f g _ _ (by rw [List.length_drop,List.length_cons];omega) (by rw [List.length_drop,List.length_cons];omega)
     . split
       . rfl
       . rename_i q aC;have:=LQ aC;rw [Co f g _ _ (by rw [List.length_drop,List.length_cons];omega) (by rw [List.length_drop,List.length_cons];omega)]
theorem Up (c:UInt8) (r:List UInt8) (p:Nat):ru (c::r) p=if blank c then ru r (p+1) else if ([40,42]:List UInt8).isPrefixOf (c::r) then (match iW (c::r) 0 with
 | none=>.error (253,p)
 | some n=>ru ((c::r).drop n) (p+n))
 else match hf (c::r) with
  | .error e=>.error (e,p)
  | .ok q=>A3 ⟨q.1,q.2.1,p,q.2.2.1⟩ (ru ((c::r).drop q.2.2.2) (p+q.2.2.2)):=by
 unfold ru;simp only [List.length_cons,oD]
 split
 . rfl
 . split
   . split
     . rfl
     . rename_i n aV;have:=Gp aV;exact Co _ _ _ _ (by rw [List.length_drop,List.length_cons];omega) (Nat.le_refl _)
   . split
     . rfl
     . rename_i q aC;have:=LQ aC;rw [Co _ _ _ _ (by rw [List.length_drop,List.length_cons];omega) (Nat.le_refl _)]
theorem Nn:∀(f g:Nat) (r:List UInt8),r.length<=f->r.length<=g->xz f r=xz g r
 | 0,g,r,aa,ad=>by have:r=[]:=List.length_eq_zero_iff.1 (by omega);subst this;cases g<;>rfl
 | f+1,0,r,aa,ad=>by have:r=[]:=List.length_eq_zero_iff.1 (by omega);subst this;rfl
 | f+1,g+1,[],aa,ad=>rfl
 | f+1,g+1,c::r,aa,ad=>by
   simp only [List.length_cons] at aa ad;simp only [xz]
   split
   . rfl
   . split
     . split
       . rfl
       . rw [Nn f g _ (by rw [List.length_drop];omega) (by rw [List.length_drop];omega)]
     . split
       . rfl
       . rw [Nn f g _ (by omega) (by omega)]
theorem anV:qC []=none:=rfl
theorem anU (c:UInt8) (r:List UInt8):qC (c::r)=if c=34 then some ([],1) else if c=92 then (match p0 r with
 | none=>none
 | some (b,n)=>(qC (r.drop n)).map fun q=>(b::q.1,q.2+n+1))
 else if c<32\/c=127 then none else (qC r).map fun q=>(c::q.1,q.2+1):=by
 unfold qC;simp only [List.length_cons,xz]
 split
 . rfl
 . split
   . split
     . rfl
     . rw [Nn _ _ _ (by rw [List.length_drop];omega) (Nat.le_refl _)]
   . rfl
theorem R_:∀(l:List UInt8) (a:Nat),a<=l.foldl (fun n c=>10 * n + (c.toNat-48)) a
 | [],a=>Nat.le_refl _
 | c::l,a=>by simp only [List.foldl_cons];exact Nat.le_trans (by omega) (R_ l _)
def tV (a:Nat) (l:List UInt8):Nat:=l.foldl (fun n c=>10 * n + (c.toNat-48)) a
theorem adC (a:Nat) (c:UInt8) (l:List UInt8):tV a (c::l)=tV (10 * a + (c.toNat-48)) l:=by unfold tV;rw [List.foldl_cons]
theorem alI (M:Nat) (dE:M<18446744073709551620) (l:List UInt8):∀(a:Nat),(∀c ∈ l,fE c=true)->(tV a l<=M->Lib.parseUintM M a l=.ok (tV a l))/\(a<=M->¬tV a l<=M->Lib.parseUintM M a l=.range):=by
 induction l with
 | nil=>
   intro a _;refine ⟨fun _=>?_,fun aa ad=>absurd aa ad⟩;simp only [Lib.parseUintM,tV,List.foldl_nil]
 | cons c l agM=>
   intro a h;have aD:=h c (List.mem_cons_self ..);simp only [fE,nf,Bool.and_eq_true,decide_eq_true_eq] at aD;have aeH:48<=c.toNat/\c.toNat<=57:=by omega
   have br:=agM (10 * a + (c.toNat-48)) (fun x ak=>h x (List.mem_cons_of_mem _ ak));have hm:10 * a + (c.toNat-48)<=tV (10 * a + (c.toNat-48)) l:=R_ l (10 * a + (c.toNat-48));simp only [Lib.parseUintM,aeH,and_self,if_true];rw [Nat.mul_comm a 10,adC];have nk:10 * a<=10 * a + (c.toNat-48):=Nat.le_add_right _ _;generalize 10 * a + (c.toNat-48)=A at br hm nk ⊢;refine ⟨fun aO=>?_,fun a1 jt=>?_⟩
   . rw [if_neg (by omega),if_neg (by omega)];exact br.1 aO
   . by_cases aa:1844674407370955162<=a
     . rw [if_pos aa]
     . rw [if_neg aa];by_cases ad:M<A
       . rw [if_pos ad]
       . rw [if_neg ad];exact br.2 (by omega) jt
theorem alH (l:List UInt8) (h:∀c ∈ l,fE c=true) (ay:l≠[]):(jE l<=18446744073709551615->Lib.parseUintB 64 l=.ok (jE l))/\(¬jE l<=18446744073709551615->Lib.parseUintB 64 l=.range):=by unfold Lib.parseUintB;rw [if_neg ay,show (2 ^ 64-1:Nat)=18446744073709551615 from by decide];have:=alI 18446744073709551615 (by omega) l 0 h;exact ⟨this.1,this.2 (Nat.zero_le _)⟩
structure oY (s:List UInt8) (p:Nat) (b:aQ) (h:ai) (res:tA) (x:V) (ab:ai):Prop where
 mod:Mod (fun q=>q=b) h ab
 res:∃k n t,x=.agg [.int .i64 k,.int .i64 n,.int .i64 0,.str t]/\match res with
  | .ok q=>k=q.1/\n=q.2.1/\t=q.2.2.1/\ab.get b=fy s ((p+q.2.2.2:Nat):Int) 0/\p+q.2.2.2<=s.length
  | .error e=>e≠0/\∃bu:Int,ab.get b=fy s bu e
theorem LP {P:Program}:(eG.jT true 5).run P .nilIface .nilIface=some (.bool false):=rfl
theorem akC {P:Program} (T:TypeId) (x:V):(eG.jT true 5).run P (.iface T x) .nilIface=some (.bool true):=rfl
theorem Xn {p:UInt8->Bool} {l:List UInt8}:∀c ∈ l.takeWhile p,p c=true:=fun c aD=>by
 induction l with
 | nil=>simp at aD
 | cons x l br=>
   simp only [List.takeWhile_cons] at aD
   split at aD
   . rename_i ak;rcases List.mem_cons.1 aD with rfl | aD
     . exact ak
     . exact br aD
   . simp at aD
theorem Xo (p:UInt8->Bool) (s:List UInt8) (a:Nat):((s.drop a).takeWhile p).length<=s.length-a:=by have:=Xp p (s.drop a);rwa [List.length_drop] at this
theorem akV (s:List UInt8) (a0:Nat) (b:aQ) (h:ai) (ae:h.get b=fy s a0 0) (aX:a0<s.length) (aR:s.length<=100000) (g_:Old h b) (bc:fE s[a0]=true):
 db Tryz.prog 141 [.ptr b 0] h (oY s a0 b h (zy (s.drop a0))):=by
 refine aaM.z rfl (dB ?_);unfold P1;have cd:(b=aj h.next)=False:=Cz g_ (Nat.le_refl _);have de:(aj h.next=b)=False:=by rw [<-cd];exact propext eq_comm
 simp +contextual only [ae,cd,de,↓al,aE,simprocAttr];have ak:Ext h (h.new (.bC [.int .i64 0,.int .i64 0,.int .i64 0,.str []] 0 false)):=(Ext.refl h).new _;refine cz (Wx s a0 0 b 140 nf _ (by rw [ak.get _ g_,ae]) (by omega) aR (by decide) (fun c h=>yi c h)) ?_;rintro x aa ⟨rfl,hm,aB⟩;have hD:(fun c:UInt8=>nf (c.toNat:Int))=fE:=rfl;rw [hD] at aB ⊢;have qb:Mod (fun q=>q=b) h aa:=(ak.mod _).trans hm;have g1:aa.get (aj h.next)=.bC [.int .i64 0,.int .i64 0,.int .i64 0,.str []] 0 false:=by rw [hm.get _ (gi (by rw [gN];omega)) (by rw [de];exact id)];simp only [↓al,aE,simprocAttr]
 have cl:(s.drop a0).takeWhile fE≠[]:=by rw [drop_cons aX,List.takeWhile_cons,bc];simp
 have hlen:=Xo fE s a0;have ag:=alH ((s.drop a0).takeWhile fE) Xn cl;unfold fy at aB;have BH:zy (s.drop a0)=if 2147483647<jE ((s.drop a0).takeWhile fE) then .error 254 else .ok (1,(if 1073741823 < (jE ((s.drop a0).takeWhile fE):Int) then (jE ((s.drop a0).takeWhile fE):Int)-2147483648 else jE ((s.drop a0).takeWhile fE)),[],((s.drop a0).takeWhile fE).length):=rfl;rw [BH];generalize (s.drop a0).takeWhile fE=t at *;simp +contextual only [↓al,aE,simprocAttr];by_cases Bq:jE t<=18446744073709551615
 . refine gR (alJ t (jE t) (by omega) (ag.1 Bq) aa) ?_;generalize jE t=u at *;by_cases JL:(2147483647:Int) < (u:Int)
   . have yA:2147483647<u:=by omega
     simp +contextual only [LP,JL,g1,aB,cd,de,↓al,aE,simprocAttr];refine ⟨(qb.set (fun _=>rfl) _).set (fun q=>absurd (show cI (aj h.next)<h.next from q) (by rw [cc];omega)) _,?_⟩;rw [if_pos yA];refine ⟨_,_,_,rfl,by decide,((a0+t.length:Nat):Int),?_⟩;simp only [fy,cd,de,↓al,aE,simprocAttr]
   . have yA:¬2147483647<u:=by omega
     have b2:IntKind.i64.wrap (u:Int)=(u:Int):=wrap_i64 (by omega) (by omega);have b0:IntKind.i64.wrap ((u:Int)-2147483648)=(u:Int)-2147483648:=wrap_i64 (by omega) (by omega);by_cases Sq:(1073741823:Int) < (u:Int)
     . simp +contextual only [LP,JL,yA,Sq,g1,aB,cd,de,b2,b0,↓al,aE,simprocAttr];refine ⟨(qb.set (fun q=>absurd (show cI (aj h.next)<h.next from q) (by rw [cc];omega)) _),?_⟩;refine ⟨_,_,_,rfl,rfl,rfl,rfl,?_,by show a0+t.length<=s.length;omega⟩;simp only [fy,aB,cd,de,↓al,aE,simprocAttr]
     . simp +contextual only [LP,JL,yA,Sq,g1,aB,cd,de,b2,b0,↓al,aE,simprocAttr];refine ⟨(qb.set (fun q=>absurd (show cI (aj h.next)<h.next from q) (by rw [cc];omega)) _),?_⟩;refine ⟨_,_,_,rfl,rfl,rfl,rfl,?_,by show a0+t.length<=s.length;omega⟩;simp only [fy,aB,cd,de,↓al,aE,simprocAttr]
 . refine gR (alL t (by omega) (ag.2 Bq) aa) ?_;have yA:2147483647<jE t:=by omega
   rw [if_pos yA];simp +contextual only [akC,g1,aB,cd,de,↓al,aE,simprocAttr];refine ⟨(qb.set (fun _=>rfl) _).set (fun q=>absurd (show cI (aj h.next)<h.next from q) (by rw [cc];omega)) _,?_⟩;refine ⟨_,_,_,rfl,by decide,((a0+t.length:Nat):Int),?_⟩;simp only [fy,cd,de,↓al,aE,simprocAttr]
theorem Xz (c:UInt8):((c.toNat:Int)).toNat.toUInt8=c:=by rw [Int.toNat_natCast];simp
theorem xC (c:UInt8) (n:Nat) (aV:n<256):((c.toNat:Int)=(n:Int))=(c=n.toUInt8):=by
 apply propext;constructor
 . intro q;have:c.toNat=n:=by omega
   rw [<-UInt8.toNat_inj,this];simp;omega
 . intro q;subst q;simp;omega
theorem ac9 (c:UInt8):Lib.indexByte [110,116,34,92] c=if c=110 then 0 else if c=116 then 1 else if c=34 then 2 else if c=92 then 3 else -1:=by
 simp only [Lib.indexByte,beq_iff_eq];by_cases aa:c=110
 . subst aa;decide
 . by_cases ad:c=116
   . subst ad;decide
   . by_cases aJ:c=34
     . subst aJ;decide
     . by_cases bE:c=92
       . subst bE;decide
       . have aP:¬(110:UInt8)=c:=fun q=>aa q.symm;have a':¬(116:UInt8)=c:=fun q=>ad q.symm;have cM:¬(34:UInt8)=c:=fun q=>aJ q.symm;have fM:¬(92:UInt8)=c:=fun q=>bE q.symm;simp only [aa,ad,aJ,bE,aP,a',cM,fM,if_false];rfl
theorem Jc {c:UInt8} (h:fE c=true):Lib.digitVal c=some (c.toNat-48):=by unfold Lib.digitVal;unfold fE nf at h;simp only [Bool.and_eq_true,decide_eq_true_eq] at h;rw [if_pos (by omega)]
theorem ZZ {a b c:UInt8} (aa:fE a=true) (ad:fE b=true) (aJ:fE c=true):Lib.atoi [a,b,c]=some ((jE [a,b,c]:Nat):Int):=by
 have a1:=aa;unfold fE nf at a1;simp only [Bool.and_eq_true,decide_eq_true_eq] at a1;have cS:(a == 45)=false:=by rw [beq_eq_false_iff_ne];rintro rfl;revert a1;decide
 have fP:(a == 43)=false:=by rw [beq_eq_false_iff_ne];rintro rfl;revert a1;decide
 simp [Lib.atoi,cS,fP,Lib.decNat,Lib.decFrom,Jc aa,Jc ad,Jc aJ,jE];omega
theorem ac' (s:List UInt8) (a0:Nat) (b:aQ) (h:ai) (ae:h.get b=fy s a0 0) (aX:a0<s.length) (aR:s.length<=100000) (g_:Old h b):
 db Tryz.prog 157 [.ptr b 0] h fun x ab=>Mod (fun q=>q=b) h ab/\match p0 (s.drop (a0+1)) with
  | some (c,n)=>x=.int .u8 (c.toNat:Int)/\ab.get b=fy s ((a0+1+n:Nat):Int) 0/\a0+1+n<=s.length
  | none=>x=.int .u8 0/\ab.get b=fy s ((a0+1:Nat):Int) 252:=by
 refine aaV.z rfl (dB ?_);unfold Qb;unfold fy at ae ⊢;have b2:IntKind.i64.wrap ((a0:Int)+1)=((a0+1:Nat):Int):=by rw [wrap_i64 (by omega) (by omega)];rfl
 have f0:(0<=((a0+1:Nat):Int))=True:=eq_true (by omega);have f1:(((a0+1:Nat):Int)<=(s.length:Int))=True:=eq_true (by omega);have wz:(s.drop (a0+1)).length=s.length - (a0+1):=List.length_drop;have z0:((0:Int)<=0)=True:=eq_true (by omega);have ps:∀v,a7.Mod (fun q=>q=b) h ((h.set b v)):=fun v=>(Mod.refl (fun q=>q=b) h).set (fun _=>rfl) _;cases cN:s.drop (a0+1) with
 | nil=>
   simp +contextual only [ae,b2,f0,f1,Int.toNat_natCast,cN,List.length_nil,Int.natCast_zero,↓al,aE,simprocAttr];refine ⟨(ps _).set (fun _=>rfl) _,?_⟩;simp only [p0,dy,if_true,true_and]
 | cons c r=>
   rw [cN] at wz;rw [List.length_cons] at wz;have c0:(c::r=[])=False:=eq_false (by simp);have f2:((0:Int) < ((r.length+1:Nat):Int))=True:=eq_true (by omega);simp +contextual only [ae,b2,f0,f1,f2,c0,Int.toNat_natCast,cN,Int.reduceToNat,z0,↓al,aE,simprocAttr];refine gR (TJ _ _ _) ?_;rw [Xz,ac9];have b0:IntKind.i64.wrap (((a0+1:Nat):Int)+1)=((a0+2:Nat):Int):=by rw [wrap_i64 (by omega) (by omega)];omega
   by_cases bP:c=110
   . subst bP;simp +contextual only [ae,b2,b0,f0,f1,f2,c0,Int.toNat_natCast,cN,Int.reduceToNat,z0,List.length_cons,List.length_nil,Nat.reduceAdd,Int.reduceLT,Int.cast_ofNat_Int,↓al,aE,simprocAttr];refine ⟨(ps _).set (fun _=>rfl) _,rfl,?_⟩;simp only [dy,if_true];refine ⟨trivial,by omega⟩
   by_cases bY:c=116
   . subst bY;simp +contextual only [ae,b2,b0,f0,f1,f2,c0,Int.toNat_natCast,cN,Int.reduceToNat,z0,List.length_cons,List.length_nil,Nat.reduceAdd,Int.reduceLT,Int.cast_ofNat_Int,bP,↓al,aE,simprocAttr];refine ⟨(ps _).set (fun _=>rfl) _,rfl,?_⟩;simp only [dy,if_true];refine ⟨trivial,by omega⟩
   by_cases c3:c=34
   . subst c3;simp +contextual only [ae,b2,b0,f0,f1,f2,c0,Int.toNat_natCast,cN,Int.reduceToNat,z0,List.length_cons,List.length_nil,Nat.reduceAdd,Int.reduceLT,Int.cast_ofNat_Int,bP,bY,↓al,aE,simprocAttr];refine ⟨(ps _).set (fun _=>rfl) _,rfl,?_⟩;simp only [dy,if_true];refine ⟨trivial,by omega⟩
   by_cases eV:c=92
   . subst eV;simp +contextual only [ae,b2,b0,f0,f1,f2,c0,Int.toNat_natCast,cN,Int.reduceToNat,z0,List.length_cons,List.length_nil,Nat.reduceAdd,Int.reduceLT,Int.cast_ofNat_Int,bP,bY,c3,↓al,aE,simprocAttr];refine ⟨(ps _).set (fun _=>rfl) _,rfl,?_⟩;simp only [dy,if_true];refine ⟨trivial,by omega⟩
   match r,cN,wz,f2,c0 with
   | [],cN,wz,f2,c0=>
     simp +contextual only [ae,b2,b0,f0,f1,f2,c0,Int.toNat_natCast,cN,Int.reduceToNat,z0,List.length_cons,List.length_nil,Nat.reduceAdd,Int.reduceLT,Int.cast_ofNat_Int,bP,bY,c3,eV,↓al,aE,simprocAttr];refine ⟨(ps _).set (fun _=>rfl) _,?_⟩;simp [p0,bP,bY,c3,eV,dy]
   | [_],cN,wz,f2,c0=>
     simp +contextual only [ae,b2,b0,f0,f1,f2,c0,Int.toNat_natCast,cN,Int.reduceToNat,z0,List.length_cons,List.length_nil,Nat.reduceAdd,Int.reduceLT,Int.cast_ofNat_Int,bP,bY,c3,eV,↓al,aE,simprocAttr];refine ⟨(ps _).set (fun _=>rfl) _,?_⟩;simp [p0,bP,bY,c3,eV,dy]
   | d1::d2::bD,cN,wz,f2,c0=>
     simp only [List.length_cons] at wz;have g3:((3:Int)<=((bD.length+3:Nat):Int))=True:=eq_true (by omega);have g2:((2:Int) < ((bD.length+3:Nat):Int))=True:=eq_true (by omega);have g1:((1:Int) < ((bD.length+3:Nat):Int))=True:=eq_true (by omega);have g0:((0:Int) < ((bD.length+3:Nat):Int))=True:=eq_true (by omega);have em:p0 (c::d1::d2::bD)=if fE c/\fE d1/\fE d2/\jE [c,d1,d2]<256 then some ((jE [c,d1,d2]).toUInt8,3) else none:=by simp [p0,bP,bY,c3,eV]
     rw [em];simp +contextual only [ae,b2,b0,f0,f1,g0,g1,g2,g3,c0,Int.toNat_natCast,cN,Int.reduceToNat,z0,List.length_cons,List.length_nil,Nat.reduceAdd,Int.reduceLT,Int.cast_ofNat_Int,bP,bY,c3,eV,↓al,aE,simprocAttr];refine gR (yi _ _) ?_;have dg:∀x:UInt8,nf (x.toNat:Int)=fE x:=fun _=>rfl;simp only [dg];cases aeS:fE c with
     | false=>
       simp +contextual only [ae,b2,b0,f0,f1,g0,g1,g2,g3,c0,Int.toNat_natCast,cN,Int.reduceToNat,z0,List.length_cons,List.length_nil,Nat.reduceAdd,Int.reduceLT,Int.cast_ofNat_Int,bP,bY,c3,eV,false_and,Bool.false_eq_true,↓al,aE,simprocAttr];exact (ps _).set (fun _=>rfl) _
     | true=>
       simp +contextual only [ae,b2,b0,f0,f1,g0,g1,g2,g3,c0,Int.toNat_natCast,cN,Int.reduceToNat,z0,List.length_cons,List.length_nil,Nat.reduceAdd,Int.reduceLT,Int.cast_ofNat_Int,bP,bY,c3,eV,↓al,aE,simprocAttr];refine gR (yi _ _) ?_;simp only [dg];cases Fa:fE d1 with
       | false=>
         simp +contextual only [ae,b2,b0,f0,f1,g0,g1,g2,g3,c0,Int.toNat_natCast,cN,Int.reduceToNat,z0,List.length_cons,List.length_nil,Nat.reduceAdd,Int.reduceLT,Int.cast_ofNat_Int,bP,bY,c3,eV,false_and,and_false,Bool.false_eq_true,↓al,aE,simprocAttr];exact (ps _).set (fun _=>rfl) _
       | true=>
         simp +contextual only [ae,b2,b0,f0,f1,g0,g1,g2,g3,c0,Int.toNat_natCast,cN,Int.reduceToNat,z0,List.length_cons,List.length_nil,Nat.reduceAdd,Int.reduceLT,Int.cast_ofNat_Int,bP,bY,c3,eV,↓al,aE,simprocAttr];refine gR (yi _ _) ?_;simp only [dg];cases Fb:fE d2 with
         | false=>
           simp +contextual only [ae,b2,b0,f0,f1,g0,g1,g2,g3,c0,Int.toNat_natCast,cN,Int.reduceToNat,z0,List.length_cons,List.length_nil,Nat.reduceAdd,Int.reduceLT,Int.cast_ofNat_Int,bP,bY,c3,eV,false_and,and_false,Bool.false_eq_true,↓al,aE,simprocAttr];exact (ps _).set (fun _=>rfl) _
         | true=>
           have z3:((0:Int)<=3)=True:=eq_true (by omega);simp +contextual only [ae,b2,b0,f0,f1,g0,g1,g2,g3,z3,c0,Int.toNat_natCast,cN,Int.reduceToNat,z0,List.length_cons,List.length_nil,Nat.reduceAdd,Int.reduceLT,Int.cast_ofNat_Int,bP,bY,c3,eV,↓al,aE,simprocAttr];refine gR (Z0 [c,d1,d2] _ (by simp) (ZZ aeS Fa Fb) _) ?_;have im:IntKind.i64.wrap (((a0+1:Nat):Int)+3)=((a0+4:Nat):Int):=by rw [wrap_i64 (by omega) (by omega)];omega
           generalize bh:jE [c,d1,d2]=v;by_cases FG:(v:Int)<256
           . have iF:IntKind.u8.wrap (v:Int)=((v.toUInt8).toNat:Int):=by
              simp [IntKind.wrap,IntKind.bits,IntKind.signed]
             have BX:v<256:=by omega
             simp +contextual only [ae,b2,b0,im,iF,f0,f1,g0,g1,g2,g3,c0,FG,BX,Int.toNat_natCast,cN,Int.reduceToNat,z0,List.length_cons,List.length_nil,Nat.reduceAdd,Int.reduceLT,Int.cast_ofNat_Int,bP,bY,c3,eV,and_self,true_and,↓al,aE,simprocAttr];refine ⟨(ps _).set (fun _=>rfl) _,?_⟩
             first | omega | (refine ⟨?_,by omega⟩;simp [dy]) | skip
           . have BX:¬v<256:=by omega
             simp +contextual only [ae,b2,b0,im,f0,f1,g0,g1,g2,g3,c0,FG,BX,Int.toNat_natCast,cN,Int.reduceToNat,z0,List.length_cons,List.length_nil,Nat.reduceAdd,Int.reduceLT,Int.cast_ofNat_Int,bP,bY,c3,eV,and_false,↓al,aE,simprocAttr];exact (ps _).set (fun _=>rfl) _
theorem aof (c:UInt8) (n:Nat) (aV:n<256):((c.toNat:Int) < (n:Int))=(c<n.toUInt8):=by
 apply propext;rw [UInt8.lt_iff_toNat_lt];have:(n.toUInt8).toNat=n:=by simp;omega
 rw [this];omega
theorem anW (s:List UInt8) (a0:Nat) (b:aQ) (h:ai) (ae:h.get b=fy s a0 0) (aX:a0<s.length) (aR:s.length<=100000) (g_:Old h b):
 db Tryz.prog 142 [.ptr b 0] h (oY s a0 b h (tf (s.drop (a0+1)))):=by
 refine aaN.z rfl (dB ?_);unfold P2;have cd:(b=aj h.next)=False:=Cz g_ (Nat.le_refl _);have de:(aj h.next=b)=False:=by rw [<-cd];exact propext eq_comm
 have b2:IntKind.i64.wrap ((a0:Int)+1)=((a0+1:Nat):Int):=by rw [wrap_i64 (by omega) (by omega)];rfl
 unfold fy at ae;simp +contextual only [ae,cd,de,b2,↓al,aE,simprocAttr];have zw:∀{v:V} {ab:ai} {n:Nat} {us:List V},cD (h.next+1) ab 1 v n us->∀q,v.aM q->¬(fun q=>q=b) q:=by
  intro v ab n us cU q aC he;have aa:=cU.base aC;rw [show q=b from he] at aa;have ad:cI b<h.next:=g_
  omega
 have aag:∀{v:V} {ab:ai} {n:Nat} {us:List V},cD (h.next+1) ab 1 v n us->∀i,i<h.next+1->¬v.aM (aj i):=by intro v ab n us cU i an aC;have aa:=cU.base aC;rw [cc] at aa;omega
 refine eY (fun r ab=>r 0=.ptr b 0/\r 2=.ptr (aj h.next) 0/\∃(a:Nat) (e:Int) (fi:List UInt8) (v:V),r 3=v/\ab.get b=.bC [.str s,.int .i64 a,.int .i64 e] 0 false/\a<=s.length/\a0+1<=a/\fi.length<=a/\
  ab.get (aj h.next)=.bC [.int .i64 0,.int .i64 0,.int .i64 0,.str []] 0 false/\Mod (fun q=>q=b) h ab/\h.next+1<=ab.next/\cD (h.next+1) ab 1 v fi.length (iL fi)/\
  ((e=0/\qC (s.drop (a0+1))=(qC (s.drop a)).map fun q=>(fi++q.1,q.2 + (a - (a0+1))))\/(e=252/\qC (s.drop (a0+1))=none)))
  (fun r ab=>(s.length - ((hd (ab.get b) 1).getD .bad).toN) + (252 - ((hd (ab.get b) 2).getD .bad).toN)) ?_ ?_
 . refine ⟨by simp only [cd,de,↓al,aE,simprocAttr],by simp only [cd,de,↓al,aE,simprocAttr],a0+1,0,[],.bF,by simp only [cd,de,↓al,aE,simprocAttr],by simp only [cd,de,↓al,aE,simprocAttr],by omega,by omega,by simp,by simp only [cd,de,↓al,aE,simprocAttr],?_,?_,⟨rfl,rfl⟩,.inl ⟨rfl,?_⟩⟩
   . exact (((Ext.refl h).new _).mod (fun q=>q=b)).self _
   . rw [lC,gN];exact Nat.le_refl _
   . rw [Nat.sub_self];cases qC (s.drop (a0+1))<;>rfl
 . rintro r ab ⟨bq,cw,a,e,fi,v,cn,aB,bA,iB,ly,bn,hm,mB,cU,bK⟩;unfold P3;have S7:Old ab b:=hm.bG g_;have fin:∀(ad:ai) (bu:Int),qC (s.drop (a0+1))=none->Mod (fun q=>q=b) h ad->ad.get b=.bC [.str s,.int .i64 bu,.int .i64 252] 0 false->
    oY s a0 b h (tf (s.drop (a0+1))) (.agg [.int .i64 0,.int .i64 0,.int .i64 0,.str []]) (ad.set (aj h.next) (.bC [.int .i64 0,.int .i64 0,.int .i64 0,.str []] 0 false)):=by
    intro ad bu aV pa wm;unfold tf;rw [aV];refine ⟨pa.set (fun q=>absurd (show cI (aj h.next)<h.next from q) (by rw [cc];omega)) _,_,_,_,rfl,by decide,bu,?_⟩;rw [dy,if_neg (by rw [de];exact id),wm];rfl
   have step:∀(ad:ai),Mod (fun q=>q=b) h ad->ab.next<=ad.next->cD (h.next+1) ad 1 v fi.length (iL fi)->∀(c:UInt8),∃v3 aJ,iK 1 v (.slice (aj ad.next) 0 1 1) (ad.new (.bC [.int .u8 (c.toNat:Int)] 0 false))=.val v3 aJ/\cD (h.next+1) aJ 1 v3 (fi++[c]).length (iL (fi++[c]))/\Mod (fun q=>q=b) h aJ/\h.next+1<=aJ.next/\aJ.get b=ad.get b/\aJ.get (aj h.next)=ad.get (aj h.next):=by
    intro ad pa aqa lr c;obtain ⟨v3,aJ,ar,av,aK,bU,dV⟩:=pS (cs:=[.int .u8 (c.toNat:Int)]) (by omega) lr (by omega) (by unfold top;omega) rfl rfl;refine ⟨v3,aJ,ar,by rw [List.length_append,PA];exact av,pa.z1 aK (fun q aC=>Nat.le_trans (Nat.le_succ _) (lr.base aC)),by omega,?_,?_⟩
    . exact aK.get _ (pa.bG g_) (fun aC=>zw lr _ aC rfl)
    . exact aK.get _ (gi (by omega)) (aag lr _ (by omega))
   rcases bK with ⟨rfl,bK⟩ | ⟨rfl,bK⟩
   . by_cases gH:(s.length:Int)<=(a:Int)
     . have a1:a=s.length:=by omega
       rw [a1,List.drop_length,anV] at bK;simp +contextual only [bq,cw,cn,aB,gH,bn,cd,de,↓al,aE,simprocAttr];exact fin _ _ bK (hm.set (fun _=>rfl) _) (by rw [dy,if_pos rfl])
     . have aO:a<s.length:=by omega
       rw [drop_cons aO,anU] at bK;have f0:(0<=(a:Int))=True:=eq_true (by omega);have f1:((a:Int) < (s.length:Int))=True:=eq_true (by omega);have b0:IntKind.i64.wrap ((a:Int)+1)=((a+1:Nat):Int):=by rw [wrap_i64 (by omega) (by omega)];rfl
       have ll:(((s[a]).toNat:Int)=34)=(s[a]=34):=xC _ 34 (by omega);have Jm:(((s[a]).toNat:Int)=92)=(s[a]=92):=xC _ 92 (by omega);have RA:(((s[a]).toNat:Int)=127)=(s[a]=127):=xC _ 127 (by omega);have T6:(((s[a]).toNat:Int)<32)=(s[a]<32):=aof _ 32 (by omega);by_cases bP:s[a]=34
       . rw [if_pos bP] at bK;replace bP:(s[a]=34)=True:=eq_true bP;simp only [Option.map_some,List.append_nil] at bK;by_cases Bq:(4096:Int) < (fi.length:Int)
         . have lr:∀k bx,cD (h.next+1) ((ab.set b k).set b bx) 1 v fi.length (iL fi):=fun k bx=>cU.mod (((Mod.refl (fun q=>q=b) ab).set (fun _=>rfl) _).set (fun _=>rfl) _) (zw cU);simp +contextual only [bq,cw,cn,aB,gH,bn,cd,de,f0,f1,b0,ll,bP,cU.v.len,Bq,Ra (lr _ _),List.getElem?_eq_getElem aO,Int.toNat_natCast,↓al,aE,simprocAttr];refine ⟨((hm.set (fun _=>rfl) _).set (fun _=>rfl) _).set (fun q=>absurd (show cI (aj h.next)<h.next from q) (by rw [cc];omega)) _,_,_,_,rfl,?_⟩;unfold tf;rw [bK];simp only;rw [if_pos (by omega)];refine ⟨by decide,((a+1:Nat):Int),?_⟩;simp only [fy,cd,de,↓al,aE,simprocAttr]
         . have lr:∀k,cD (h.next+1) (ab.set b k) 1 v fi.length (iL fi):=fun k=>cU.mod ((Mod.refl (fun q=>q=b) ab).set (fun _=>rfl) _) (zw cU);simp +contextual only [bq,cw,cn,aB,gH,bn,cd,de,f0,f1,b0,ll,bP,cU.v.len,Bq,Ra (lr _),List.getElem?_eq_getElem aO,Int.toNat_natCast,↓al,aE,simprocAttr];refine ⟨(hm.set (fun _=>rfl) _).set (fun q=>absurd (show cI (aj h.next)<h.next from q) (by rw [cc];omega)) _,_,_,_,rfl,?_⟩;unfold tf;rw [bK];simp only;rw [if_neg (by omega)];refine ⟨rfl,rfl,rfl,?_,?_⟩
           . simp only [fy,cd,de,↓al,aE,simprocAttr];rw [show a0 + (1 + (a - (a0+1))+1)=a+1 from by omega]
           . simp only;omega
       rw [if_neg bP] at bK;by_cases bY:s[a]=92
       . rw [if_pos bY] at bK;replace bY:(s[a]=92)=True:=eq_true bY;simp +contextual only [bq,cw,cn,aB,gH,bn,cd,de,f0,f1,b0,ll,Jm,bP,bY,List.getElem?_eq_getElem aO,Int.toNat_natCast,↓al,aE,simprocAttr];refine cz (ac' s a b ab aB aO aR S7) ?_;rintro x ad ⟨pa,ak⟩;have lr:=cU.mod pa (zw cU);have rl:ad.get (aj h.next)=.bC [.int .i64 0,.int .i64 0,.int .i64 0,.str []] 0 false:=by
          rw [pa.get _ (gi (by omega)) (by rw [de];exact id),bn]
         have rE:=pa.next
         obtain ⟨c,aD,FB⟩:∃c:UInt8,x=.int .u8 (c.toNat:Int)/\((∃n,p0 (s.drop (a+1))=some (c,n)/\ad.get b=fy s ((a+1+n:Nat):Int) 0/\a+1+n<=s.length)\/(p0 (s.drop (a+1))=none/\ad.get b=fy s ((a+1:Nat):Int) 252)):=by
          cases yN:p0 (s.drop (a+1)) with
          | none=>rw [yN] at ak;exact ⟨0,ak.1,.inr ⟨rfl,ak.2⟩⟩
          | some q=>rw [yN] at ak;exact ⟨q.1,ak.1,.inl ⟨q.2,rfl,ak.2⟩⟩
         subst aD;obtain ⟨v3,aJ,ar,av,aK,bU,dV,eQ⟩:=step ad (hm.trans pa) rE lr c;have GM:cD (h.next+1) aJ 1 v3 (fi.length+1) (iL (fi++[c])):=by rw [List.length_append] at av;exact av
         have B3:aJ.get (aj h.next)=.bC [.int .i64 0,.int .i64 0,.int .i64 0,.str []] 0 false:=by rw [eQ,rl]
         unfold fy at FB;rcases FB with ⟨n,yN,wm,hle⟩ | ⟨yN,wm⟩
         . simp +contextual only [ar,bq,cw,aB,wm,dV,cd,de,↓al,aE,simprocAttr];rw [yN] at bK;simp only at bK;refine ⟨⟨a+1+n,0,fi++[c],rfl,hle,by omega,by simp;omega,B3,aK,bU,av,.inl ⟨rfl,?_⟩⟩,by omega⟩;rw [bK,List.drop_drop,Option.map_map];congr 1;funext q;simp only [Function.comp,List.append_assoc,List.singleton_append,Prod.mk.injEq,true_and];omega
         . simp +contextual only [ar,bq,cw,aB,wm,dV,cd,de,↓al,aE,simprocAttr];rw [yN] at bK;exact ⟨⟨a+1,252,fi++[c],rfl,by omega,by omega,by simp;omega,B3,aK,bU,av,.inr ⟨rfl,bK⟩⟩,by omega⟩
       rw [if_neg bY] at bK;by_cases c3:s[a]<32\/s[a]=127
       . rw [if_pos c3] at bK;have jo:(decide (s[a]<32)||decide (s[a]=127))=true:=by simpa using c3
         simp +contextual only [bq,cw,cn,aB,gH,bn,cd,de,f0,f1,b0,ll,Jm,RA,T6,bP,bY,jo,List.getElem?_eq_getElem aO,Int.toNat_natCast,↓al,aE,simprocAttr];exact ⟨⟨a,252,fi,rfl,bA,iB,ly,hm.self _,mB,cU.mod ((Mod.refl (fun q=>q=b) ab).self _) (zw cU),.inr ⟨rfl,bK⟩⟩,by omega⟩
       . rw [if_neg c3] at bK;have jo:(decide (s[a]<32)||decide (s[a]=127))=false:=by simpa using c3
         obtain ⟨v3,aJ,ar,av,aK,bU,dV,eQ⟩:=step (ab.set b (.bC [.str s,.int .i64 ((a+1:Nat):Int),.int .i64 0] 0 false)) (hm.self _) (by rw [lC];exact Nat.le_refl _) (cU.mod ((Mod.refl (fun q=>q=b) ab).self _) (zw cU)) s[a];simp only [lC,dy,cd,de,if_true,if_false] at ar dV eQ;simp +contextual only [ar,bq,cw,cn,aB,gH,bn,cd,de,f0,f1,b0,ll,Jm,RA,T6,bP,bY,jo,dV,List.getElem?_eq_getElem aO,Int.toNat_natCast,↓al,aE,simprocAttr];refine ⟨⟨a+1,0,fi++[s[a]],rfl,by omega,by omega,by simp;omega,by rw [eQ,bn],aK,bU,av,.inl ⟨rfl,?_⟩⟩,by omega⟩;rw [bK,Option.map_map];congr 1;funext q;simp only [Function.comp,List.append_assoc,List.singleton_append,Prod.mk.injEq,true_and];omega
   . simp +contextual only [bq,cw,cn,aB,bn,cd,de,↓al,aE,simprocAttr];exact fin _ _ bK hm aB
def Lp:List UInt8:=[32,97,110,100,32,98,101,103,105,110,32,101,108,115,101,32,101,110,100,32,101,120,99,101,112,116,105,111,110,32,102,97,108,115,101,32,102,117,110,32,105,102,32,105,110,32,108,101,116,32,109,97,116,99,104,32,109,111,100,32,111,102,32,114,97,105,115,101,32,114,101,99,32,116,104,101,110,32,116,114,117,101,32,116,114,121,32,116,121,112,101,32,119,105,116,104,32]
def tT:List (List UInt8)->List UInt8
 | []=>[32]
 | w::L=>32::(w++tT L)
theorem adw:tT ux=Lp:=by decide
theorem adv (L:List (List UInt8)):∃r,tT L=32::r:=by cases L<;>exact ⟨_,rfl⟩
theorem index_ge (sub:List UInt8):∀l:List UInt8,-1<=Lib.index l sub
 | []=>by simp only [Lib.index];split<;>decide
 | b::l=>by
   have:=index_ge sub l;simp only [Lib.index]
   split
   . decide
   . split<;>omega
theorem TL (sub:List UInt8) (b:UInt8) (l:List UInt8):(0<=Lib.index (b::l) sub)↔(sub.isPrefixOf (b::l)=true\/0<=Lib.index l sub):=by
 have:=index_ge sub l;simp only [Lib.index]
 split
 . rename_i h;simp [h]
 . rename_i h
   split
   . rename_i ad;have:Lib.index l sub=-1:=by simpa using ad
     simp [h,this]
   . rename_i ad;have aJ:¬Lib.index l sub=-1:=by simpa using ad
     simp only [h,Bool.false_eq_true,false_or];omega
theorem TN (x:List UInt8) (r:List UInt8):∀w:List UInt8,(32:UInt8) ∉ w->((0<=Lib.index (w++r) (32::x))↔0<=Lib.index r (32::x))
 | [],_=>Iff.rfl
 | b::w,h=>by
   rw [List.cons_append,TL,TN x r w (fun q=>h (List.mem_cons_of_mem _ q))];have ae:((32:UInt8) == b)=false:=by rw [beq_eq_false_iff_ne];rintro rfl;exact h (List.mem_cons_self ..)
   simp [List.isPrefixOf,ae]
theorem VO (r:List UInt8):∀(t w:List UInt8),(32:UInt8) ∉ t->(32:UInt8) ∉ w->((t++[32]).isPrefixOf (w++32::r)=true↔t=w)
 | [],[],_,_=>by simp [List.isPrefixOf]
 | [],b::w,_,h=>by
   have ae:((32:UInt8) == b)=false:=by rw [beq_eq_false_iff_ne];rintro rfl;exact h (List.mem_cons_self ..)
   simp [List.isPrefixOf,ae]
 | a::t,[],h,_=>by
   have ae:(a == (32:UInt8))=false:=by rw [beq_eq_false_iff_ne];rintro rfl;exact h (List.mem_cons_self ..)
   simp [List.isPrefixOf,ae]
 | a::t,b::w,h,ab=>by have br:=VO r t w (fun q=>h (List.mem_cons_of_mem _ q)) (fun q=>ab (List.mem_cons_of_mem _ q));simp only [List.cons_append,List.isPrefixOf,Bool.and_eq_true,beq_iff_eq,br,List.cons.injEq]
theorem TM (t:List UInt8) (aw:(32:UInt8) ∉ t):∀L:List (List UInt8),(∀w ∈ L,(32:UInt8) ∉ w)->((0<=Lib.index (tT L) (32::(t++[32])))↔t ∈ L)
 | [],_=>by cases t<;>simp [tT,Lib.index,List.isPrefixOf]
 | w::L,h=>by
   have br:=TM t aw L (fun x ak=>h x (List.mem_cons_of_mem _ ak));have hw:=h w (List.mem_cons_self ..);obtain ⟨r,aF⟩:=adv L;simp only [tT];rw [TL,TN _ _ _ hw,br,List.mem_cons];have:(32::(t++[32])).isPrefixOf (32::(w++tT L))=(t++[32]).isPrefixOf (w++tT L):=by simp [List.isPrefixOf]
   rw [this,aF,VO r t w aw hw]
theorem ach (t:List UInt8) (aw:(32:UInt8) ∉ t):Lib.contains Lp (32::(t++[32]))=pn t:=by have:=TM t aw ux (by decide);rw [adw] at this;unfold Lib.contains pn;rw [Bool.eq_iff_iff,decide_eq_true_eq,this];simp
theorem akk {l:List UInt8}:(32:UInt8) ∉ l.takeWhile fH:=fun h=>by have:=Xn _ h;revert this;decide
theorem Gf (s:List UInt8) (a0:Nat) (k:Int) (b:aQ) (h:ai) (ae:h.get b=fy s a0 0) (aX:a0<=s.length) (aR:s.length<=100000) (g_:Old h b):
 db Tryz.prog 144 [.ptr b 0,.int .i64 k] h (oY s a0 b h (kI k (s.drop a0))):=by
 refine aaP.z rfl (dB ?_);unfold P5;have cd:(b=aj h.next)=False:=Cz g_ (Nat.le_refl _);have de:(aj h.next=b)=False:=by rw [<-cd];exact propext eq_comm
 simp +contextual only [ae,cd,de,↓al,aE,simprocAttr];have ak:Ext h (h.new (.bC [.int .i64 0,.int .i64 0,.int .i64 0,.str []] 0 false)):=(Ext.refl h).new _;refine cz (Wx s a0 0 b 158 uA _ (by rw [ak.get _ g_,ae]) aX aR (by decide) (fun c h=>aj0 c h)) ?_;rintro x aa ⟨rfl,hm,aB⟩;have hD:(fun c:UInt8=>uA (c.toNat:Int))=fH:=rfl;rw [hD] at aB ⊢;have qb:Mod (fun q=>q=b) h aa:=(ak.mod _).trans hm;have g1:aa.get (aj h.next)=.bC [.int .i64 0,.int .i64 0,.int .i64 0,.str []] 0 false:=by rw [hm.get _ (gi (by rw [gN];omega)) (by rw [de];exact id)];simp only [↓al,aE,simprocAttr]
 have hlen:=Xo fH s a0;have aef:(32:UInt8) ∉ (s.drop a0).takeWhile fH:=akk;unfold fy at aB;have BH:kI k (s.drop a0)=if k=3/\(s.drop a0).takeWhile fH=[95] then .ok (7,0,(s.drop a0).takeWhile fH,((s.drop a0).takeWhile fH).length) else if k=3/\pn ((s.drop a0).takeWhile fH) then .ok (6,0,(s.drop a0).takeWhile fH,((s.drop a0).takeWhile fH).length) else if 64 < ((s.drop a0).takeWhile fH).length then .error 255 else .ok (k,0,(s.drop a0).takeWhile fH,((s.drop a0).takeWhile fH).length):=rfl;rw [BH];generalize (s.drop a0).takeWhile fH=t at *;have Gu:∀(di:Int),oY s a0 b h (.ok (di,0,t,t.length)) (.agg [.int .i64 di,.int .i64 0,.int .i64 0,.str t]) (aa.set (aj h.next) (.bC [.int .i64 di,.int .i64 0,.int .i64 0,.str t] 0 false)):=by intro di;refine ⟨qb.fresh (Nat.le_refl _) _,_,_,_,rfl,rfl,rfl,rfl,?_,by show a0+t.length<=s.length;omega⟩;rw [dy,if_neg (by rw [de];exact id),aB];rfl
 have tail:(64<t.length->oY s a0 b h (.error 255) (.agg [.int .i64 k,.int .i64 0,.int .i64 0,.str t]) ((aa.set b (.bC [.str s,.int .i64 ((a0+t.length:Nat):Int),.int .i64 255] 0 false)).set (aj h.next) (.bC [.int .i64 k,.int .i64 0,.int .i64 0,.str t] 0 false))):=by intro ay;refine ⟨(qb.self _).fresh (Nat.le_refl _) _,_,_,_,rfl,by decide,((a0+t.length:Nat):Int),?_⟩;simp only [fy,cd,de,↓al,aE,simprocAttr]
 by_cases aH:k=3
 . subst aH;by_cases hu:t=[95]
   . simp +contextual only [g1,aB,cd,de,hu,true_and,↓al,aE,simprocAttr];subst hu;exact Gu 7
   . have t1:(1+t.length<=top)=True:=eq_true (by unfold top;omega);have t2:(t.length+1+1<=top)=True:=eq_true (by unfold top;omega);simp only [top] at t1 t2;simp +contextual only [g1,aB,cd,de,hu,true_and,List.length_append,t1,t2,↓al,aE,simprocAttr];refine gR (acg Lp (32::(t++[32])) (by decide) _) ?_;rw [ach t aef];cases Kp:pn t with
     | true=>
       simp +contextual only [g1,aB,cd,de,hu,true_and,and_false,Kp,List.length_append,t1,t2,↓al,aE,simprocAttr];exact Gu 6
     | false=>
       by_cases ay:64<t.length
       . have eP:(64:Int) < (t.length:Int):=by omega
         simp +contextual only [g1,aB,cd,de,hu,ay,eP,true_and,and_false,Kp,List.length_append,t1,t2,Bool.false_eq_true,↓al,aE,simprocAttr];exact tail ay
       . have eP:¬(64:Int) < (t.length:Int):=by omega
         simp +contextual only [g1,aB,cd,de,hu,ay,eP,true_and,and_false,Kp,List.length_append,t1,t2,Bool.false_eq_true,↓al,aE,simprocAttr];exact Gu 3
 . by_cases ay:64<t.length
   . have eP:(64:Int) < (t.length:Int):=by omega
     simp +contextual only [g1,aB,cd,de,aH,ay,eP,false_and,↓al,aE,simprocAttr];exact tail ay
   . have eP:¬(64:Int) < (t.length:Int):=by omega
     simp +contextual only [g1,aB,cd,de,aH,ay,eP,false_and,↓al,aE,simprocAttr];exact Gu k
def zV:List V:=j'.map V.str
theorem am9 (h:ai):db Tryz.prog 146 [] h fun x ab=>x=.slice (aj h.next) 0 17 17/\ab=h.new (.bC zV 0 false):=by refine aaR.z rfl (dB ?_);unfold P7;simp +contextual only [↓al,aE,simprocAttr];rfl
theorem am7 {i:Nat} (an:i<17):zV[i]? =some (.str (j'[i]'an)):=by unfold zV;rw [List.getElem?_map,List.getElem?_eq_getElem (show i<j'.length from an)];rfl
theorem adt (p:List UInt8->Bool) {i:Nat} (an:i<17):(j'.drop i).find? p=if p (j'[i]'an) then some (j'[i]'an) else (j'.drop (i+1)).find? p:=by rw [List.drop_eq_getElem_cons (show i<j'.length from an),List.find?_cons];cases p j'[i]<;>rfl
theorem oY.store {s:List UInt8} {p:Nat} {b:aQ} {h:ai} {z bx:cf} {res:tA} {x:V} {aa:ai} (w:oY s p b (h.new z) res x aa) (g_:Old h b):oY s p b h res x (aa.set (aj h.next) bx):=by
 have de:¬(aj h.next=b):=by
  intro q;have:cI b<h.next:=g_
  rw [<-q,cc] at this;omega
 obtain ⟨hm,k,n,t,ak,aF⟩:=w;refine ⟨((((Ext.refl h).new z).mod _).trans hm).fresh (Nat.le_refl _) _,k,n,t,ak,?_⟩;cases res with
 | ok q=>simpa only [dy,if_neg de] using aF
 | error e=>simpa only [dy,if_neg de] using aF
theorem akI (s:List UInt8) (a0:Nat) (b:aQ) (h:ai) (ae:h.get b=fy s a0 0) (aX:a0<s.length) (aR:s.length<=100000) (g_:Old h b):
 db Tryz.prog 127 [.ptr b 0] h (oY s a0 b h (hf (s.drop a0))):=by
 refine aaF.z rfl (dB ?_);unfold PU;have cd:(b=aj h.next)=False:=Cz g_ (Nat.le_refl _);have de:(aj h.next=b)=False:=by rw [<-cd];exact propext eq_comm
 have jc:=ae;unfold fy at ae;have f0:(0<=(a0:Int))=True:=eq_true (by omega);have f1:((a0:Int) < (s.length:Int))=True:=eq_true (by omega);have ak:Ext h (h.new (.bC [.int .i64 0,.int .i64 0,.int .i64 0,.str []] 0 false)):=(Ext.refl h).new _;have yX:Old (h.new (.bC [.int .i64 0,.int .i64 0,.int .i64 0,.str []] 0 false)) b:=ak.bG g_;have Bs:(h.new (.bC [.int .i64 0,.int .i64 0,.int .i64 0,.str []] 0 false)).get b=fy s a0 0:=by rw [ak.get _ g_,jc]
 have yz:∀{res:tA} {x:V} {aa:ai},oY s a0 b (h.new (.bC [.int .i64 0,.int .i64 0,.int .i64 0,.str []] 0 false)) res x aa->aa.get (aj h.next)=.bC [.int .i64 0,.int .i64 0,.int .i64 0,.str []] 0 false:=by intro res x aa w;rw [w.mod.get _ (gi (by rw [gN];omega)) (by rw [de];exact id)];simp only [↓al,aE,simprocAttr]
 have bc:=drop_cons aX;rw [bc];have dg:nf ((s[a0]).toNat:Int)=fE s[a0]:=rfl;have ll:(((s[a0]).toNat:Int)=34)=(s[a0]=34):=xC _ 34 (by omega);have tP:(((s[a0]).toNat:Int)=95)=(s[a0]=95):=xC _ 95 (by omega);have yk:(((s[a0]).toNat:Int)=39)=(s[a0]=39):=xC _ 39 (by omega);simp +contextual only [ae,cd,de,f0,f1,List.getElem?_eq_getElem aX,Int.toNat_natCast,↓al,aE,simprocAttr];refine gR (yi _ _) ?_;rw [dg];cases aa:fE s[a0] with
 | true=>
   have dX:hf (s[a0]::s.drop (a0+1))=zy (s.drop a0):=by rw [bc];simp only [hf,aa,if_true]
   rw [dX];simp +contextual only [ae,cd,de,f0,f1,List.getElem?_eq_getElem aX,Int.toNat_natCast,↓al,aE,simprocAttr];refine cz (akV s a0 b _ Bs aX aR yX aa) ?_;rintro x ag w;have g1:=yz w;obtain ⟨k,n,t,rfl,_⟩:=w.res;simp +contextual only [g1,ae,cd,de,f0,f1,↓al,aE,simprocAttr];exact w.store g_
 | false=>
   by_cases ad:s[a0]=34
   . have dX:hf (s[a0]::s.drop (a0+1))=tf (s.drop (a0+1)):=by simp only [hf];rw [if_neg (by rw [aa];exact Bool.false_ne_true),if_pos ad]
     rw [dX];replace ad:=eq_true ad;simp +contextual only [ae,cd,de,f0,f1,ll,ad,List.getElem?_eq_getElem aX,Int.toNat_natCast,↓al,aE,simprocAttr];refine cz (anW s a0 b _ Bs aX aR yX) ?_;rintro x ag w;have g1:=yz w;obtain ⟨k,n,t,rfl,_⟩:=w.res;simp +contextual only [g1,ae,cd,de,f0,f1,↓al,aE,simprocAttr];exact w.store g_
   simp +contextual only [ae,cd,de,f0,f1,ll,ad,List.getElem?_eq_getElem aX,Int.toNat_natCast,↓al,aE,simprocAttr];refine gR (G2 _ _) ?_;by_cases aJ:(hN ((s[a0]).toNat:Int)||decide (s[a0]=95))=true
   . have dX:hf (s[a0]::s.drop (a0+1))=kI 3 (s.drop a0):=by rw [bc];simp only [hf,aa,ad,aJ,Bool.false_eq_true,if_false,if_true]
     rw [dX];have fin:pV Tryz.prog 144 [.ptr b 0,.int .i64 3] (some 33) none [] [] (fun _=>.bad) h (fun _ _ _=>True)->True:=fun _=>trivial;cases y2:hN ((s[a0]).toNat:Int) with
     | true=>
       simp +contextual only [ae,cd,de,f0,f1,ll,ad,y2,List.getElem?_eq_getElem aX,Int.toNat_natCast,↓al,aE,simprocAttr];refine cz (Gf s a0 3 b _ Bs (by omega) aR yX) ?_;rintro x ag w;have g1:=yz w;obtain ⟨k,n,t,rfl,_⟩:=w.res;simp +contextual only [g1,ae,cd,de,f0,f1,↓al,aE,simprocAttr];exact w.store g_
     | false=>
       rw [y2,Bool.false_or,decide_eq_true_eq] at aJ;replace aJ:=eq_true aJ;simp +contextual only [ae,cd,de,f0,f1,ll,tP,ad,aJ,y2,List.getElem?_eq_getElem aX,Int.toNat_natCast,↓al,aE,simprocAttr];refine cz (Gf s a0 3 b _ Bs (by omega) aR yX) ?_;rintro x ag w;have g1:=yz w;obtain ⟨k,n,t,rfl,_⟩:=w.res;simp +contextual only [g1,ae,cd,de,f0,f1,↓al,aE,simprocAttr];exact w.store g_
   . have Sp:=aJ;rw [Bool.not_eq_true,Bool.or_eq_false_iff,decide_eq_false_iff_not] at Sp;obtain ⟨aeh,aei⟩:=Sp;simp +contextual only [ae,cd,de,f0,f1,ll,tP,ad,aeh,aei,List.getElem?_eq_getElem aX,Int.toNat_natCast,↓al,aE,simprocAttr];refine gR (Sl _ _) ?_;cases bE:nj ((s[a0]).toNat:Int) with
     | true=>
       have dX:hf (s[a0]::s.drop (a0+1))=kI 4 (s.drop a0):=by rw [bc];simp only [hf,aa,ad,aJ,bE,Bool.false_eq_true,if_false,if_true]
       rw [dX];simp +contextual only [ae,cd,de,f0,f1,List.getElem?_eq_getElem aX,Int.toNat_natCast,↓al,aE,simprocAttr];refine cz (Gf s a0 4 b _ Bs (by omega) aR yX) ?_;rintro x ag w;have g1:=yz w;obtain ⟨k,n,t,rfl,_⟩:=w.res;simp +contextual only [g1,ae,cd,de,f0,f1,↓al,aE,simprocAttr];exact w.store g_
     | false=>
       have b2:IntKind.i64.wrap ((a0:Int)+1)=((a0+1:Nat):Int):=by rw [wrap_i64 (by omega) (by omega)];rfl
       have f2:(0<=((a0+1:Nat):Int))=True:=eq_true (by omega);by_cases dn:s[a0]=39/\mw (s.drop (a0+1))
       . have dX:hf (s[a0]::s.drop (a0+1))=(kI 5 (s.drop (a0+1))).map fun q=>(q.1,q.2.1,q.2.2.1,q.2.2.2+1):=by simp only [hf];rw [if_neg (by rw [aa];exact Bool.false_ne_true),if_neg ad,if_neg aJ,if_neg (by rw [bE];exact Bool.false_ne_true),if_pos dn]
         rw [dX];obtain ⟨EY,EZ⟩:=dn;replace EY:=eq_true EY;have aO:a0+1<s.length:=by
          by_cases q:a0+1<s.length
          . exact q
          . rw [List.drop_eq_nil_of_le (by omega)] at EZ;cases EZ
         rw [drop_cons aO] at EZ;have f3:(((a0+1:Nat):Int) < (s.length:Int))=True:=eq_true (by omega);simp +contextual (maxSteps:=1000000) only [ae,cd,de,f0,f1,f2,f3,b2,ll,tP,yk,ad,EY,List.getElem?_eq_getElem aX,List.getElem?_eq_getElem aO,Int.toNat_natCast,↓al,aE,simprocAttr];refine gR (G2 _ _) ?_;rw [show hN ((s[a0+1]).toNat:Int)=true from EZ];simp +contextual (maxSteps:=1000000) only [ae,cd,de,f0,f1,f2,f3,b2,ll,tP,yk,ad,EY,List.getElem?_eq_getElem aX,List.getElem?_eq_getElem aO,Int.toNat_natCast,↓al,aE,simprocAttr];have S4:Mod (fun q=>q=b) (h.new (.bC [.int .i64 0,.int .i64 0,.int .i64 0,.str []] 0 false)) ((h.new (.bC [.int .i64 0,.int .i64 0,.int .i64 0,.str []] 0 false)).set b (.bC [.str s,.int .i64 ((a0+1:Nat):Int),.int .i64 0] 0 false)):=(Mod.refl _ _).self _;refine cz (Gf s (a0+1) 5 b _ (by rw [dy,if_pos rfl];rfl) (by omega) aR (S4.bG yX)) ?_;rintro x ag w;have ao:oY s a0 b (h.new (.bC [.int .i64 0,.int .i64 0,.int .i64 0,.str []] 0 false)) ((kI 5 (s.drop (a0+1))).map fun q=>(q.1,q.2.1,q.2.2.1,q.2.2.2+1)) x ag:=by
          obtain ⟨aoF,k,n,t,xL,wr⟩:=w;refine ⟨S4.trans aoF,k,n,t,xL,?_⟩;cases aV:kI 5 (s.drop (a0+1)) with
          | error e=>rw [aV] at wr;exact wr
          | ok q=>
            rw [aV] at wr;obtain ⟨bw,cw,cn,fo,dv⟩:=wr;refine ⟨bw,cw,cn,?_,?_⟩
            . rw [fo];show fy s ((a0+1+q.2.2.2:Nat):Int) 0=fy s ((a0 + (q.2.2.2+1):Nat):Int) 0;rw [show a0+1+q.2.2.2=a0 + (q.2.2.2+1) from by omega]
            . show a0 + (q.2.2.2+1)<=s.length;omega
         have g1:=yz ao;obtain ⟨k,n,t,rfl,_⟩:=ao.res;simp +contextual only [g1,ae,cd,de,f0,f1,↓al,aE,simprocAttr];exact ao.store g_
       . have dX:hf (s[a0]::s.drop (a0+1))=zU (s.drop a0):=by rw [bc];simp only [hf];rw [if_neg (by rw [aa];exact Bool.false_ne_true),if_neg ad,if_neg aJ,if_neg (by rw [bE];exact Bool.false_ne_true),if_neg dn]
         rw [dX];have Bt:((s[a0]=39)=False)\/(((s[a0]=39)=True)/\¬a0+1<s.length)\/(((s[a0]=39)=True)/\∃aO:a0+1<s.length,hN ((s[a0+1]).toNat:Int)=false):=by
          by_cases q:s[a0]=39
          . by_cases aO:a0+1<s.length
            . refine .inr (.inr ⟨eq_true q,aO,?_⟩);cases aC:hN ((s[a0+1]).toNat:Int) with
              | false=>rfl
              | true=>exact absurd ⟨q,by rw [drop_cons aO];exact aC⟩ dn
            . exact .inr (.inl ⟨eq_true q,aO⟩)
          . exact .inl (eq_false q)
         have two:∀t ∈ j',t.length<=2:=by decide
         have tI:((17:Nat):Int)=17:=rfl;rcases Bt with ar | ⟨ar,av⟩ | ⟨ar,aO,av⟩
         case' neg.inl=>
          simp +contextual (maxSteps:=1000000) only [ae,cd,de,f0,f1,f2,b2,ll,tP,yk,ad,ar,List.getElem?_eq_getElem aX,Int.toNat_natCast,↓al,aE,simprocAttr]
         case' neg.inr.inl=>
          have f3:(((a0+1:Nat):Int) < (s.length:Int))=False:=eq_false (by omega);simp +contextual (maxSteps:=1000000) only [ae,cd,de,f0,f1,f2,f3,b2,ll,tP,yk,ad,ar,List.getElem?_eq_getElem aX,Int.toNat_natCast,↓al,aE,simprocAttr]
         case' neg.inr.inr=>
          have f3:(((a0+1:Nat):Int) < (s.length:Int))=True:=eq_true (by omega);simp +contextual (maxSteps:=1000000) only [ae,cd,de,f0,f1,f2,f3,b2,ll,tP,yk,ad,ar,List.getElem?_eq_getElem aX,List.getElem?_eq_getElem aO,Int.toNat_natCast,↓al,aE,simprocAttr];refine gR (G2 _ _) ?_;rw [av];simp +contextual (maxSteps:=1000000) only [ae,cd,de,f0,f1,f2,f3,b2,ll,tP,yk,ad,ar,List.getElem?_eq_getElem aX,List.getElem?_eq_getElem aO,Int.toNat_natCast,↓al,aE,simprocAttr]
         all_goals
          refine cz (am9 _) ?_;rintro x ag ⟨rfl,rfl⟩;simp +contextual only [↓al,aE,simprocAttr];refine eY (fun r ab=>r 0=.ptr b 0/\r 2=.ptr (aj h.next) 0/\r 77=.slice (aj (h.next+1)) 0 17 17/\r 78=.int .i64 17/\∃i:Nat,i<=17/\r 79=.int .i64 i/\ab=(h.new (.bC [.int .i64 0,.int .i64 0,.int .i64 0,.str []] 0 false)).new (.bC zV 0 false)/\
           j'.find? (·.isPrefixOf (s.drop a0))=(j'.drop i).find? (·.isPrefixOf (s.drop a0))) (fun r ab=>17 - (r 79).toN) ?_ ?_
          . exact ⟨by simp only [↓al,aE,simprocAttr],by simp only [↓al,aE,simprocAttr],by simp only [↓al,aE,simprocAttr],by simp only [tI,↓al,aE,simprocAttr],0,by omega,by simp only [↓al,aE,simprocAttr]<;>rfl,rfl,rfl⟩
          . rintro r ab ⟨bq,cw,GN,pD,i,an,pE,rfl,uc⟩;unfold PV;have S7:Old ((h.new (.bC [.int .i64 0,.int .i64 0,.int .i64 0,.str []] 0 false)).new (.bC zV 0 false)) b:=(ak.new _).bG g_;have lW:((h.new (.bC [.int .i64 0,.int .i64 0,.int .i64 0,.str []] 0 false)).new (.bC zV 0 false)).get b=.bC [.str s,.int .i64 a0,.int .i64 0] 0 false:=by rw [(ak.new _).get _ g_,ae]
            have Cx:(b=aj (h.next+1))=False:=Cz g_ (by omega);have Ed:(aj (h.next+1)=b)=False:=by rw [<-Cx];exact propext eq_comm
            by_cases iA:i<17
            . have g0:((i:Int)<17)=True:=eq_true (by omega);have g1:(0<=(i:Int))=True:=eq_true (by omega);rw [adt _ iA] at uc;have hlen:=two _ (List.getElem_mem (h:=(show i<j'.length from iA)));simp +contextual only [tI,bq,cw,GN,pD,pE,g0,g1,cd,de,Cx,Ed,Int.toNat_natCast,Nat.mul_one,am7 iA,↓al,aE,simprocAttr];refine gR (JW s _ (a0:Int) [.int .i64 0] b 0 false _ lW (by omega) (by omega)) ?_;rw [Int.toNat_natCast];cases rf:(j'[i]'iA).isPrefixOf (s.drop a0) with
              | true=>
                rw [rf,if_pos rfl] at uc;have iz:(j'[i]'iA).length<=s.length-a0:=by rw [List.isPrefixOf_iff_prefix] at rf;have:=rf.length_le;rwa [List.length_drop] at this
                have im:IntKind.i64.wrap ((a0:Int) + ((j'[i]'iA).length:Int))=((a0 + (j'[i]'iA).length:Nat):Int):=by rw [wrap_i64 (by omega) (by omega)];rfl
                simp +contextual only [tI,bq,cw,GN,pD,pE,g0,g1,im,cd,de,Cx,Ed,ae,↓al,aE,simprocAttr];unfold zU;rw [uc];refine ⟨(((ak.new _).mod _).self _).fresh (Nat.le_refl _) _,_,_,_,rfl,rfl,rfl,rfl,?_,by show a0 + (j'[i]'iA).length<=s.length;omega⟩;simp only [fy,cd,de,↓al,aE,simprocAttr]
              | false=>
                rw [rf,if_neg Bool.false_ne_true] at uc;have im:IntKind.i64.wrap ((i:Int)+1)=((i+1:Nat):Int):=by rw [wrap_i64 (by omega) (by omega)];rfl
                simp +contextual only [tI,bq,cw,GN,pD,pE,g0,g1,im,cd,de,Cx,Ed,ae,↓al,aE,simprocAttr];exact ⟨⟨i+1,by omega,rfl,uc⟩,by omega⟩
            . obtain rfl:i=17:=by omega
              have dI:j'.find? (·.isPrefixOf (s.drop a0))=none:=by rw [uc];rfl
              have g0:((17:Int)<17)=False:=eq_false (by omega);simp +contextual only [tI,bq,cw,GN,pD,pE,g0,lW,cd,de,Cx,Ed,ae,↓al,aE,simprocAttr];unfold zU;rw [dI];refine ⟨(((ak.new _).mod _).self _).fresh (Nat.le_refl _) _,_,_,_,rfl,by decide,(a0:Int),?_⟩;simp only [fy,cd,de,↓al,aE,simprocAttr]
theorem Sf (s:List UInt8) (i:Nat):(ByteArray.mk ⟨s⟩).get! i=(s[i]?).getD 0:=by show (Array.mk s)[i]! =_;simp;rfl
theorem acB (s:List UInt8) (a:Nat):Lib.decodeGo ⟨⟨s.drop a⟩⟩=if a<s.length then decodeL s a else (65533,0):=by
 unfold Lib.decodeGo decodeL;have bn:(ByteArray.mk ⟨s.drop a⟩).size=s.length-a:=by show (s.drop a).length=_;rw [List.length_drop]
 have rl:(ByteArray.mk ⟨s⟩).size=s.length:=rfl;by_cases a1:a<s.length
 . rw [if_pos a1,if_neg (by rw [bn];omega),Lib.decode_at,Lib.decode_at,bn,rl];simp only [Sf,List.getElem?_drop,Nat.add_zero,Nat.sub_zero,Nat.zero_add]
 . rw [if_neg a1,if_pos (by rw [bn];omega)]
theorem akG {h:ai} {b:aQ} {s:List UInt8} {a:Nat} (aB:h.get b=.iter s a):
 xa (.ptr b 0) h=if a<s.length then .val (.tuple [.bool true,.int .i64 a,.int .i32 (decodeL s a).1]) (h.set b (.iter s (a + (decodeL s a).2))) else .val (.tuple [.bool false]) h:=by
 unfold xa;simp only [V.jz,aB];rw [show Nat.beq 0 0=true from rfl];simp only [cond_true];by_cases a1:a<s.length
 . rw [if_pos a1,show Nat.blt a s.length=true from by rw [Nat.blt_eq];exact a1];rfl
 . rw [if_neg a1,show Nat.blt a s.length=false from by rw [<-Bool.not_eq_true,Nat.blt_eq];exact a1];rfl
def ag6 (s:List UInt8):cf->Nat
 | .iter _ a=>s.length-a
 | _=>0
theorem acz (s:List UInt8) (a:Nat):1<=(decodeL s a).2:=by
 unfold decodeL;rw [Lib.decode_at];unfold Lib.decodeN
 repeat' split
 all_goals simp
theorem amB (s:List UInt8) (aR:s.length<=100000) (h:ai):db Tryz.prog 123 [.str s] h fun x ab=>x=.int .i64 (uU s:Nat)/\Ext h ab:=by
 refine aaB.z rfl (dB ?_);unfold PN;simp +contextual only [↓al,aE,simprocAttr];refine eY (fun r ab=>r 0=.str s/\r 8=.ptr (aj h.next) 0/\Ext h ab/\∃a,ab.get (aj h.next)=.iter s a/\uU s=rM s a) (fun r ab=>ag6 s (ab.get (aj h.next))) ?_ ?_
 . exact ⟨by simp only [↓al,aE,simprocAttr],by simp only [↓al,aE,simprocAttr],(Ext.refl h).new _,0,by simp only [↓al,aE,simprocAttr],rfl⟩
 . rintro r ab ⟨bq,ed,ak,a,aB,a1⟩;unfold PO;have mB:=akG aB;by_cases aO:a<s.length
   . rw [if_pos aO] at mB;have ag:=acz s a;by_cases aD:(decodeL s a).1=65533
     . have kh:(((decodeL s a).1:Int)=65533)=True:=eq_true (by omega);have f0:(0<=(a:Int))=True:=eq_true (by omega);have f1:((a:Int)<=(s.length:Int))=True:=eq_true (by omega);simp +contextual only [bq,ed,mB,kh,f0,f1,Int.toNat_natCast,↓al,aE,simprocAttr];refine gR (acA _ _) ?_;rw [acB,if_pos aO];by_cases hw:(decodeL s a).2=1
       . have K4:(((decodeL s a).2:Int)=1)=True:=eq_true (by omega);have wg:nd s a=0:=by unfold nd;rw [if_pos (Prod.ext aD hw)]
         rw [amA aO wg] at a1;simp +contextual only [bq,ed,mB,kh,K4,f0,f1,Int.toNat_natCast,↓al,aE,simprocAttr];rw [a1];exact ⟨rfl,ak.set (Nat.le_refl _) _⟩
       . have K4:(((decodeL s a).2:Int)=1)=False:=eq_false (by omega);have wg:nd s a=(decodeL s a).2:=by unfold nd;rw [if_neg (fun q=>hw (congrArg Prod.snd q))]
         rw [MM aO (by rw [wg];omega),wg] at a1;simp +contextual only [bq,ed,mB,kh,K4,f0,f1,Int.toNat_natCast,↓al,aE,simprocAttr];refine ⟨⟨ak.set (Nat.le_refl _) _,_,rfl,a1⟩,?_⟩;rw [aB];show s.length - (a + (decodeL s a).2)<s.length-a;omega
     . have kh:(((decodeL s a).1:Int)=65533)=False:=eq_false (by omega);have wg:nd s a=(decodeL s a).2:=by unfold nd;rw [if_neg (fun q=>aD (congrArg Prod.fst q))]
       rw [MM aO (by rw [wg];omega),wg] at a1;simp +contextual only [bq,ed,mB,kh,Int.toNat_natCast,↓al,aE,simprocAttr];refine ⟨⟨ak.set (Nat.le_refl _) _,_,rfl,a1⟩,?_⟩;rw [aB];show s.length - (a + (decodeL s a).2)<s.length-a;omega
   . rw [if_neg aO] at mB;rw [Wo (by omega)] at a1;simp +contextual only [bq,ed,mB,Int.toNat_natCast,↓al,aE,simprocAttr];rw [a1];exact ⟨rfl,ak⟩
def cA.enc (w:cA):List V:=[.int .i64 w.kind,.int .i64 w.num,.int .i64 w.pos,.str w.text]
def qE:List cA->List V
 | []=>[]
 | w::ws=>w.enc++qE ws
theorem XR:∀a b:List cA,qE (a++b)=qE a++qE b
 | [],b=>rfl
 | w::a,b=>by simp only [qE,List.cons_append,XR a b,List.append_assoc]
def CT (ws:List cA):Except (Int × Nat) (List cA)->Except (Int × Nat) (List cA)
 | .ok b0=>.ok (ws++b0)
 | .error e=>.error e
theorem alV (ws:List cA) (w:cA) (r:Except (Int × Nat) (List cA)):CT ws (A3 w r)=CT (ws++[w]) r:=by
 cases r with
 | ok b0=>simp [CT,A3]
 | error e=>rfl
theorem alW (r:Except (Int × Nat) (List cA)):CT [] r=r:=by cases r<;>rfl
def YC (s:List UInt8) (h:ai) (x:V) (ab:ai):Prop:=Ext h ab/\match oE s with
 | .ok ws=>∃v,x=.tuple [v,.agg [.int .i64 0,.int .i64 0]]/\cD h.next ab 4 v ws.length (qE ws)
 | .error e=>x=.tuple [.bF,.agg [.int .i64 e.1,.int .i64 e.2]]
theorem Ps (c:UInt8):(0<=Lib.indexByte [9,10,13,32] c)=(blank c=true):=by
 have aX:∀d:UInt8,(d == c)=decide (c=d):=fun d=>by
  by_cases q:c=d
  . subst q;simp
  . have ec:¬d=c:=fun e=>q e.symm;simp [q,ec]
 simp only [Lib.indexByte,aX,blank];by_cases aa:c=9
 . subst aa;decide
 . by_cases ad:c=10
   . subst ad;decide
   . by_cases aJ:c=13
     . subst aJ;decide
     . by_cases bE:c=32
       . subst bE;decide
       . simp [aa,ad,aJ,bE]
theorem aj2 (s:List UInt8) (h:ai):db Tryz.prog 104 [.str s] h (YC s h):=by
 refine aav.z rfl (dB ?_);unfold PF;by_cases BE:(65536:Int) < (s.length:Int)
 . simp +contextual only [BE,↓al,aE,simprocAttr];refine ⟨((Ext.refl h).new _).set (Nat.le_refl _) _,?_⟩;unfold oE;rw [if_pos (by omega)];rfl
 simp +contextual only [BE,↓al,aE,simprocAttr];refine cz (amB s (by omega) _) ?_;rintro x aa ⟨rfl,K6⟩;have ak:Ext h (h.new (.bC [.int .i64 0,.int .i64 0] 0 false)):=(Ext.refl h).new _;have zd:=ak.trans K6;have g1:aa.get (aj h.next)=.bC [.int .i64 0,.int .i64 0] 0 false:=by rw [K6.get _ (gi (by rw [gN];omega))];simp only [↓al,aE,simprocAttr]
 have CD:h.next+1<=aa.next:=K6.next
 have cC:(aj aa.next=aj h.next)=False:=by rw [rJ];exact eq_false (by omega)
 have cS:(aj h.next=aj aa.next)=False:=by rw [rJ];exact eq_false (by omega)
 have oG:(aa.next=h.next)=False:=eq_false (by omega);have oH:(h.next=aa.next)=False:=eq_false (by omega);have hlen:¬65536<s.length:=by omega
 by_cases aF:uU s<s.length
 . have sI:((uU s:Int) < (s.length:Int))=True:=eq_true (by omega);simp +contextual only [sI,g1,cC,cS,oG,oH,↓al,aE,simprocAttr];refine ⟨zd.set (Nat.le_refl _) _,?_⟩;unfold oE;rw [if_neg hlen,if_pos aF]
 have sI:((uU s:Int) < (s.length:Int))=False:=eq_false (by omega);have lX:oE s=ru s 0:=by unfold oE;rw [if_neg hlen,if_neg aF]
 simp +contextual only [sI,g1,cC,cS,oG,oH,↓al,aE,simprocAttr];have agC:Ext h (aa.new (.bC [.str s,.int .i64 0,.int .i64 0] 0 false)):=zd.new _;refine eY (fun r ab=>r 0=.str s/\r 3=.ptr (aj h.next) 0/\r 5=.ptr (aj aa.next) 0/\∃(a:Nat) (ws:List cA) (v:V),r 6=v/\ab.get (aj aa.next)=.bC [.str s,.int .i64 a,.int .i64 0] 0 false/\a<=s.length/\ws.length<=a/\
  ab.get (aj h.next)=.bC [.int .i64 0,.int .i64 0] 0 false/\Ext h ab/\aa.next+1<=ab.next/\cD (aa.next+1) ab 4 v ws.length (qE ws)/\oE s=CT ws (ru (s.drop a) a))
  (fun r ab=>s.length - ((hd (ab.get (aj aa.next)) 1).getD .bad).toN) ?_ ?_
 . refine ⟨by simp only [↓al,aE,simprocAttr],by simp only [↓al,aE,simprocAttr],by simp only [↓al,aE,simprocAttr],0,[],.bF,by simp only [↓al,aE,simprocAttr],by simp only [↓al,aE,simprocAttr]<;>rfl,by omega,by simp,by simp only [g1,cC,oG,cS,oH,↓al,aE,simprocAttr],agC,?_,⟨rfl,rfl⟩,?_⟩
   . rw [gN];exact Nat.le_refl _
   . rw [lX,List.drop_zero,alW]
 . rintro r ab ⟨bq,cn,dv,a,ws,v,cP,aB,bA,kw,bn,FJ,mB,cU,bK⟩;unfold PG;have g_:Old ab (aj aa.next):=gi (by omega);by_cases gH:(s.length:Int)<=(a:Int)
   . have a1:a=s.length:=by omega
     have Fx:oE s=.ok ws:=by rw [bK,a1,List.drop_length];show Except.ok (ws++[])=_;rw [List.append_nil]
     simp +contextual only [bq,cn,dv,cP,aB,bn,gH,cC,cS,oG,oH,↓al,aE,simprocAttr];refine ⟨FJ.set (Nat.le_refl _) _,?_⟩;rw [Fx];refine ⟨v,rfl,?_⟩;have:=cU.mod ((Mod.refl (fun q=>q=aj h.next) ab).self (.bC [.int .i64 0,.int .i64 0] 0 false)) (fun q aC e=>by have ad:=cU.base aC;rw [show q=aj h.next from e,cc] at ad;omega);exact this.mono (by omega)
   . have aO:a<s.length:=by omega
     rw [drop_cons aO,Up,<-drop_cons aO] at bK;have f0:(0<=(a:Int))=True:=eq_true (by omega);have f1:((a:Int) < (s.length:Int))=True:=eq_true (by omega);have b2:IntKind.i64.wrap ((a:Int)+1)=((a+1:Nat):Int):=by rw [wrap_i64 (by omega) (by omega)];rfl
     simp +contextual only [bq,cn,dv,cP,aB,bn,gH,cC,cS,oG,oH,f0,f1,List.getElem?_eq_getElem aO,Int.toNat_natCast,↓al,aE,simprocAttr];refine gR (TJ _ _ _) ?_;rw [Xz];by_cases E':blank s[a]=true
     . have J2:(0<=Lib.indexByte [9,10,13,32] s[a])=True:=by rw [Ps,E'];exact eq_self _
       rw [if_pos E'] at bK;simp +contextual only [J2,b2,bq,cn,dv,cP,aB,bn,gH,cC,cS,oG,oH,f0,f1,List.getElem?_eq_getElem aO,Int.toNat_natCast,↓al,aE,simprocAttr];refine ⟨⟨a+1,ws,rfl,by omega,by omega,FJ.set (by omega) _,mB,?_,bK⟩,by omega⟩;exact cU.mod ((Mod.refl (fun q=>q=aj aa.next) ab).self _) (fun q aC e=>by have ad:=cU.base aC;rw [show q=aj aa.next from e,cc] at ad;omega)
     . have J2:(0<=Lib.indexByte [9,10,13,32] s[a])=False:=by rw [Ps];exact eq_false E'
       rw [if_neg E'] at bK;simp +contextual only [J2,b2,bq,cn,dv,cP,aB,bn,gH,cC,cS,oG,oH,f0,f1,List.getElem?_eq_getElem aO,Int.toNat_natCast,↓al,aE,simprocAttr];have BM:=JW s [40,42] (a:Int) [.int .i64 0] (aj aa.next) 0 false ab aB (by omega) (by omega);rw [Int.toNat_natCast] at BM;refine gR BM ?_;cases rf:([40,42]:List UInt8).isPrefixOf (s.drop a) with
       | true=>
         rw [rf,if_pos rfl] at bK;simp +contextual only [b2,bq,cn,dv,cP,aB,bn,gH,cC,cS,oG,oH,f0,f1,List.getElem?_eq_getElem aO,Int.toNat_natCast,↓al,aE,simprocAttr];refine cz (akU s a 0 (aj aa.next) ab aB bA (by omega) g_) ?_;rintro x ad ⟨rfl,hm,aV⟩;have rl:ad.get (aj h.next)=.bC [.int .i64 0,.int .i64 0] 0 false:=by rw [hm.get _ (gi (by omega)) (by rw [cS];exact id),bn]
         have FH:Ext h ad:=FJ.hJ hm (fun b ae=>by rw [show b=aj aa.next from ae,cc];omega);have rE:=hm.next
         have lr:=cU.mod hm (fun q aC e=>by have ad:=cU.base aC;rw [show q=aj aa.next from e,cc] at ad;omega);cases KG:iW (s.drop a) 0 with
         | some n=>
           rw [KG] at aV bK;obtain ⟨g2,hle⟩:=aV;have BK:=Gp KG;unfold fy at g2;simp +contextual only [b2,bq,cn,dv,cP,g2,aB,rl,gH,cC,cS,oG,oH,f0,f1,List.getElem?_eq_getElem aO,Int.toNat_natCast,↓al,aE,simprocAttr];refine ⟨⟨a+n,ws,rfl,hle,by omega,FH,by omega,lr,?_⟩,by omega⟩;rw [bK];simp only [List.drop_drop]
         | none=>
           rw [KG] at aV bK;unfold fy at aV;simp +contextual only [b2,bq,cn,dv,cP,aV,aB,rl,gH,cC,cS,oG,oH,f0,f1,List.getElem?_eq_getElem aO,Int.toNat_natCast,↓al,aE,simprocAttr];refine ⟨FH.set (Nat.le_refl _) _,?_⟩;rw [bK];rfl
       | false=>
         rw [rf,if_neg Bool.false_ne_true] at bK;simp +contextual only [b2,bq,cn,dv,cP,aB,bn,gH,cC,cS,oG,oH,f0,f1,List.getElem?_eq_getElem aO,Int.toNat_natCast,↓al,aE,simprocAttr];refine cz (akI s a (aj aa.next) ab aB aO (by omega) g_) ?_;rintro x ad w;obtain ⟨hm,k,n,t,rfl,ui⟩:=w;have rl:ad.get (aj h.next)=.bC [.int .i64 0,.int .i64 0] 0 false:=by rw [hm.get _ (gi (by omega)) (by rw [cS];exact id),bn]
         have FH:Ext h ad:=FJ.hJ hm (fun b ae=>by rw [show b=aj aa.next from ae,cc];omega);have rE:=hm.next
         have lr:=cU.mod hm (fun q aC e=>by have ad:=cU.base aC;rw [show q=aj aa.next from e,cc] at ad;omega);have m0:(aj ad.next=aj h.next)=False:=by rw [rJ];exact eq_false (by omega)
         have m1:(aj ad.next=aj aa.next)=False:=by rw [rJ];exact eq_false (by omega)
         have UE:(ad.next=h.next)=False:=eq_false (by omega);have UF:(ad.next=aa.next)=False:=eq_false (by omega);have FI:Ext ad (((ad.new (.bC [.int .i64 0,.int .i64 0,.int .i64 0,.str []] 0 false)).set (aj ad.next) (.bC [.int .i64 k,.int .i64 n,.int .i64 0,.str t] 0 false)).set (aj ad.next) (.bC [.int .i64 k,.int .i64 n,.int .i64 a,.str t] 0 false)):=(((Ext.refl ad).new _).set (Nat.le_refl _) _).set (Nat.le_refl _) _;obtain ⟨v3,aJ,ar,av,aK,bU,dV⟩:=pS (cs:=[.int .i64 k,.int .i64 n,.int .i64 a,.str t]) (by omega) (lr.ext FI) (by simp only [lC,gN];omega) (by unfold top;omega) rfl rfl;simp only [lC,gN] at ar bU;have Tx:Ext h aJ:=(FH.trans FI).hJ aK (fun b ae=>Nat.le_trans (by omega) (lr.base ae));have B3:aJ.get (aj h.next)=.bC [.int .i64 0,.int .i64 0] 0 false:=by rw [aK.get _ (gi (by simp only [lC,gN];omega)) (fun aC=>by have:=lr.base aC;rw [cc] at this;omega),FI.get _ (gi (by omega)),rl]
         have kY:aJ.get (aj aa.next)=ad.get (aj aa.next):=by rw [aK.get _ (gi (by simp only [lC,gN];omega)) (fun aC=>by have:=lr.base aC;rw [cc] at this;omega),FI.get _ (gi (by omega))]
         cases mB:hf (s.drop a) with
         | ok q=>
           have BK:=LQ mB;rw [mB] at ui bK;obtain ⟨rfl,rfl,rfl,g2,hle⟩:=ui;unfold fy at g2;rw [g2] at kY;simp +contextual only [ar,m0,m1,UE,UF,b2,bq,cn,dv,cP,g2,kY,aB,rl,gH,cC,cS,oG,oH,f0,f1,List.getElem?_eq_getElem aO,Int.toNat_natCast,↓al,aE,simprocAttr];refine ⟨⟨a+q.2.2.2,ws++[⟨q.1,q.2.1,a,q.2.2.1⟩],rfl,hle,by simp;omega,B3,Tx,by omega,?_,?_⟩,by omega⟩
           . rw [List.length_append,XR];exact av
           . rw [bK,alV];simp only [List.drop_drop]
         | error e=>
           rw [mB] at ui bK;obtain ⟨he,bu,g2⟩:=ui;unfold fy at g2;rw [g2] at kY;simp +contextual only [he,ar,m0,m1,UE,UF,b2,bq,cn,dv,cP,g2,kY,B3,aB,rl,gH,cC,cS,oG,oH,f0,f1,List.getElem?_eq_getElem aO,Int.toNat_natCast,↓al,aE,simprocAttr];refine ⟨Tx.set (Nat.le_refl _) _,?_⟩;rw [bK];rfl
def G8 (L:List (List UInt8)):List V:=L.map V.str
theorem T3 (h:ai):db Tryz.prog 108 [] h fun x ab=>x=.slice (aj h.next) 0 20 20/\ab=h.new (.bC (G8 ux) 0 false):=by refine aaz.z rfl (dB ?_);unfold PL;simp +contextual only [↓al,aE,simprocAttr];rfl
theorem Xf {L:List (List UInt8)} {i:Nat} (an:i<L.length):(G8 L)[i]? =some (.str L[i]):=by unfold G8;rw [List.getElem?_map,List.getElem?_eq_getElem an];rfl
theorem acP {t:List UInt8} {L:List (List UInt8)} {i:Nat} (an:i<L.length):(L.drop i).contains t=(decide (L[i]=t)||(L.drop (i+1)).contains t):=by rw [List.drop_eq_getElem_cons an,List.contains_cons];congr 1;rw [Bool.eq_iff_iff];simp;exact eq_comm
theorem TI (t:List UInt8) (L:List (List UInt8)) (b:aQ) (cap:Nat) (h:ai) (eO:L.length<=100000) (aB:h.get b=.bC (G8 L) 0 false):
 gv Tryz.prog 107 [.str t,.slice b 0 L.length cap] h (.bool (L.contains t)) h:=by
 refine pB (aay.z rfl (dB ?_));unfold PJ;simp +contextual only [↓al,aE,simprocAttr];refine eY (fun r ab=>ab=h/\r 0=.str t/\r 1=.slice b 0 L.length cap/\∃i:Nat,r 5=.int .i64 i/\i<=L.length/\L.contains t=(L.drop i).contains t) (fun r ab=>L.length - (r 5).toN) ?_ ?_
 . exact ⟨rfl,by simp only [↓al,aE,simprocAttr],by simp only [↓al,aE,simprocAttr],0,by simp only [↓al,aE,simprocAttr]<;>rfl,by omega,rfl⟩
 . rintro r ab ⟨rfl,bq,bw,i,dv,an,bK⟩;unfold PK;by_cases aO:i<L.length
   . have g0:((i:Int) < (L.length:Int))=True:=eq_true (by omega);have g1:(0<=(i:Int))=True:=eq_true (by omega);rw [acP aO] at bK;by_cases he:L[i]=t
     . simp +contextual only [bq,bw,dv,g0,g1,aB,he,Int.toNat_natCast,Nat.mul_one,Xf aO,↓al,aE,simprocAttr];rw [bK];simp [he]
     . have w:IntKind.i64.wrap ((i:Int)+1)=((i+1:Nat):Int):=by rw [wrap_i64 (by omega) (by omega)];rfl
       simp +contextual only [bq,bw,dv,g0,g1,aB,he,w,Int.toNat_natCast,Nat.mul_one,Xf aO,↓al,aE,simprocAttr];refine ⟨⟨i+1,rfl,aO,?_⟩,by omega⟩;rw [bK];simp [he]
   . have g0:((i:Int) < (L.length:Int))=False:=eq_false (by omega);rw [List.drop_eq_nil_of_le (by omega)] at bK;rw [bK];simp +contextual only [bq,bw,dv,g0,↓al,aE,simprocAttr];rfl
def Bv:List UInt8->Bool
 | d::_=>nj d.toNat
 | []=>false
def j5 (k:Int) (s:List UInt8):Bool:=
 decide (s≠[])&&decide (s.length<=64)&&s.all fH&&(if k=3 then (mw s||s.head? == some 95)&&!decide (s=[95])&&!pn s else if k=4 then Bv s else mw s)
def Uo (c:Int):Bool:=nR c 97 122||nR c 65 90||nR c 48 57||decide (c=95)||decide (c=39)
theorem ajZ (c:UInt8):Uo (c.toNat:Int)=fH c:=by unfold Uo fH uA nR nf hN nj;generalize (c.toNat:Int)=x;cases decide (97<=x)<;>cases decide (x<=122)<;>cases decide (65<=x)<;>cases decide (x<=90)<;>cases decide (48<=x)<;>cases decide (x<=57)<;>cases decide (x=95)<;>cases decide (x=39)<;>rfl
theorem aeW {s:List UInt8} {c:UInt8} {r:List UInt8} (h:s=c::r):mw s=hN c.toNat:=by rw [h];rfl
theorem amu (k:Int) (s:List UInt8) (aR:s.length<=17179869184) (aH:k=3\/k=4\/k=5) (h:ai):db Tryz.prog 89 [.int .i64 k,.str s] h fun x ab=>x=.bool (j5 k s)/\Ext h ab:=by
 refine abC.z rfl (dB ?_);unfold QZ;by_cases yW:s=[]
 . subst yW;simp +contextual only [↓al,aE,simprocAttr];exact ⟨rfl,Ext.refl _⟩
 obtain ⟨c,r,BT⟩:=List.exists_cons_of_ne_nil yW;have c0:(s=([]:List UInt8))=False:=eq_false yW;have mD:s[0]? =some c:=by rw [BT];rfl
 by_cases hlen:(64:Int) < (s.length:Int)
 . have aV:j5 k s=false:=by
    unfold j5;rw [decide_eq_false (show ¬s.length<=64 by omega)];simp
   have Kr:=eq_true hlen;simp +contextual only [c0,Kr,aV,↓al,aE,simprocAttr];exact Ext.refl _
 have Kr:=eq_false hlen;simp +contextual only [c0,Kr,↓al,aE,simprocAttr];refine eY (fun r ab=>ab=h/\r 0=.int .i64 k/\r 1=.str s/\∃i:Nat,r 5=.int .i64 i/\i<=s.length/\s.all fH=(s.drop i).all fH) (fun r ab=>s.length - (r 5).toN) ?_ ?_
 . exact ⟨rfl,by simp only [↓al,aE,simprocAttr],by simp only [↓al,aE,simprocAttr],0,by simp only [↓al,aE,simprocAttr]<;>rfl,by omega,rfl⟩
 . rintro R ab ⟨rfl,bq,bw,i,dv,an,bK⟩;unfold Q0;by_cases aO:i<s.length
   . have g0:((i:Int) < (s.length:Int))=True:=eq_true (by omega);have g1:(0<=(i:Int))=True:=eq_true (by omega);rw [List.drop_eq_getElem_cons aO,List.all_cons] at bK;have w:IntKind.i64.wrap ((i:Int)+1)=((i+1:Nat):Int):=by rw [wrap_i64 (by omega) (by omega)];rfl
     simp +contextual only [bq,bw,dv,g0,g1,List.getElem?_eq_getElem aO,Int.toNat_natCast,↓al,aE,simprocAttr];refine gR (YB _ _) ?_;rw [show (nR (s[i].toNat:Int) 97 122||nR (s[i].toNat:Int) 65 90||nR (s[i].toNat:Int) 48 57||decide ((s[i].toNat:Int)=95)||decide ((s[i].toNat:Int)=39))=fH s[i] from ajZ _];cases ay:fH s[i] with
     | true=>
       simp +contextual only [bq,bw,dv,w,↓al,aE,simprocAttr];exact ⟨⟨i+1,rfl,aO,by rw [bK,ay,Bool.true_and]⟩,by omega⟩
     | false=>
       have aV:j5 k s=false:=by unfold j5;rw [bK,ay];simp
       simp +contextual only [aV,↓al,aE,simprocAttr];exact Ext.refl _
   . have g0:((i:Int) < (s.length:Int))=False:=eq_false (by omega);rw [List.drop_eq_nil_of_le (by omega)] at bK;have eh:s.all fH=true:=by rw [bK];rfl
     have f1:((0:Int) < (s.length:Int))=True:=eq_true (by rw [BT];simp only [List.length_cons];omega);have aV:j5 k s=(if k=3 then (mw s||s.head? == some 95)&&!decide (s=[95])&&!pn s else if k=4 then Bv s else mw s):=by unfold j5;rw [eh,decide_eq_true (show s.length<=64 by omega),decide_eq_true (show s≠[] from yW)];simp
     rw [aV];have ae:(mw s||s.head? == some 95)=(hN c.toNat||decide (c=95)):=by rw [BT];show (hN c.toNat||(some c == some 95))=_;congr 1
     have af8:mw s=hN c.toNat:=aeW BT;have afb:Bv s=nj c.toNat:=by rw [BT];rfl
     rw [ae];have hu:((c.toNat:Int)=95)=(c=95):=xC c 95 (by omega);rcases aH with rfl | rfl | rfl
     . simp +contextual only [bq,bw,dv,g0,f1,mD,Int.toNat_zero,if_true,↓al,aE,simprocAttr];refine gR (z_ _ _ _ _) ?_;rw [show nR (c.toNat:Int) 97 122=hN (c.toNat:Int) from rfl];cases qf:hN (c.toNat:Int) with
       | false=>
         by_cases Sr:c=95
         . have p3:=eq_true Sr;by_cases aa:s=[95]
           . have gz:=eq_true aa;simp +contextual only [bq,bw,qf,hu,p3,gz,f1,mD,Int.toNat_zero,↓al,aE,simprocAttr];exact Ext.refl _
           . have gz:=eq_false aa;simp +contextual only [bq,bw,qf,hu,p3,gz,f1,mD,Int.toNat_zero,↓al,aE,simprocAttr];refine cz (T3 _) ?_;rintro x aa ⟨rfl,rfl⟩;simp +contextual only [bq,bw,qf,hu,p3,gz,f1,mD,↓al,aE,simprocAttr];refine gR (TI s ux _ 20 _ (by decide) (by rw [ni])) ?_;have Ko:ux.contains s=pn s:=rfl;rw [Ko];simp +contextual only [bq,bw,qf,hu,p3,gz,↓al,aE,simprocAttr];exact (Ext.refl _).new _
         . have p3:=eq_false Sr;simp +contextual only [bq,bw,qf,hu,p3,f1,mD,Int.toNat_zero,↓al,aE,simprocAttr];exact Ext.refl _
       | true=>
         have p3:True=True:=rfl;by_cases aa:s=[95]
         . have gz:=eq_true aa;simp +contextual only [bq,bw,qf,hu,p3,gz,f1,mD,Int.toNat_zero,↓al,aE,simprocAttr];exact Ext.refl _
         . have gz:=eq_false aa;simp +contextual only [bq,bw,qf,hu,p3,gz,f1,mD,Int.toNat_zero,↓al,aE,simprocAttr];refine cz (T3 _) ?_;rintro x aa ⟨rfl,rfl⟩;simp +contextual only [bq,bw,qf,hu,p3,gz,f1,mD,↓al,aE,simprocAttr];refine gR (TI s ux _ 20 _ (by decide) (by rw [ni])) ?_;have Ko:ux.contains s=pn s:=rfl;rw [Ko];simp +contextual only [bq,bw,qf,hu,p3,gz,↓al,aE,simprocAttr];exact (Ext.refl _).new _
     . simp +contextual only [bq,bw,dv,g0,f1,mD,Int.toNat_zero,if_true,if_false,↓al,aE,simprocAttr];refine gR (z_ _ _ _ _) ?_;rw [afb];simp +contextual only [↓al,aE,simprocAttr];exact ⟨rfl,Ext.refl _⟩
     . simp +contextual only [bq,bw,dv,g0,f1,mD,Int.toNat_zero,if_true,if_false,↓al,aE,simprocAttr];refine gR (z_ _ _ _ _) ?_;rw [af8];simp +contextual only [↓al,aE,simprocAttr];exact ⟨rfl,Ext.refl _⟩
theorem ZM {s:List UInt8} (h:∀c ∈ s,c.toNat<128):uU s=s.length:=by
 have aD:∀a,a<s.length->nd s a=1:=by
  intro a a1;have bc:decodeL s a=((s[a]).toNat,1):=by unfold decodeL;rw [Lib.decode_at];simp only [Sf,List.getElem?_eq_getElem a1,Option.getD_some];unfold Lib.decodeN;rw [if_pos (h _ (List.getElem_mem a1))]
  unfold nd;rw [bc,if_neg (by have:=h _ (List.getElem_mem a1);simp only [Prod.mk.injEq,and_true];omega)]
 have:∀n a,s.length-a=n->a<=s.length->rM s a=s.length:=by
  intro n
  induction n with
  | zero=>intro a aa ad;exact Wo (by omega)
  | succ n br=>
    intro a aa ad;have aO:a<s.length:=by omega
    rw [MM aO (by rw [aD a aO];decide),aD a aO];exact br _ (by omega) (by omega)
 exact this s.length 0 (by omega) (by omega)
theorem aj1 {s:List UInt8} (h:∀c ∈ s,c.toNat<128):oE s=if 65536<s.length then .error (3,0) else ru s 0:=by unfold oE;rw [ZM h,if_neg (Nat.lt_irrefl _)]
theorem akl {c:UInt8} (h:fH c=true):blank c=false/\c≠40:=by
 constructor
 . cases ae:blank c with
   | false=>rfl
   | true=>
     unfold blank at ae;simp only [Bool.or_eq_true,decide_eq_true_eq] at ae;rcases ae with ((rfl | rfl) | rfl) | rfl<;>exact absurd h (by decide)
 . rintro rfl;exact absurd h (by decide)
theorem akP {c:UInt8} (h:c≠40) (r:List UInt8):([40,42]:List UInt8).isPrefixOf (c::r)=false:=by
 have:((40:UInt8) == c)=false:=by rw [beq_eq_false_iff_ne];exact fun q=>h q.symm
 simp [List.isPrefixOf,this]
theorem WT {c:UInt8} (h:hN c.toNat=true):fE c=false/\c≠34:=by unfold hN at h;simp only [Bool.and_eq_true,decide_eq_true_eq] at h;refine ⟨?_,by rintro rfl;exact absurd h (by decide)⟩;unfold fE nf;simp only [Bool.and_eq_false_iff,decide_eq_false_iff_not];omega
theorem aea {c:UInt8} (h:nj c.toNat=true):fE c=false/\c≠34/\hN c.toNat=false/\c≠95:=by
 unfold nj at h;simp only [Bool.and_eq_true,decide_eq_true_eq] at h;refine ⟨?_,by rintro rfl;exact absurd h (by decide),?_,by rintro rfl;exact absurd h (by decide)⟩
 . unfold fE nf;simp only [Bool.and_eq_false_iff,decide_eq_false_iff_not];omega
 . unfold hN;simp only [Bool.and_eq_false_iff,decide_eq_false_iff_not];omega
theorem akB {k:Int} {s:List UInt8} (h:j5 k s=true):s≠[]/\s.length<=64/\s.all fH=true/\(if k=3 then (mw s||s.head? == some 95)&&!decide (s=[95])&&!pn s else if k=4 then Bv s else mw s)=true:=by unfold j5 at h;rw [Bool.and_eq_true,Bool.and_eq_true,Bool.and_eq_true,decide_eq_true_eq,decide_eq_true_eq] at h;exact ⟨h.1.1.1,h.1.1.2,h.1.2,h.2⟩
theorem akJ {c:UInt8} {t:List UInt8} (h:hN c.toNat=true\/c=95):hf (c::t)=kI 3 (c::t):=by
 have bc:fE c=false:=h.elim (fun q=>(WT q).1) (fun q=>by rw [q];decide);have aeg:c≠34:=h.elim (fun q=>(WT q).2) (fun q=>by rw [q];decide);have aR:(hN c.toNat||decide (c=95))=true:=by simpa using h
 simp only [hf,bc,aR,if_neg aeg,Bool.false_eq_true,if_false,if_true]
theorem ZL {c:UInt8} (h:fH c=true):c.toNat<128:=by unfold fH uA nf hN nj at h;simp only [Bool.or_eq_true,Bool.and_eq_true,decide_eq_true_eq] at h;omega
theorem Xy {p:UInt8->Bool}:∀s:List UInt8,s.all p=true->s.takeWhile p=s
 | [],_=>rfl
 | c::s,h=>by rw [List.all_cons,Bool.and_eq_true] at h;rw [List.takeWhile_cons,h.1,if_pos rfl,Xy s h.2]
theorem O3 (p:UInt8->Bool):∀s:List UInt8,(s.takeWhile p).all p=true
 | []=>rfl
 | c::s=>by
   rw [List.takeWhile_cons]
   split
   . rename_i h;rw [List.all_cons,h,O3 p s];rfl
   . rfl
theorem LO {k:Int} {c:UInt8} {r:List UInt8} {q:Int × Int × List UInt8 × Nat} (aH:(k=3/\(hN c.toNat=true\/c=95))\/(k=4/\nj c.toNat=true)\/(k=5/\hN c.toNat=true)) (h:kI k (c::r)=.ok q) (aC:q.1=3\/q.1=4\/q.1=5):
 q.1=k/\j5 k q.2.2.1=true:=by
 have ay:fH c=true:=by
  rcases aH with ⟨_,q | q⟩ | ⟨_,q⟩ | ⟨_,q⟩
  . exact MX q
  . exact XC q
  . exact Sk q
  . exact MX q
 have aw:(c::r).takeWhile fH=c::r.takeWhile fH:=by rw [List.takeWhile_cons,if_pos ay]
 have a1:=O3 fH (c::r);rw [aw] at a1;unfold kI at h;simp only [aw] at h;generalize r.takeWhile fH=t at *
 split at h
 . cases h;simp at aC
 . rename_i afS
   split at h
   . cases h;simp at aC
   . rename_i y0
     split at h
     . cases h
     . rename_i hlen;cases h;refine ⟨rfl,?_⟩;have mA:(if k=3 then (mw (c::t)||(c::t).head? == some 95)&&!decide (c::t=[95])&&!pn (c::t) else if k=4 then Bv (c::t) else mw (c::t))=true:=by
        rcases aH with ⟨rfl,z⟩ | ⟨rfl,z⟩ | ⟨rfl,z⟩
        . rw [if_pos rfl];have aa:(mw (c::t)||(c::t).head? == some 95)=true:=by
           rcases z with z | z
           . show (hN c.toNat||_)=true;rw [z];rfl
           . subst z;simp
          rw [aa,decide_eq_false (fun z=>afS ⟨rfl,z⟩),Bool.eq_false_iff.2 (fun z=>y0 ⟨rfl,z⟩)];rfl
        . exact z
        . exact z
       show j5 k (c::t)=true;unfold j5;rw [mA,a1,decide_eq_true (show c::t≠[] by simp),decide_eq_true (show (c::t).length<=64 by omega)];rfl
theorem akE {r:List UInt8} {q:Int × Int × List UInt8 × Nat} (h:hf r=.ok q) (aC:q.1=3\/q.1=4\/q.1=5):j5 q.1 q.2.2.1=true:=by
 match r,h with
 | c::r,h=>
   simp only [hf] at h
   split at h
   . unfold zy at h;simp only at h
     split at h
     . cases h
     . cases h;simp at aC
   . split at h
     . unfold tf at h
       split at h
       . cases h
       . split at h
         . cases h
         . cases h;simp at aC
     . split at h
       . rename_i aR;have:=LO (.inl ⟨rfl,by simpa using aR⟩) h aC;rw [this.1];exact this.2
       . split at h
         . rename_i aR;have:=LO (.inr (.inl ⟨rfl,aR⟩)) h aC;rw [this.1];exact this.2
         . split at h
           . rename_i aR;cases aV:kI 5 r with
             | error e=>rw [aV] at h;cases h
             | ok ec=>
               rw [aV] at h;cases h;obtain ⟨d,t,rfl⟩:∃d t,r=d::t:=by
                cases r with
                | nil=>simp [mw] at aR
                | cons d t=>exact ⟨d,t,rfl⟩
               have:=LO (.inr (.inr ⟨rfl,aR.2⟩)) aV aC;show j5 ec.1 ec.2.2.1=true;rw [this.1];exact this.2
           . unfold zU at h
             split at h
             . cases h;simp at aC
             . cases h
theorem F4:∀(f:Nat) (r:List UInt8) (p:Nat) (ws:List cA),oD f r p=.ok ws->∀w ∈ ws,w.kind=3\/w.kind=4\/w.kind=5->j5 w.kind w.text=true
 | 0,r,p,ws,h,w,hw,_=>by simp only [oD,Except.ok.injEq] at h;subst h;cases hw
 | f+1,[],p,ws,h,w,hw,_=>by simp only [oD,Except.ok.injEq] at h;subst h;cases hw
 | f+1,c::r,p,ws,h,w,hw,aH=>by
   simp only [oD] at h
   split at h
   . exact F4 f _ _ ws h w hw aH
   . split at h
     . split at h
       . cases h
       . exact F4 f _ _ ws h w hw aH
     . split at h
       . cases h
       . rename_i q aV;cases aF:oD f ((c::r).drop q.2.2.2) (p+q.2.2.2) with
         | error aP=>rw [aF] at h;cases h
         | ok b0=>
           rw [aF] at h;simp only [A3,Except.ok.injEq] at h;subst h;rcases List.mem_cons.1 hw with rfl | hw
           . exact akE aV aH
           . exact F4 f _ _ b0 aF w hw aH
theorem ams {k:Int} {s:List UInt8} (aH:k=3\/k=4\/k=5) (h:j5 k s=true):oE (if k=5 then 39::s else s)=.ok [⟨k,0,0,s⟩]:=by
 obtain ⟨g1,g2,g3,g4⟩:=akB h;obtain ⟨c,t,rfl⟩:=List.exists_cons_of_ne_nil g1;have aeC:∀d ∈ (if k=5 then 39::c::t else c::t),d.toNat<128:=by
  intro d bc;have aa:∀d ∈ c::t,d.toNat<128:=fun d bc=>ZL (List.all_eq_true.1 g3 d bc)
  split at bc
  . rcases List.mem_cons.1 bc with rfl | bc
    . decide
    . exact aa d bc
  . exact aa d bc
 rw [aj1 aeC,if_neg (by split<;>simp only [List.length_cons] at g2 ⊢<;>omega)];have ay:fH c=true:=by rw [List.all_cons,Bool.and_eq_true] at g3;exact g3.1
 obtain ⟨cb,b9⟩:=akl ay;have rd:∀j:Int,(j=3->c::t≠[95]/\pn (c::t)=false)->kI j (c::t)=.ok (j,0,c::t,(c::t).length):=by intro j aU;unfold kI;simp only [Xy _ g3];rw [if_neg (fun q=>(aU q.1).1 q.2),if_neg (fun q=>by rw [(aU q.1).2] at q;simp at q),if_neg (by omega)]
 have fin:∀(d:UInt8) (u:List UInt8) (q:Int × Int × List UInt8 × Nat),blank d=false->d≠40->hf (d::u)=.ok q->q.2.2.2=(d::u).length->ru (d::u) 0=.ok [⟨q.1,q.2.1,0,q.2.2.1⟩]:=by intro d u q aP a' cM fM;rw [Up,aP,if_neg Bool.false_ne_true,akP a',if_neg Bool.false_ne_true,cM];simp only [fM,List.drop_length];rfl
 rcases aH with rfl | rfl | rfl
 . rw [if_neg (by decide)];rw [if_pos rfl] at g4;simp only [Bool.and_eq_true,Bool.not_eq_true',decide_eq_false_iff_not,Bool.or_eq_true,beq_iff_eq] at g4;have bl:hN c.toNat=true\/c=95:=g4.1.1.imp id (fun q=>Option.some.inj q);exact fin c t _ cb b9 (by rw [akJ bl];exact rd 3 (fun _=>⟨g4.1.2,g4.2⟩)) rfl
 . rw [if_neg (by decide)];rw [if_neg (by decide),if_pos rfl] at g4;have aB:nj c.toNat=true:=g4;obtain ⟨cS,fP,n3,n4⟩:=aea aB;refine fin c t (4,0,c::t,(c::t).length) cb b9 ?_ rfl;simp only [hf,cS,n3,aB,if_neg fP,Bool.false_eq_true,if_false,if_true,Bool.false_or,decide_eq_true_eq,if_neg n4];exact rd 4 (fun q=>absurd q (by decide))
 . rw [if_pos rfl];rw [if_neg (by decide),if_neg (by decide)] at g4;refine fin 39 (c::t) (5,0,c::t,(c::t).length+1) (by decide) (by decide) ?_ rfl;simp only [hf];rw [if_neg (by decide),if_neg (by decide),if_neg (by decide),if_neg (by decide),if_pos ⟨trivial,g4⟩,rd 5 (fun q=>absurd q (by decide))];rfl
theorem Ja (t:aL):t.deep=fm t.l+1:=by cases t;simp only [aL.deep,aL.l]
theorem size_eq (t:aL):t.size=1+ca t.l:=by cases t;simp only [aL.size,aL.l]
theorem GG:∀l m:List aL,fm (l++m)=max (fm l) (fm m)
 | [],m=>by simp [fm]
 | t::l,m=>by rw [List.cons_append,fm,fm,GG l m,Nat.max_assoc]
theorem xj:∀l m:List aL,ca (l++m)=ca l+ca m
 | [],m=>by simp [ca]
 | t::l,m=>by rw [List.cons_append,ca,ca,xj l m,Nat.add_assoc]
theorem take_one {l:List aL} {i:Nat} (h:i<l.length):l.take (i+1)=l.take i++[l[i]]:=by rw [List.take_succ_eq_append_getElem h]
theorem VC {l:List aL} {i:Nat} (h:i<l.length):fm (l.take (i+1))=max (fm (l.take i)) l[i].deep:=by rw [take_one h,GG,fm,fm,Nat.max_zero]
theorem uO {l:List aL} {i:Nat} (h:i<l.length):ca (l.take (i+1))=ca (l.take i)+l[i].size:=by rw [take_one h,xj,ca,ca,Nat.add_zero]
mutual
theorem Rl:∀t:aL,t.deep<=t.size
 | .mk k n s l=>by rw [aL.deep,aL.size];have:=GH l;omega
theorem GH:∀l:List aL,fm l<=ca l
 | []=>Nat.le_refl _
 | t::l=>by rw [fm,ca];have:=Rl t;have:=GH l;omega
end
theorem nK (l:List aL) (i:Nat):ca (l.take i)<=ca l:=by have:=xj (l.take i) (l.drop i);rw [List.take_append_drop] at this;omega
theorem Mo {l:List aL} {i:Nat} (an:i<l.length):ca l[i].l<ca l:=by have aa:=xk (List.getElem_mem an);have ad:=size_eq l[i];omega
theorem Ge (a b:Nat):(if (a:Int) < (b:Int) then (b:Int) else (a:Int))=((max a b:Nat):Int):=by
 by_cases h:(a:Int) < (b:Int)
 . rw [if_pos h,Nat.max_eq_right (by omega)]
 . rw [if_neg h,Nat.max_eq_left (by omega)]
mutual
def aL.pred:Nat->aL->List (Nat × aL)
 | d,.mk k n s l=>(d,.mk k n s l)::i' (d+1) l
def i':Nat->List aL->List (Nat × aL)
 | _,[]=>[]
 | d,t::l=>t.pred d++i' d l
end
theorem alR (d:Nat) (t:aL):t.pred d=(d,t)::i' (d+1) t.l:=by cases t;simp only [aL.pred,aL.l]
theorem Mj (d:Nat):∀l m:List aL,i' d (l++m)=i' d l++i' d m
 | [],m=>rfl
 | t::l,m=>by rw [List.cons_append,i',i',Mj d l m,List.append_assoc]
theorem alU (d:Nat) (t:aL):i' d [t]=t.pred d:=by rw [i',i',List.append_nil]
mutual
theorem Mh:∀(d:Nat) (t:aL),(t.pred d).map Prod.snd=t.pre
 | d,.mk k n s l=>by rw [aL.pred,aL.pre,List.map_cons,Mk (d+1) l]
theorem Mk:∀(d:Nat) (l:List aL),(i' d l).map Prod.snd=uN l
 | _,[]=>rfl
 | d,t::l=>by rw [i',uN,List.map_append,Mh d t,Mk d l]
end
theorem alS (d:Nat) (t:aL):(t.pred d).length=t.size:=by rw [<-VN,<-Mh d t,List.length_map]
theorem alT (d:Nat) (l:List aL):(i' d l).length=ca l:=by rw [<-Ml,<-Mk d l,List.length_map]
def maxD (l:List (Nat × aL)):Nat:=l.foldl (fun m x=>max m x.1) 0
theorem foldl_max (l:List (Nat × aL)) (m:Nat):l.foldl (fun m x=>max m x.1) m=max m (maxD l):=by
 unfold maxD
 induction l generalizing m with
 | nil=>simp
 | cons x l br=>rw [List.foldl_cons,List.foldl_cons,br,br (max 0 x.1)];omega
theorem LJ (l m:List (Nat × aL)):maxD (l++m)=max (maxD l) (maxD m):=by
 conv=>lhs;unfold maxD
 rw [List.foldl_append,foldl_max];rfl
theorem UJ (x:Nat × aL) (l:List (Nat × aL)):maxD (x::l)=max x.1 (maxD l):=by have:=LJ [x] l;rw [List.singleton_append] at this;rw [this];congr 1
mutual
theorem VP:∀(d:Nat) (t:aL),maxD (t.pred d)+1=d+t.deep
 | d,.mk k n s l=>by
   rw [aL.pred,aL.deep,UJ];have:=VQ (d+1) l;simp only
   split at this
   . rename_i q;subst q;simp only [i',fm];unfold maxD;simp
   . omega
theorem VQ:∀(d:Nat) (l:List aL),if l=[] then maxD (i' d l)=0 else maxD (i' d l)+1=d+fm l
 | _,[]=>by simp [i',maxD]
 | d,t::l=>by
   rw [if_neg (by simp),i',LJ,fm];have aa:=VP d t;have ad:=VQ d l
   split at ad
   . rename_i q;subst q;rw [ad];simp only [fm];omega
   . omega
end
def Ii:List UInt8:=[45,62]
def M5:List UInt8:=[42]
def aL.own (t:aL):Bool:=
 if t.k=1 then decide (0<=t.n)&&decide (t.n<=1048575)&&decide (t.s=[])&&decide (t.l.length=0)
 else if t.k=2 then (if t.s=Ii\/t.s=M5 then decide (t.n=0)&&decide (t.l.length=2) else decide (t.n=0)&&decide (t.l.length<=64)&&j5 3 t.s)
 else false
mutual
def aL.shape:aL->Bool
 | .mk k n s l=>(aL.mk k n s l).own&&mR l
def mR:List aL->Bool
 | []=>true
 | t::l=>t.shape&&mR l
end
theorem am3 (t:aL):t.shape=(t.own&&mR t.l):=by cases t;rw [aL.shape];rfl
mutual
theorem WL:∀t:aL,t.shape=t.pre.all aL.own
 | .mk k n s l=>by rw [aL.shape,aL.pre,List.all_cons,WN l]
theorem WN:∀l:List aL,mR l=(uN l).all aL.own
 | []=>rfl
 | t::l=>by rw [mR,uN,List.all_append,WL t,WN l]
end
def aL.check (t:aL):Int:=if t.shape then (if t.size<=4096/\t.deep<=200 then 0 else 3) else 2
def OW (out:List Int) (t:aL):List Int:=if t.k=1/\¬t.n ∈ out then out++[t.n] else out
end
end Go.Proofs.YthemdhlheglhoaaGreatDoor
