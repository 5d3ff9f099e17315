/- The chapter's functions, walked by the abstract machine: plain lemmas, no condition. Printed by a program from longer texts: names made short. -/
import Derived.Test.YthemdhlheglhoaaGreatDoorM8
import Derived.Test.YthemdhlheglhoaaGreatDoorM9
import Derived.Shelf.LaysM
import Derived.Shelf.Strconv.Itoa3
import Derived.Shelf.Unicode.Decode
import Derived.Shelf.Unicode.DecodeSlow
import Derived.Shelf.Unicode.DecodeAny
import Derived.Shelf.Strconv.Atoi
import Derived.Shelf.Pu.ParseUintPublic10
import Derived.Lib.LaidU8T
import Derived.Test.YthemdhlheglhoaaGreatDoorM6
set_option linter.unusedSectionVars false
set_option linter.unusedSimpArgs false
set_option linter.unusedVariables false
set_option maxHeartbeats 64000000
noncomputable section
namespace Go.Proofs.YthemdhlheglhoaaGreatDoor
section
open Go aY
theorem ac':Extern.findNext Tryz.f153=none:=by kernel_rfl
theorem ac9:(Extern.find Tryz.f153)=some Extern.BytealgIndexByte.indexByte:=by kernel_rfl
theorem agP (s:List UInt8) (c:Int) (h:ah):gI Tryz.prog 153 [.str s,.int .u8 c] h (.int .i64 (Lib.indexByte s c.toNat.toUInt8)) h:=
 agR (by decide) Tryz.func153 (by kernel_rfl) (by kernel_rfl) ac' ac9 s c h
theorem agO (s:List UInt8) (c:Int) (h:ah):gI Tryz.prog 138 [.str s,.int .u8 c] h (.int .i64 (Lib.indexByte s c.toNat.toUInt8)) h:=by refine sR (aaA.z rfl (dF ?_));unfold c138;simp +contextual only [↓al,aK,simprocAttr];refine h2 (agP _ _ _) ?_;simp +contextual only [↓al,aK,simprocAttr]
theorem Tu (s:List UInt8) (c:Int) (h:ah):gI Tryz.prog 124 [.str s,.int .u8 c] h (.int .i64 (Lib.indexByte s c.toNat.toUInt8)) h:=by refine sR (aaw.z rfl (dF ?_));unfold PF;simp +contextual only [↓al,aK,simprocAttr];refine h2 (agO _ _ _) ?_;simp +contextual only [↓al,aK,simprocAttr]
end
section
open Go Go.Shelf
def Tryz.ajG:Go.Shelf.Ren:=⟨fun | 197=>137 | 260=>152 | n=>n,fun | 9=>9 | 21=>21 | 3=>3 | 4=>4 | 5=>5 | 105=>182 | 119=>199 | 0=>0 | 46=>141 | 139=>202 | 138=>201 | n=>n,fun | 3=>2 | 4=>3 | n=>n⟩
theorem Tryz.ajF:Go.Proofs.Lays.n197 Tryz.prog Tryz.ajG:={
 mixed:=by kernel_rfl,
 f197:=Tryz.func137.trans (congrArg some (by kernel_rfl)),
 f260:=Tryz.func152.trans (congrArg some (by kernel_rfl)),
 t0:=Tryz.underlying0,
 a0:=Tryz.isAgg0,
 z0:=Tryz.sizeOf0,
 v0:=Tryz.zeroValue0,
 t3:=Tryz.underlying3,
 a3:=Tryz.isAgg3,
 z3:=Tryz.sizeOf3,
 v3:=Tryz.zeroValue3,
 t4:=Tryz.underlying4,
 a4:=Tryz.isAgg4,
 z4:=Tryz.sizeOf4,
 v4:=Tryz.zeroValue4,
 t5:=Tryz.underlying5,
 a5:=Tryz.isAgg5,
 z5:=Tryz.sizeOf5,
 v5:=Tryz.zeroValue5,
 t9:=Tryz.underlying9,
 a9:=Tryz.isAgg9,
 z9:=Tryz.sizeOf9,
 v9:=Tryz.zeroValue9,
 t21:=Tryz.underlying21,
 a21:=Tryz.isAgg21,
 z21:=Tryz.sizeOf21,
 v21:=Tryz.zeroValue21,
 t46:=Tryz.underlying141,
 a46:=Tryz.isAgg141,
 z46:=Tryz.sizeOf141,
 v46:=Tryz.zeroValue141,
 t105:=Tryz.underlying182,
 a105:=Tryz.isAgg182,
 z105:=Tryz.sizeOf182,
 v105:=Tryz.zeroValue182,
 t119:=Tryz.underlying199,
 a119:=Tryz.isAgg199,
 z119:=Tryz.sizeOf199,
 t138:=Tryz.underlying201,
 a138:=Tryz.isAgg201,
 z138:=Tryz.sizeOf201,
 v138:=Tryz.zeroValue201,
 t139:=Tryz.underlying202,
 a139:=Tryz.isAgg202,
 z139:=Tryz.sizeOf202,
 v139:=Tryz.zeroValue202,
 g3:=by kernel_rfl,
 g4:=by kernel_rfl}
def Tryz.ajE:Go.Shelf.Ren:=⟨fun | 172=>166 | 244=>176 | 245=>165 | 247=>180 | 279=>172 | 280=>173 | 281=>174 | 282=>175 | 287=>164 | 316=>178 | 171=>94 | 205=>179 | 321=>170 | 322=>171 | 243=>109 | 246=>128 | 283=>147 | 284=>148 | 285=>149 | 286=>150 | 129=>122 | 317=>160 | 318=>161 | 319=>162 | 320=>163 | 337=>168 | 338=>169 | n=>n,fun | 9=>9 | 3=>3 | 75=>133 | 76=>134 | 4=>4 | 5=>5 | 167=>205 | 37=>128 | 0=>0 | 85=>216 | 2=>2 | 168=>207 | 53=>166 | 175=>192 | 46=>141 | 210=>214 | 127=>155 | 145=>220 | 143=>218 | 21=>21 | 171=>186 | 173=>188 | 212=>197 | 51=>164 | 20=>20 | 213=>198 | 232=>210 | 233=>211 | 80=>136 | n=>n,fun | 15=>6 | 16=>7 | 17=>1 | 18=>4 | 19=>5 | n=>n⟩
theorem Tryz.ajD:Go.Proofs.Lays.n172 Tryz.prog Tryz.ajE:={
 mixed:=by kernel_rfl,
 f129:=Tryz.func122.trans (congrArg some (by kernel_rfl)),
 f171:=Tryz.func94.trans (congrArg some (by kernel_rfl)),
 f172:=Tryz.func166.trans (congrArg some (by kernel_rfl)),
 f205:=Tryz.func179.trans (congrArg some (by kernel_rfl)),
 f243:=Tryz.func109.trans (congrArg some (by kernel_rfl)),
 f244:=Tryz.func176.trans (congrArg some (by kernel_rfl)),
 f245:=Tryz.func165.trans (congrArg some (by kernel_rfl)),
 f246:=Tryz.func128.trans (congrArg some (by kernel_rfl)),
 f247:=Tryz.func180.trans (congrArg some (by kernel_rfl)),
 f279:=Tryz.func172.trans (congrArg some (by kernel_rfl)),
 f280:=Tryz.func173.trans (congrArg some (by kernel_rfl)),
 f281:=Tryz.func174.trans (congrArg some (by kernel_rfl)),
 f282:=Tryz.func175.trans (congrArg some (by kernel_rfl)),
 f283:=Tryz.func147.trans (congrArg some (by kernel_rfl)),
 f284:=Tryz.func148.trans (congrArg some (by kernel_rfl)),
 f285:=Tryz.func149.trans (congrArg some (by kernel_rfl)),
 f286:=Tryz.func150.trans (congrArg some (by kernel_rfl)),
 f287:=Tryz.func164.trans (congrArg some (by kernel_rfl)),
 f316:=Tryz.func178.trans (congrArg some (by kernel_rfl)),
 f317:=Tryz.func160.trans (congrArg some (by kernel_rfl)),
 f318:=Tryz.func161.trans (congrArg some (by kernel_rfl)),
 f319:=Tryz.func162.trans (congrArg some (by kernel_rfl)),
 f320:=Tryz.func163.trans (congrArg some (by kernel_rfl)),
 f321:=Tryz.func170.trans (congrArg some (by kernel_rfl)),
 f322:=Tryz.func171.trans (congrArg some (by kernel_rfl)),
 f337:=Tryz.func168.trans (congrArg some (by kernel_rfl)),
 f338:=Tryz.func169.trans (congrArg some (by kernel_rfl)),
 t0:=Tryz.underlying0,
 a0:=Tryz.isAgg0,
 z0:=Tryz.sizeOf0,
 v0:=Tryz.zeroValue0,
 t2:=Tryz.underlying2,
 a2:=Tryz.isAgg2,
 z2:=Tryz.sizeOf2,
 v2:=Tryz.zeroValue2,
 t3:=Tryz.underlying3,
 a3:=Tryz.isAgg3,
 z3:=Tryz.sizeOf3,
 v3:=Tryz.zeroValue3,
 t4:=Tryz.underlying4,
 a4:=Tryz.isAgg4,
 z4:=Tryz.sizeOf4,
 v4:=Tryz.zeroValue4,
 t5:=Tryz.underlying5,
 a5:=Tryz.isAgg5,
 z5:=Tryz.sizeOf5,
 v5:=Tryz.zeroValue5,
 t9:=Tryz.underlying9,
 a9:=Tryz.isAgg9,
 z9:=Tryz.sizeOf9,
 v9:=Tryz.zeroValue9,
 t20:=Tryz.underlying20,
 a20:=Tryz.isAgg20,
 z20:=Tryz.sizeOf20,
 v20:=Tryz.zeroValue20,
 t21:=Tryz.underlying21,
 a21:=Tryz.isAgg21,
 z21:=Tryz.sizeOf21,
 v21:=Tryz.zeroValue21,
 t37:=Tryz.underlying128,
 a37:=Tryz.isAgg128,
 z37:=Tryz.sizeOf128,
 v37:=Tryz.zeroValue128,
 t46:=Tryz.underlying141,
 a46:=Tryz.isAgg141,
 z46:=Tryz.sizeOf141,
 v46:=Tryz.zeroValue141,
 t51:=Tryz.underlying164,
 a51:=Tryz.isAgg164,
 z51:=Tryz.sizeOf164,
 v51:=Tryz.zeroValue164,
 t53:=Tryz.underlying166,
 a53:=Tryz.isAgg166,
 z53:=Tryz.sizeOf166,
 v53:=Tryz.zeroValue166,
 t75:=Tryz.underlying133,
 a75:=Tryz.isAgg133,
 z75:=Tryz.sizeOf133,
 v75:=Tryz.zeroValue133,
 t76:=Tryz.underlying134,
 a76:=Tryz.isAgg134,
 z76:=Tryz.sizeOf134,
 v76:=Tryz.zeroValue134,
 t85:=Tryz.underlying216,
 a85:=Tryz.isAgg216,
 z85:=Tryz.sizeOf216,
 v85:=Tryz.zeroValue216,
 t127:=Tryz.underlying155,
 a127:=Tryz.isAgg155,
 z127:=Tryz.sizeOf155,
 v127:=Tryz.zeroValue155,
 t143:=Tryz.underlying218,
 a143:=Tryz.isAgg218,
 z143:=Tryz.sizeOf218,
 v143:=Tryz.zeroValue218,
 t145:=Tryz.underlying220,
 a145:=Tryz.isAgg220,
 z145:=Tryz.sizeOf220,
 v145:=Tryz.zeroValue220,
 t167:=Tryz.underlying205,
 a167:=Tryz.isAgg205,
 z167:=Tryz.sizeOf205,
 v167:=Tryz.zeroValue205,
 t168:=Tryz.underlying207,
 a168:=Tryz.isAgg207,
 z168:=Tryz.sizeOf207,
 v168:=Tryz.zeroValue207,
 t171:=Tryz.underlying186,
 a171:=Tryz.isAgg186,
 z171:=Tryz.sizeOf186,
 v171:=Tryz.zeroValue186,
 t173:=Tryz.underlying188,
 a173:=Tryz.isAgg188,
 z173:=Tryz.sizeOf188,
 v173:=Tryz.zeroValue188,
 t175:=Tryz.underlying192,
 a175:=Tryz.isAgg192,
 z175:=Tryz.sizeOf192,
 v175:=Tryz.zeroValue192,
 t210:=Tryz.underlying214,
 a210:=Tryz.isAgg214,
 z210:=Tryz.sizeOf214,
 v210:=Tryz.zeroValue214,
 t212:=Tryz.underlying197,
 a212:=Tryz.isAgg197,
 z212:=Tryz.sizeOf197,
 v212:=Tryz.zeroValue197,
 t213:=Tryz.underlying198,
 a213:=Tryz.isAgg198,
 z213:=Tryz.sizeOf198,
 t232:=Tryz.underlying210,
 a232:=Tryz.isAgg210,
 z232:=Tryz.sizeOf210,
 v232:=Tryz.zeroValue210,
 t233:=Tryz.underlying211,
 a233:=Tryz.isAgg211,
 z233:=Tryz.sizeOf211,
 v233:=Tryz.zeroValue211,
 g15:=by kernel_rfl,
 g16:=by kernel_rfl,
 g17:=by kernel_rfl,
 g18:=by kernel_rfl,
 g19:=by kernel_rfl}
def Tryz.LA:Go.Shelf.Ren:=⟨fun | 14=>155 | 16=>164 | 17=>165 | 19=>170 | 20=>171 | 21=>172 | 22=>173 | 23=>174 | 24=>175 | 25=>178 | 27=>94 | 26=>179 | 28=>109 | 29=>128 | 30=>147 | 31=>148 | 32=>149 | 33=>150 | 35=>122 | 34=>160 | 36=>161 | 37=>162 | 38=>163 | 39=>168 | 40=>169 | n=>n,fun | 9=>9 | 3=>3 | 22=>166 | 24=>133 | 25=>192 | 4=>4 | 34=>205 | 5=>5 | 36=>141 | 37=>128 | 0=>0 | 39=>207 | 21=>21 | 44=>214 | 47=>155 | 50=>220 | 48=>218 | 2=>2 | 52=>186 | 55=>188 | 59=>197 | 60=>164 | 20=>20 | 61=>198 | 65=>210 | 66=>211 | 67=>136 | n=>n,fun | 0=>6 | 1=>7 | 2=>1 | 3=>4 | 4=>5 | n=>n⟩
theorem Tryz.TT:Go.Proofs.LaysPu.n14 Tryz.prog Tryz.LA:={
 mixed:=by kernel_rfl,
 f14:=Tryz.func155.trans (congrArg some (by kernel_rfl)),
 f16:=Tryz.func164.trans (congrArg some (by kernel_rfl)),
 f17:=Tryz.func165.trans (congrArg some (by kernel_rfl)),
 f19:=Tryz.func170.trans (congrArg some (by kernel_rfl)),
 f20:=Tryz.func171.trans (congrArg some (by kernel_rfl)),
 f21:=Tryz.func172.trans (congrArg some (by kernel_rfl)),
 f22:=Tryz.func173.trans (congrArg some (by kernel_rfl)),
 f23:=Tryz.func174.trans (congrArg some (by kernel_rfl)),
 f24:=Tryz.func175.trans (congrArg some (by kernel_rfl)),
 f25:=Tryz.func178.trans (congrArg some (by kernel_rfl)),
 f26:=Tryz.func179.trans (congrArg some (by kernel_rfl)),
 f27:=Tryz.func94.trans (congrArg some (by kernel_rfl)),
 f28:=Tryz.func109.trans (congrArg some (by kernel_rfl)),
 f29:=Tryz.func128.trans (congrArg some (by kernel_rfl)),
 f30:=Tryz.func147.trans (congrArg some (by kernel_rfl)),
 f31:=Tryz.func148.trans (congrArg some (by kernel_rfl)),
 f32:=Tryz.func149.trans (congrArg some (by kernel_rfl)),
 f33:=Tryz.func150.trans (congrArg some (by kernel_rfl)),
 f34:=Tryz.func160.trans (congrArg some (by kernel_rfl)),
 f35:=Tryz.func122.trans (congrArg some (by kernel_rfl)),
 f36:=Tryz.func161.trans (congrArg some (by kernel_rfl)),
 f37:=Tryz.func162.trans (congrArg some (by kernel_rfl)),
 f38:=Tryz.func163.trans (congrArg some (by kernel_rfl)),
 f39:=Tryz.func168.trans (congrArg some (by kernel_rfl)),
 f40:=Tryz.func169.trans (congrArg some (by kernel_rfl)),
 t0:=Tryz.underlying0,
 a0:=Tryz.isAgg0,
 z0:=Tryz.sizeOf0,
 v0:=Tryz.zeroValue0,
 i0:=by kernel_rfl,
 t2:=Tryz.underlying2,
 a2:=Tryz.isAgg2,
 z2:=Tryz.sizeOf2,
 v2:=Tryz.zeroValue2,
 i2:=by kernel_rfl,
 t3:=Tryz.underlying3,
 a3:=Tryz.isAgg3,
 z3:=Tryz.sizeOf3,
 v3:=Tryz.zeroValue3,
 i3:=by kernel_rfl,
 t4:=Tryz.underlying4,
 a4:=Tryz.isAgg4,
 z4:=Tryz.sizeOf4,
 v4:=Tryz.zeroValue4,
 i4:=by kernel_rfl,
 t5:=Tryz.underlying5,
 a5:=Tryz.isAgg5,
 z5:=Tryz.sizeOf5,
 v5:=Tryz.zeroValue5,
 i5:=by kernel_rfl,
 t9:=Tryz.underlying9,
 a9:=Tryz.isAgg9,
 z9:=Tryz.sizeOf9,
 v9:=Tryz.zeroValue9,
 i9:=by kernel_rfl,
 t20:=Tryz.underlying20,
 a20:=Tryz.isAgg20,
 z20:=Tryz.sizeOf20,
 v20:=Tryz.zeroValue20,
 i20:=by kernel_rfl,
 t21:=Tryz.underlying21,
 a21:=Tryz.isAgg21,
 z21:=Tryz.sizeOf21,
 v21:=Tryz.zeroValue21,
 i21:=by kernel_rfl,
 t22:=Tryz.underlying166,
 a22:=Tryz.isAgg166,
 z22:=Tryz.sizeOf166,
 v22:=Tryz.zeroValue166,
 i22:=by kernel_rfl,
 t24:=Tryz.underlying133,
 a24:=Tryz.isAgg133,
 z24:=Tryz.sizeOf133,
 v24:=Tryz.zeroValue133,
 i24:=by kernel_rfl,
 t25:=Tryz.underlying192,
 a25:=Tryz.isAgg192,
 z25:=Tryz.sizeOf192,
 v25:=Tryz.zeroValue192,
 i25:=by kernel_rfl,
 t34:=Tryz.underlying205,
 a34:=Tryz.isAgg205,
 z34:=Tryz.sizeOf205,
 v34:=Tryz.zeroValue205,
 i34:=by kernel_rfl,
 c34:=by kernel_rfl,
 t36:=Tryz.underlying141,
 a36:=Tryz.isAgg141,
 z36:=Tryz.sizeOf141,
 v36:=Tryz.zeroValue141,
 i36:=by kernel_rfl,
 t37:=Tryz.underlying128,
 a37:=Tryz.isAgg128,
 z37:=Tryz.sizeOf128,
 v37:=Tryz.zeroValue128,
 i37:=by kernel_rfl,
 t39:=Tryz.underlying207,
 a39:=Tryz.isAgg207,
 z39:=Tryz.sizeOf207,
 v39:=Tryz.zeroValue207,
 i39:=by kernel_rfl,
 t44:=Tryz.underlying214,
 a44:=Tryz.isAgg214,
 z44:=Tryz.sizeOf214,
 v44:=Tryz.zeroValue214,
 i44:=by kernel_rfl,
 t47:=Tryz.underlying155,
 a47:=Tryz.isAgg155,
 z47:=Tryz.sizeOf155,
 v47:=Tryz.zeroValue155,
 i47:=by kernel_rfl,
 t48:=Tryz.underlying218,
 a48:=Tryz.isAgg218,
 z48:=Tryz.sizeOf218,
 v48:=Tryz.zeroValue218,
 i48:=by kernel_rfl,
 t50:=Tryz.underlying220,
 a50:=Tryz.isAgg220,
 z50:=Tryz.sizeOf220,
 v50:=Tryz.zeroValue220,
 i50:=by kernel_rfl,
 t52:=Tryz.underlying186,
 a52:=Tryz.isAgg186,
 z52:=Tryz.sizeOf186,
 v52:=Tryz.zeroValue186,
 i52:=by kernel_rfl,
 t55:=Tryz.underlying188,
 a55:=Tryz.isAgg188,
 z55:=Tryz.sizeOf188,
 v55:=Tryz.zeroValue188,
 i55:=by kernel_rfl,
 t59:=Tryz.underlying197,
 a59:=Tryz.isAgg197,
 z59:=Tryz.sizeOf197,
 v59:=Tryz.zeroValue197,
 i59:=by kernel_rfl,
 t60:=Tryz.underlying164,
 a60:=Tryz.isAgg164,
 z60:=Tryz.sizeOf164,
 v60:=Tryz.zeroValue164,
 i60:=by kernel_rfl,
 t61:=Tryz.underlying198,
 a61:=Tryz.isAgg198,
 z61:=Tryz.sizeOf198,
 t65:=Tryz.underlying210,
 a65:=Tryz.isAgg210,
 z65:=Tryz.sizeOf210,
 v65:=Tryz.zeroValue210,
 i65:=by kernel_rfl,
 t66:=Tryz.underlying211,
 a66:=Tryz.isAgg211,
 z66:=Tryz.sizeOf211,
 v66:=Tryz.zeroValue211,
 i66:=by kernel_rfl,
 t67:=Tryz.underlying136,
 a67:=Tryz.isAgg136,
 z67:=Tryz.sizeOf136,
 v67:=Tryz.zeroValue136,
 i67:=by kernel_rfl,
 g0:=by kernel_rfl,
 m0:=by kernel_rfl,
 g1:=by kernel_rfl,
 m1:=by kernel_rfl,
 g2:=by kernel_rfl,
 m2:=by kernel_rfl,
 g3:=by kernel_rfl,
 m3:=by kernel_rfl,
 g4:=by kernel_rfl,
 m4:=by kernel_rfl}
def Tryz.BZ:Go.Shelf.Ren:=⟨fun | 260=>152 | n=>n,fun | 9=>9 | 21=>21 | 3=>3 | 4=>4 | 5=>5 | 119=>199 | 0=>0 | 46=>141 | 139=>202 | 138=>201 | n=>n,fun | 3=>2 | 4=>3 | n=>n⟩
theorem Tryz.ajH:Go.Proofs.Lays.n260 Tryz.prog Tryz.BZ:={
 mixed:=by kernel_rfl,
 f260:=Tryz.func152.trans (congrArg some (by kernel_rfl)),
 t0:=Tryz.underlying0,
 a0:=Tryz.isAgg0,
 z0:=Tryz.sizeOf0,
 v0:=Tryz.zeroValue0,
 t3:=Tryz.underlying3,
 a3:=Tryz.isAgg3,
 z3:=Tryz.sizeOf3,
 v3:=Tryz.zeroValue3,
 t4:=Tryz.underlying4,
 a4:=Tryz.isAgg4,
 z4:=Tryz.sizeOf4,
 v4:=Tryz.zeroValue4,
 t5:=Tryz.underlying5,
 a5:=Tryz.isAgg5,
 z5:=Tryz.sizeOf5,
 v5:=Tryz.zeroValue5,
 t9:=Tryz.underlying9,
 a9:=Tryz.isAgg9,
 z9:=Tryz.sizeOf9,
 v9:=Tryz.zeroValue9,
 t21:=Tryz.underlying21,
 a21:=Tryz.isAgg21,
 z21:=Tryz.sizeOf21,
 v21:=Tryz.zeroValue21,
 t46:=Tryz.underlying141,
 a46:=Tryz.isAgg141,
 z46:=Tryz.sizeOf141,
 v46:=Tryz.zeroValue141,
 t119:=Tryz.underlying199,
 a119:=Tryz.isAgg199,
 z119:=Tryz.sizeOf199,
 t138:=Tryz.underlying201,
 a138:=Tryz.isAgg201,
 z138:=Tryz.sizeOf201,
 v138:=Tryz.zeroValue201,
 t139:=Tryz.underlying202,
 a139:=Tryz.isAgg202,
 z139:=Tryz.sizeOf202,
 v139:=Tryz.zeroValue202,
 g3:=by kernel_rfl,
 g4:=by kernel_rfl}
end
section
open Go aY Go.RowKit
section
open Go.Shelf
theorem acq (s:ByteArray) (w:World) (cK:Lib.Utf8Tabs 2 3 w):
 Calls Tryz.prog 137 #[.string s] w fun e w'=>e=.returned (.tuple #[.int .i32 (Lib.decodeGo s).1,.int .i64 (Lib.decodeGo s).2])/\Below w.heap.size w w':=Any.utf8_DecodeRuneInString Tryz.ajF s w cK
theorem Z8 (s:ByteArray) (n:Int) (az:s.size<=18) (h:Lib.atoi s.data.toList=some n) (w:World):
 Calls Tryz.prog 166 #[.string s] w fun e w'=>e=.returned (.tuple #[.int .i64 n,.nilIface])/\Below w.heap.size w w':=(Any.strconv_Atoi Tryz.ajD s n az h w).mono fun e w' q=>⟨q.1,by obtain ⟨t,rfl⟩:=q.2;exact Lib.bytesWorld_below _ _ _⟩
theorem alN (s:ByteArray) (yO:s.size<=9223372036854775806) (u:Nat) (h:Lib.parseUintB 64 s.data.toList=.ok u) (w:World):
 Calls Tryz.prog 155 #[.string s,.int .i64 10,.int .i64 64] w fun e w'=>e=.returned (.tuple #[.int .u64 u,.nilIface])/\Below w.heap.size w w':=(Any.strconv_ParseUint_10_at64_ok Tryz.TT s yO u h w).mono fun e w' q=>⟨q.1,by
  rcases q.2 with rfl | rfl
  . exact Below.refl _ _
  . exact Lib.bytesWorld_below _ _ _⟩
theorem alP (s:ByteArray) (wi:s.size<=281474976710656) (h:Lib.parseUintB 64 s.data.toList=.range) (w:World) (he:xI w 7):
 Calls Tryz.prog 155 #[.string s,.int .i64 10,.int .i64 64] w fun e w'=>(∃p,e=.returned (.tuple #[.int .u64 18446744073709551615,.iface (Tryz.LA.t 39) p]))/\Below w.heap.size w w':=by
 obtain ⟨aR,aa,ad⟩:=he;refine (Any.strconv_ParseUint_10_at64_range Tryz.TT s wi h aR w aa ad).mono fun e w' q=>?_;obtain ⟨N,aH,_,_,cA⟩:=q;exact ⟨⟨_,aH⟩,cA⟩
end
theorem BX {f:FuncId} (a1:Nat.beq f dt=false) {args:List V} {v:V} {h:ah} (kh:∃fn,Tryz.prog.funcs[f]? =some fn/\fn.body.isSome=true) (H:∀E xs w,H4 w->bh E args xs->Calls Tryz.prog f xs.toArray w fun e w'=>∃x,e=.returned x/\Rel E v x/\Below w.heap.size w w'):gI Tryz.prog f args h v h:=by refine ⟨fun e=>by subst e;simp at a1,.inl ⟨kh,fun ay E w xs ai s=>?_⟩⟩;refine (H E xs w (Lay.gB s.laid s.frame) ai).mono fun e w' q=>?_;obtain ⟨x,rfl,ba,ae⟩:=q;exact ⟨E,x,rfl,fun _ _ q=>q,ba,s.below ae⟩
theorem aco (s:List UInt8) (h:ah):gI Tryz.prog 137 [.str s] h (.tuple [.int .i32 (Lib.decodeGo ⟨⟨s⟩⟩).1,.int .i64 (Lib.decodeGo ⟨⟨s⟩⟩).2]) h:=by refine BX (by decide) ⟨_,Tryz.func137,by kernel_rfl⟩ fun E xs w az ai=>?_;obtain ⟨y,cT,rfl,ao,rfl⟩:=ai;simp only [Rel] at ao;subst ao;refine (acq ⟨⟨s⟩⟩ w az.Xx).mono fun e w' q=>?_;obtain ⟨rfl,ae⟩:=q;refine ⟨_,rfl,?_,ae⟩;simp only [Rel];exact ⟨_,rfl,_,_,rfl,rfl,_,_,rfl,rfl,rfl⟩
theorem ab7 (s sub:List UInt8) (aM:s.length<=100000) (h:ah):gI Tryz.prog 159 [.str s,.str sub] h (.bool (Lib.contains s sub)) h:=by refine BX (by decide) ⟨_,Tryz.func159,by kernel_rfl⟩ fun E xs w az ai=>?_;obtain ⟨y,cT,rfl,ao,z,iF,rfl,ax,rfl⟩:=ai;simp only [Rel] at ao ax;subst ao ax;obtain ⟨m,hm⟩:=az.maxLen;refine (QK ⟨⟨s⟩⟩ ⟨⟨sub⟩⟩ m w (by show s.length<4294967281;omega) hm).mono fun e w' q=>?_;obtain ⟨rfl,rfl⟩:=q;refine ⟨_,rfl,?_,Below.refl _ _⟩;simp only [Rel]
theorem Z7 (s:List UInt8) (n:Int) (az:s.length<=18) (h:Lib.atoi s=some n) (af:ah):gI Tryz.prog 166 [.str s] af (.tuple [.int .i64 n,.nilIface]) af:=by refine BX (by decide) ⟨_,Tryz.func166,by kernel_rfl⟩ fun E xs w tV ai=>?_;obtain ⟨y,cT,rfl,ao,rfl⟩:=ai;simp only [Rel] at ao;subst ao;refine (Z8 ⟨⟨s⟩⟩ n az h w).mono fun e w' q=>?_;obtain ⟨rfl,ae⟩:=q;refine ⟨_,rfl,?_,ae⟩;simp only [Rel];exact ⟨_,rfl,_,_,rfl,rfl,_,_,rfl,rfl,rfl⟩
theorem alM (s:List UInt8) (u:Nat) (az:s.length<=100000) (h:Lib.parseUintB 64 s=.ok u) (af:ah):gI Tryz.prog 155 [.str s,.int .i64 10,.int .i64 64] af (.tuple [.int .u64 u,.nilIface]) af:=by refine BX (by decide) ⟨_,Tryz.func155,by kernel_rfl⟩ fun E xs w tV ai=>?_;obtain ⟨y,cT,rfl,ao,z,iF,rfl,ax,t,cJ,rfl,aL,rfl⟩:=ai;simp only [Rel] at ao ax aL;subst ao ax aL;refine (alN ⟨⟨s⟩⟩ (by show s.length<=9223372036854775806;omega) u h w).mono fun e w' q=>?_;obtain ⟨rfl,ae⟩:=q;refine ⟨_,rfl,?_,ae⟩;simp only [Rel];exact ⟨_,rfl,_,_,rfl,rfl,_,_,rfl,rfl,rfl⟩
def acP:TypeId:=Tryz.LA.t 39
theorem alO (s:List UInt8) (az:s.length<=100000) (h:Lib.parseUintB 64 s=.range) (af:ah):gI Tryz.prog 155 [.str s,.int .i64 10,.int .i64 64] af (.tuple [.int .u64 18446744073709551615,.iface acP .bad]) af:=by refine BX (by decide) ⟨_,Tryz.func155,by kernel_rfl⟩ fun E xs w tV ai=>?_;obtain ⟨y,cT,rfl,ao,z,iF,rfl,ax,t,cJ,rfl,aL,rfl⟩:=ai;simp only [Rel] at ao ax aL;subst ao ax aL;refine (alP ⟨⟨s⟩⟩ (by show s.length<=281474976710656;omega) h w tV.Rv).mono fun e w' q=>?_;obtain ⟨⟨p,rfl⟩,ae⟩:=q;refine ⟨_,rfl,?_,ae⟩;simp only [Rel];exact ⟨_,rfl,_,_,rfl,rfl,_,_,rfl,⟨p,rfl,trivial⟩,rfl⟩
end
section
open Go aY
def mG (s:List UInt8) (i:Nat):Nat:=if decodeL s i=(65533,1) then 0 else (decodeL s i).2
def sW:Nat->List UInt8->Nat->Nat
 | 0,s,_=>s.length
 | f+1,s,a=>if a<s.length then (if mG s a=0 then a else sW f s (a+mG s a)) else s.length
def ru (s:List UInt8) (a:Nat):Nat:=sW (s.length-a) s a
def uM (s:List UInt8):Nat:=ru s 0
theorem Wk (s:List UInt8):∀(f g a:Nat),s.length-a<=f->s.length-a<=g->sW f s a=sW g s a
 | 0,g,a,aa,ad=>by
   cases g with
   | zero=>rfl
   | succ g=>simp only [sW];rw [if_neg (by omega)]
 | f+1,0,a,aa,ad=>by simp only [sW];rw [if_neg (by omega)]
 | f+1,g+1,a,aa,ad=>by
   simp only [sW];by_cases aV:a<s.length
   . rw [if_pos aV,if_pos aV];by_cases aC:mG s a=0
     . rw [if_pos aC,if_pos aC]
     . rw [if_neg aC,if_neg aC];exact Wk s f g _ (by omega) (by omega)
   . rw [if_neg aV,if_neg aV]
theorem Wj {s:List UInt8} {a:Nat} (h:s.length<=a):ru s a=s.length:=by unfold ru;rw [show s.length-a=0 from by omega];rfl
theorem ams {s:List UInt8} {a:Nat} (h:a<s.length) (aC:mG s a=0):ru s a=a:=by unfold ru;rw [show s.length-a=s.length-a-1+1 from by omega,sW,if_pos h,if_pos aC]
theorem MU {s:List UInt8} {a:Nat} (h:a<s.length) (aC:mG s a≠0):ru s a=ru s (a+mG s a):=by unfold ru;rw [show s.length-a=s.length-a-1+1 from by omega,sW,if_pos h,if_neg aC];exact Wk s _ _ _ (by omega) (by omega)
def fk (c:UInt8):Bool:=nM c.toNat
def gE (c:UInt8):Bool:=wL c.toNat
def jk (l:List UInt8):Nat:=l.foldl (fun n c=>10 * n + (c.toNat-48)) 0
abbrev tt:=Except Int (Int × Int × List UInt8 × Nat)
def zt (r:List UInt8):tt:=
 let t:=r.takeWhile fk
 if 2147483647<jk t then .error 254 else .ok (1,(if 1073741823 < (jk t:Int) then (jk t:Int)-2147483648 else jk t),[],t.length)
def pR:List UInt8->Option (UInt8 × Nat)
 | []=>none
 | c::r=>if c=110 then some (10,1) else if c=116 then some (9,1) else if c=34 then some (34,1) else if c=92 then some (92,1) else
   if 2<=r.length/\fk c/\fk (r[0]?.getD 0)/\fk (r[1]?.getD 0)/\jk (c::r.take 2)<256 then some ((jk (c::r.take 2)).toUInt8,3) else none
def xl:Nat->List UInt8->Option (List UInt8 × Nat)
 | 0,_=>none
 | _+1,[]=>none
 | f+1,c::r=>if c=34 then some ([],1) else if c=92 then (match pR r with
    | none=>none
    | some (b,n)=>(xl f (r.drop n)).map fun q=>(b::q.1,q.2+n+1))
   else if c<32\/c=127 then none else (xl f r).map fun q=>(c::q.1,q.2+1)
def ql (r:List UInt8):Option (List UInt8 × Nat):=xl r.length r
def s4 (r:List UInt8):tt:=
 match ql r with
 | none=>.error 252
 | some (b,n)=>if 4096<b.length then .error 255 else .ok (2,0,b,n+1)
def Lu:List (List UInt8):=[[97,110,100],[98,101,103,105,110],[101,108,115,101],[101,110,100],[101,120,99,101,112,116,105,111,110],[102,97,108,115,101],[102,117,110],[105,102],[105,110],[108,101,116],[109,97,116,99,104],[109,111,100],[111,102],[114,97,105,115,101],[114,101,99],[116,104,101,110],[116,114,117,101],[116,114,121],[116,121,112,101],[119,105,116,104]]
def jM:List (List UInt8):=[[59,59],[58,61],[45,62],[60,61],[59],[40],[41],[44],[61],[60],[43],[45],[42],[47],[124],[33],[95]]
def sC (t:List UInt8):Bool:=Lu.contains t
def ko (kind:Int) (r:List UInt8):tt:=
 let t:=r.takeWhile gE
 if kind=3/\t=[95] then .ok (7,0,t,t.length) else if kind=3/\sC t then .ok (6,0,t,t.length) else if 64<t.length then .error 255 else .ok (kind,0,t,t.length)
def zQ (r:List UInt8):tt:=
 match jM.find? (·.isPrefixOf r) with
 | some t=>.ok (7,0,t,t.length)
 | none=>.error 251
def qV:List UInt8->Bool
 | d::_=>jj d.toNat
 | []=>false
def gU:List UInt8->tt
 | []=>.error 0
 | c::r=>if fk c then zt (c::r) else if c=34 then s4 r else if jj c.toNat||c=95 then ko 3 (c::r) else if oP c.toNat then ko 4 (c::r) else
   if c=39/\qV r then (ko 5 r).map fun q=>(q.1,q.2.1,q.2.2.1,q.2.2.2+1) else zQ (c::r)
structure ct where
 kind:Int
 num:Int
 pos:Nat
 text:List UInt8
deriving DecidableEq
def blank (c:UInt8):Bool:=c=9||c=10||c=13||c=32
def AV (w:ct):Except (Int × Nat) (List ct)->Except (Int × Nat) (List ct)
 | .ok ws=>.ok (w::ws)
 | .error e=>.error e
def n_:Nat->List UInt8->Nat->Except (Int × Nat) (List ct)
 | 0,_,_=>.ok []
 | _+1,[],_=>.ok []
 | f+1,c::r,p=>if blank c then n_ f r (p+1) else if ([40,42]:List UInt8).isPrefixOf (c::r) then (match ix (c::r) 0 with
    | none=>.error (253,p)
    | some n=>n_ f ((c::r).drop n) (p+n))
   else match gU (c::r) with
    | .error e=>.error (e,p)
    | .ok q=>AV ⟨q.1,q.2.1,p,q.2.2.1⟩ (n_ f ((c::r).drop q.2.2.2) (p+q.2.2.2))
def re (r:List UInt8) (p:Nat):Except (Int × Nat) (List ct):=n_ r.length r p
def oa (s:List UInt8):Except (Int × Nat) (List ct):=
 if 65536<s.length then .error (3,0) else if uM s<s.length then .error (250,uM s) else re s 0
theorem Nh {p:UInt8->Bool} {c:UInt8} {r:List UInt8} (h:p c=true):1<=((c::r).takeWhile p).length:=by simp only [List.takeWhile_cons,h,if_true,List.length_cons];omega
theorem amV {t:List UInt8} (h:t ∈ jM):1<=t.length:=by revert t;decide
theorem M3 {c:UInt8} (h:jj c.toNat=true):gE c=true:=by unfold gE wL;rw [h];simp
theorem R1 {c:UInt8} (h:oP c.toNat=true):gE c=true:=by unfold gE wL;rw [h];simp
theorem Xp {c:UInt8} (h:c=95):gE c=true:=by subst h;decide
theorem UJ {k:Int} {r:List UInt8} {q:Int × Int × List UInt8 × Nat} (h:ko k r=.ok q):q.2.2.2=(r.takeWhile gE).length:=by
 unfold ko at h;simp only at h
 split at h
 . cases h;rfl
 . split at h
   . cases h;rfl
   . split at h
     . cases h
     . cases h;rfl
theorem LY {r:List UInt8} {q:Int × Int × List UInt8 × Nat} (h:gU r=.ok q):1<=q.2.2.2:=by
 match r,h with
 | c::r,h=>
   simp only [gU] at h
   split at h
   . rename_i bb;unfold zt at h;simp only at h
     split at h
     . cases h
     . cases h;exact Nh bb
   . split at h
     . unfold s4 at h
       split at h
       . cases h
       . split at h
         . cases h
         . cases h;simp only;omega
     . split at h
       . rename_i aM;rw [UJ h];simp only [Bool.or_eq_true,decide_eq_true_eq] at aM;exact Nh (aM.elim M3 Xp)
       . split at h
         . rename_i aM;rw [UJ h];exact Nh (R1 aM)
         . split at h
           . cases aQ:ko 5 r with
             | error e=>rw [aQ] at h;cases h
             | ok ep=>rw [aQ] at h;cases h;simp only;omega
           . unfold zQ at h
             split at h
             . rename_i t au;cases h;exact amV (List.mem_of_find?_eq_some au)
             . cases h
theorem Gb:∀{r:List UInt8} {d:Int} {n:Nat},ix r d=some n->2<=n
 | [],d,n,h=>by simp [ix] at h
 | [_],d,n,h=>by simp [ix] at h
 | x::y::r,d,n,h=>by
   rw [ix] at h
   split at h
   . cases aA:ix r (d+1) with
     | none=>rw [aA] at h;cases h
     | some m=>rw [aA] at h;cases h;simp only;omega
   . split at h
     . split at h
       . cases h;omega
       . cases aA:ix r (d-1) with
         | none=>rw [aA] at h;cases h
         | some m=>rw [aA] at h;cases h;simp only;omega
     . cases aA:ix (y::r) d with
       | none=>rw [aA] at h;cases h
       | some m=>rw [aA] at h;cases h;have:=Gb aA;simp only;omega
theorem B2:∀(f g:Nat) (r:List UInt8) (p:Nat),r.length<=f->r.length<=g->n_ f r p=n_ g r p
 | 0,g,r,p,aa,ad=>by have:r=[]:=List.length_eq_zero_iff.1 (by omega);subst this;cases g<;>rfl
 | f+1,0,r,p,aa,ad=>by have:r=[]:=List.length_eq_zero_iff.1 (by omega);subst this;rfl
 | f+1,g+1,[],p,aa,ad=>rfl
 | f+1,g+1,c::r,p,aa,ad=>by
   simp only [List.length_cons] at aa ad;simp only [n_]
   split
   . exact B2 f g _ _ (by omega) (by omega)
   . split
     . split
       . rfl
       . rename_i n aQ;have:=Gb aQ;exact B2 f g _ _ (by rw [List.length_drop,List.length_cons];omega) (by rw [List.length_drop,List.length_cons];omega)
     . split
       . rfl
       . rename_i q aA;have:=LY aA;rw [B2 f g _ _ (by rw [List.length_drop,List.length_cons];omega) (by rw [List.length_drop,List.length_cons];omega)]
theorem T_ (c:UInt8) (r:List UInt8) (p:Nat):re (c::r) p=if blank c then re r (p+1) else if ([40,42]:List UInt8).isPrefixOf (c::r) then (match ix (c::r) 0 with
 | none=>.error (253,p)
 | some n=>re ((c::r).drop n) (p+n))
 else match gU (c::r) with
  | .error e=>.error (e,p)
  | .ok q=>AV ⟨q.1,q.2.1,p,q.2.2.1⟩ (re ((c::r).drop q.2.2.2) (p+q.2.2.2)):=by
 unfold re;simp only [List.length_cons,n_]
 split
 . rfl
 . split
   . split
     . rfl
     . rename_i n aQ;have:=Gb aQ;exact B2 _ _ _ _ (by rw [List.length_drop,List.length_cons];omega) (Nat.le_refl _)
   . split
     . rfl
     . rename_i q aA;have:=LY aA;rw [B2 _ _ _ _ (by rw [List.length_drop,List.length_cons];omega) (Nat.le_refl _)]
theorem Ni:∀(f g:Nat) (r:List UInt8),r.length<=f->r.length<=g->xl f r=xl g r
 | 0,g,r,aa,ad=>by have:r=[]:=List.length_eq_zero_iff.1 (by omega);subst this;cases g<;>rfl
 | f+1,0,r,aa,ad=>by have:r=[]:=List.length_eq_zero_iff.1 (by omega);subst this;rfl
 | f+1,g+1,[],aa,ad=>rfl
 | f+1,g+1,c::r,aa,ad=>by
   simp only [List.length_cons] at aa ad;simp only [xl]
   split
   . rfl
   . split
     . split
       . rfl
       . rw [Ni f g _ (by rw [List.length_drop];omega) (by rw [List.length_drop];omega)]
     . split
       . rfl
       . rw [Ni f g _ (by omega) (by omega)]
theorem anQ:ql []=none:=rfl
theorem anP (c:UInt8) (r:List UInt8):ql (c::r)=if c=34 then some ([],1) else if c=92 then (match pR r with
 | none=>none
 | some (b,n)=>(ql (r.drop n)).map fun q=>(b::q.1,q.2+n+1))
 else if c<32\/c=127 then none else (ql r).map fun q=>(c::q.1,q.2+1):=by
 unfold ql;simp only [List.length_cons,xl]
 split
 . rfl
 . split
   . split
     . rfl
     . rw [Ni _ _ _ (by rw [List.length_drop];omega) (Nat.le_refl _)]
   . rfl
theorem RN:∀(l:List UInt8) (a:Nat),a<=l.foldl (fun n c=>10 * n + (c.toNat-48)) a
 | [],a=>Nat.le_refl _
 | c::l,a=>by simp only [List.foldl_cons];exact Nat.le_trans (by omega) (RN l _)
def tJ (a:Nat) (l:List UInt8):Nat:=l.foldl (fun n c=>10 * n + (c.toNat-48)) a
theorem adm (a:Nat) (c:UInt8) (l:List UInt8):tJ a (c::l)=tJ (10 * a + (c.toNat-48)) l:=by unfold tJ;rw [List.foldl_cons]
theorem alL (M:Nat) (c6:M<18446744073709551620) (l:List UInt8):∀(a:Nat),(∀c ∈ l,fk c=true)->(tJ a l<=M->Lib.parseUintM M a l=.ok (tJ a l))/\(a<=M->¬tJ a l<=M->Lib.parseUintM M a l=.range):=by
 induction l with
 | nil=>
   intro a _;refine ⟨fun _=>?_,fun aa ad=>absurd aa ad⟩;simp only [Lib.parseUintM,tJ,List.foldl_nil]
 | cons c l agJ=>
   intro a h;have aC:=h c (List.mem_cons_self ..);simp only [fk,nM,Bool.and_eq_true,decide_eq_true_eq] at aC;have aeD:48<=c.toNat/\c.toNat<=57:=by omega
   have bd:=agJ (10 * a + (c.toNat-48)) (fun x ai=>h x (List.mem_cons_of_mem _ ai));have hm:10 * a + (c.toNat-48)<=tJ (10 * a + (c.toNat-48)) l:=RN l (10 * a + (c.toNat-48));simp only [Lib.parseUintM,aeD,and_self,if_true];rw [Nat.mul_comm a 10,adm];have hP:10 * a<=10 * a + (c.toNat-48):=Nat.le_add_right _ _;generalize 10 * a + (c.toNat-48)=A at bd hm hP ⊢;refine ⟨fun aT=>?_,fun aV jW=>?_⟩
   . rw [if_neg (by omega),if_neg (by omega)];exact bd.1 aT
   . by_cases aa:1844674407370955162<=a
     . rw [if_pos aa]
     . rw [if_neg aa];by_cases ad:M<A
       . rw [if_pos ad]
       . rw [if_neg ad];exact bd.2 (by omega) jW
theorem alK (l:List UInt8) (h:∀c ∈ l,fk c=true) (az:l≠[]):(jk l<=18446744073709551615->Lib.parseUintB 64 l=.ok (jk l))/\(¬jk l<=18446744073709551615->Lib.parseUintB 64 l=.range):=by unfold Lib.parseUintB;rw [if_neg az,show (2 ^ 64-1:Nat)=18446744073709551615 from by decide];have:=alL 18446744073709551615 (by omega) l 0 h;exact ⟨this.1,this.2 (Nat.zero_le _)⟩
structure oF (s:List UInt8) (p:Nat) (b:aO) (h:ah) (res:tt) (x:V) (ab:ah):Prop where
 mod:Mod (fun q=>q=b) h ab
 res:∃k n t,x=.agg [.int .i64 k,.int .i64 n,.int .i64 0,.str t]/\match res with
  | .ok q=>k=q.1/\n=q.2.1/\t=q.2.2.1/\ab.get b=fg s ((p+q.2.2.2:Nat):Int) 0/\p+q.2.2.2<=s.length
  | .error e=>e≠0/\∃bs:Int,ab.get b=fg s bs e
theorem LX {P:Program}:(eK.jx true 5).run P .nilIface .nilIface=some (.bool false):=rfl
theorem akE {P:Program} (T:TypeId) (x:V):(eK.jx true 5).run P (.iface T x) .nilIface=some (.bool true):=rfl
theorem W' {p:UInt8->Bool} {l:List UInt8}:∀c ∈ l.takeWhile p,p c=true:=fun c aC=>by
 induction l with
 | nil=>simp at aC
 | cons x l bd=>
   simp only [List.takeWhile_cons] at aC
   split at aC
   . rename_i ai;rcases List.mem_cons.1 aC with rfl | aC
     . exact ai
     . exact bd aC
   . simp at aC
theorem Xa (p:UInt8->Bool) (s:List UInt8) (a:Nat):((s.drop a).takeWhile p).length<=s.length-a:=by have:=Xb p (s.drop a);rwa [List.length_drop] at this
theorem akX (s:List UInt8) (a0:Nat) (b:aO) (h:ah) (ae:h.get b=fg s a0 0) (a8:a0<s.length) (aM:s.length<=100000) (gQ:Old h b) (bb:fk s[a0]=true):
 c4 Tryz.prog 141 [.ptr b 0] h (oF s a0 b h (zt (s.drop a0))):=by
 refine aaF.z rfl (dF ?_);unfold PO;have b8:(b=aj h.next)=False:=Cd gQ (Nat.le_refl _);have c2:(aj h.next=b)=False:=by rw [<-b8];exact propext eq_comm
 simp +contextual only [ae,b8,c2,↓al,aK,simprocAttr];have ai:Ext h (h.new (.bx [.int .i64 0,.int .i64 0,.int .i64 0,.str []] 0 false)):=(Ext.refl h).new _;refine cF (Wo s a0 0 b 140 nM _ (by rw [ai.get _ gQ,ae]) (by omega) aM (by decide) (fun c h=>yb c h)) ?_;rintro x aa ⟨rfl,hm,aF⟩;have hg:(fun c:UInt8=>nM (c.toNat:Int))=fk:=rfl;rw [hg] at aF ⊢;have tX:Mod (fun q=>q=b) h aa:=(ai.mod _).trans hm;have g1:aa.get (aj h.next)=.bx [.int .i64 0,.int .i64 0,.int .i64 0,.str []] 0 false:=by rw [hm.get _ (gi (by rw [gF];omega)) (by rw [c2];exact id)];simp only [↓al,aK,simprocAttr]
 have cR:(s.drop a0).takeWhile fk≠[]:=by rw [drop_cons a8,List.takeWhile_cons,bb];simp
 have hlen:=Xa fk s a0;have af:=alK ((s.drop a0).takeWhile fk) W' cR;unfold fg at aF;have Bt:zt (s.drop a0)=if 2147483647<jk ((s.drop a0).takeWhile fk) then .error 254 else .ok (1,(if 1073741823 < (jk ((s.drop a0).takeWhile fk):Int) then (jk ((s.drop a0).takeWhile fk):Int)-2147483648 else jk ((s.drop a0).takeWhile fk)),[],((s.drop a0).takeWhile fk).length):=rfl;rw [Bt];generalize (s.drop a0).takeWhile fk=t at *;simp +contextual only [↓al,aK,simprocAttr];by_cases Bc:jk t<=18446744073709551615
 . refine h2 (alM t (jk t) (by omega) (af.1 Bc) aa) ?_;generalize jk t=u at *;by_cases JW:(2147483647:Int) < (u:Int)
   . have yt:2147483647<u:=by omega
     simp +contextual only [LX,JW,g1,aF,b8,c2,↓al,aK,simprocAttr];refine ⟨(tX.set (fun _=>rfl) _).set (fun q=>absurd (show dr (aj h.next)<h.next from q) (by rw [cm];omega)) _,?_⟩;rw [if_pos yt];refine ⟨_,_,_,rfl,by decide,((a0+t.length:Nat):Int),?_⟩;simp only [fg,b8,c2,↓al,aK,simprocAttr]
   . have yt:¬2147483647<u:=by omega
     have bW:IntKind.i64.wrap (u:Int)=(u:Int):=wrap_i64 (by omega) (by omega);have bV:IntKind.i64.wrap ((u:Int)-2147483648)=(u:Int)-2147483648:=wrap_i64 (by omega) (by omega);by_cases R6:(1073741823:Int) < (u:Int)
     . simp +contextual only [LX,JW,yt,R6,g1,aF,b8,c2,bW,bV,↓al,aK,simprocAttr];refine ⟨(tX.set (fun q=>absurd (show dr (aj h.next)<h.next from q) (by rw [cm];omega)) _),?_⟩;refine ⟨_,_,_,rfl,rfl,rfl,rfl,?_,by show a0+t.length<=s.length;omega⟩;simp only [fg,aF,b8,c2,↓al,aK,simprocAttr]
     . simp +contextual only [LX,JW,yt,R6,g1,aF,b8,c2,bW,bV,↓al,aK,simprocAttr];refine ⟨(tX.set (fun q=>absurd (show dr (aj h.next)<h.next from q) (by rw [cm];omega)) _),?_⟩;refine ⟨_,_,_,rfl,rfl,rfl,rfl,?_,by show a0+t.length<=s.length;omega⟩;simp only [fg,aF,b8,c2,↓al,aK,simprocAttr]
 . refine h2 (alO t (by omega) (af.2 Bc) aa) ?_;have yt:2147483647<jk t:=by omega
   rw [if_pos yt];simp +contextual only [akE,g1,aF,b8,c2,↓al,aK,simprocAttr];refine ⟨(tX.set (fun _=>rfl) _).set (fun q=>absurd (show dr (aj h.next)<h.next from q) (by rw [cm];omega)) _,?_⟩;refine ⟨_,_,_,rfl,by decide,((a0+t.length:Nat):Int),?_⟩;simp only [fg,b8,c2,↓al,aK,simprocAttr]
theorem Xm (c:UInt8):((c.toNat:Int)).toNat.toUInt8=c:=by rw [Int.toNat_natCast];simp
theorem zW (c:UInt8) (n:Nat) (aQ:n<256):((c.toNat:Int)=(n:Int))=(c=n.toUInt8):=by
 apply propext;constructor
 . intro q;have:c.toNat=n:=by omega
   rw [<-UInt8.toNat_inj,this];simp;omega
 . intro q;subst q;simp;omega
theorem acS (c:UInt8):Lib.indexByte [110,116,34,92] c=if c=110 then 0 else if c=116 then 1 else if c=34 then 2 else if c=92 then 3 else -1:=by
 simp only [Lib.indexByte,beq_iff_eq];by_cases aa:c=110
 . subst aa;decide
 . by_cases ad:c=116
   . subst ad;decide
   . by_cases aH:c=34
     . subst aH;decide
     . by_cases bt:c=92
       . subst bt;decide
       . have aN:¬(110:UInt8)=c:=fun q=>aa q.symm;have aZ:¬(116:UInt8)=c:=fun q=>ad q.symm;have bJ:¬(34:UInt8)=c:=fun q=>aH q.symm;have dR:¬(92:UInt8)=c:=fun q=>bt q.symm;simp only [aa,ad,aH,bt,aN,aZ,bJ,dR,if_false];rfl
theorem Jo {c:UInt8} (h:fk c=true):Lib.digitVal c=some (c.toNat-48):=by unfold Lib.digitVal;unfold fk nM at h;simp only [Bool.and_eq_true,decide_eq_true_eq] at h;rw [if_pos (by omega)]
theorem Z6 {a b c:UInt8} (aa:fk a=true) (ad:fk b=true) (aH:fk c=true):Lib.atoi [a,b,c]=some ((jk [a,b,c]:Nat):Int):=by
 have aV:=aa;unfold fk nM at aV;simp only [Bool.and_eq_true,decide_eq_true_eq] at aV;have cx:(a == 45)=false:=by rw [beq_eq_false_iff_ne];rintro rfl;revert aV;decide
 have e8:(a == 43)=false:=by rw [beq_eq_false_iff_ne];rintro rfl;revert aV;decide
 simp [Lib.atoi,cx,e8,Lib.decNat,Lib.decFrom,Jo aa,Jo ad,Jo aH,jk];omega
theorem acT (s:List UInt8) (a0:Nat) (b:aO) (h:ah) (ae:h.get b=fg s a0 0) (a8:a0<s.length) (aM:s.length<=100000) (gQ:Old h b):
 c4 Tryz.prog 157 [.ptr b 0] h fun x ab=>Mod (fun q=>q=b) h ab/\match pR (s.drop (a0+1)) with
  | some (c,n)=>x=.int .u8 (c.toNat:Int)/\ab.get b=fg s ((a0+1+n:Nat):Int) 0/\a0+1+n<=s.length
  | none=>x=.int .u8 0/\ab.get b=fg s ((a0+1:Nat):Int) 252:=by
 refine aaN.z rfl (dF ?_);unfold P0;unfold fg at ae ⊢;have bW:IntKind.i64.wrap ((a0:Int)+1)=((a0+1:Nat):Int):=by rw [wrap_i64 (by omega) (by omega)];rfl
 have f0:(0<=((a0+1:Nat):Int))=True:=eq_true (by omega);have f1:(((a0+1:Nat):Int)<=(s.length:Int))=True:=eq_true (by omega);have wh:(s.drop (a0+1)).length=s.length - (a0+1):=List.length_drop;have z0:((0:Int)<=0)=True:=eq_true (by omega);have pa:∀v,aY.Mod (fun q=>q=b) h ((h.set b v)):=fun v=>(Mod.refl (fun q=>q=b) h).set (fun _=>rfl) _;cases cC:s.drop (a0+1) with
 | nil=>
   simp +contextual only [ae,bW,f0,f1,Int.toNat_natCast,cC,List.length_nil,Int.natCast_zero,↓al,aK,simprocAttr];refine ⟨(pa _).set (fun _=>rfl) _,?_⟩;simp only [pR,dv,if_true,true_and]
 | cons c r=>
   rw [cC] at wh;rw [List.length_cons] at wh;have cz:(c::r=[])=False:=eq_false (by simp);have f2:((0:Int) < ((r.length+1:Nat):Int))=True:=eq_true (by omega);simp +contextual only [ae,bW,f0,f1,f2,cz,Int.toNat_natCast,cC,Int.reduceToNat,z0,↓al,aK,simprocAttr];refine h2 (Tu _ _ _) ?_;rw [Xm,acS];have bV:IntKind.i64.wrap (((a0+1:Nat):Int)+1)=((a0+2:Nat):Int):=by rw [wrap_i64 (by omega) (by omega)];omega
   by_cases bS:c=110
   . subst bS;simp +contextual only [ae,bW,bV,f0,f1,f2,cz,Int.toNat_natCast,cC,Int.reduceToNat,z0,List.length_cons,List.length_nil,Nat.reduceAdd,Int.reduceLT,Int.cast_ofNat_Int,↓al,aK,simprocAttr];refine ⟨(pa _).set (fun _=>rfl) _,rfl,?_⟩;simp only [dv,if_true];refine ⟨trivial,by omega⟩
   by_cases bX:c=116
   . subst bX;simp +contextual only [ae,bW,bV,f0,f1,f2,cz,Int.toNat_natCast,cC,Int.reduceToNat,z0,List.length_cons,List.length_nil,Nat.reduceAdd,Int.reduceLT,Int.cast_ofNat_Int,bS,↓al,aK,simprocAttr];refine ⟨(pa _).set (fun _=>rfl) _,rfl,?_⟩;simp only [dv,if_true];refine ⟨trivial,by omega⟩
   by_cases c3:c=34
   . subst c3;simp +contextual only [ae,bW,bV,f0,f1,f2,cz,Int.toNat_natCast,cC,Int.reduceToNat,z0,List.length_cons,List.length_nil,Nat.reduceAdd,Int.reduceLT,Int.cast_ofNat_Int,bS,bX,↓al,aK,simprocAttr];refine ⟨(pa _).set (fun _=>rfl) _,rfl,?_⟩;simp only [dv,if_true];refine ⟨trivial,by omega⟩
   by_cases fu:c=92
   . subst fu;simp +contextual only [ae,bW,bV,f0,f1,f2,cz,Int.toNat_natCast,cC,Int.reduceToNat,z0,List.length_cons,List.length_nil,Nat.reduceAdd,Int.reduceLT,Int.cast_ofNat_Int,bS,bX,c3,↓al,aK,simprocAttr];refine ⟨(pa _).set (fun _=>rfl) _,rfl,?_⟩;simp only [dv,if_true];refine ⟨trivial,by omega⟩
   match r,cC,wh,f2,cz with
   | [],cC,wh,f2,cz=>
     simp +contextual only [ae,bW,bV,f0,f1,f2,cz,Int.toNat_natCast,cC,Int.reduceToNat,z0,List.length_cons,List.length_nil,Nat.reduceAdd,Int.reduceLT,Int.cast_ofNat_Int,bS,bX,c3,fu,↓al,aK,simprocAttr];refine ⟨(pa _).set (fun _=>rfl) _,?_⟩;simp [pR,bS,bX,c3,fu,dv]
   | [_],cC,wh,f2,cz=>
     simp +contextual only [ae,bW,bV,f0,f1,f2,cz,Int.toNat_natCast,cC,Int.reduceToNat,z0,List.length_cons,List.length_nil,Nat.reduceAdd,Int.reduceLT,Int.cast_ofNat_Int,bS,bX,c3,fu,↓al,aK,simprocAttr];refine ⟨(pa _).set (fun _=>rfl) _,?_⟩;simp [pR,bS,bX,c3,fu,dv]
   | d1::d2::bu,cC,wh,f2,cz=>
     simp only [List.length_cons] at wh;have g3:((3:Int)<=((bu.length+3:Nat):Int))=True:=eq_true (by omega);have g2:((2:Int) < ((bu.length+3:Nat):Int))=True:=eq_true (by omega);have g1:((1:Int) < ((bu.length+3:Nat):Int))=True:=eq_true (by omega);have g0:((0:Int) < ((bu.length+3:Nat):Int))=True:=eq_true (by omega);have em:pR (c::d1::d2::bu)=if fk c/\fk d1/\fk d2/\jk [c,d1,d2]<256 then some ((jk [c,d1,d2]).toUInt8,3) else none:=by simp [pR,bS,bX,c3,fu]
     rw [em];simp +contextual only [ae,bW,bV,f0,f1,g0,g1,g2,g3,cz,Int.toNat_natCast,cC,Int.reduceToNat,z0,List.length_cons,List.length_nil,Nat.reduceAdd,Int.reduceLT,Int.cast_ofNat_Int,bS,bX,c3,fu,↓al,aK,simprocAttr];refine h2 (yb _ _) ?_;have dg:∀x:UInt8,nM (x.toNat:Int)=fk x:=fun _=>rfl;simp only [dg];cases aeO:fk c with
     | false=>
       simp +contextual only [ae,bW,bV,f0,f1,g0,g1,g2,g3,cz,Int.toNat_natCast,cC,Int.reduceToNat,z0,List.length_cons,List.length_nil,Nat.reduceAdd,Int.reduceLT,Int.cast_ofNat_Int,bS,bX,c3,fu,false_and,Bool.false_eq_true,↓al,aK,simprocAttr];exact (pa _).set (fun _=>rfl) _
     | true=>
       simp +contextual only [ae,bW,bV,f0,f1,g0,g1,g2,g3,cz,Int.toNat_natCast,cC,Int.reduceToNat,z0,List.length_cons,List.length_nil,Nat.reduceAdd,Int.reduceLT,Int.cast_ofNat_Int,bS,bX,c3,fu,↓al,aK,simprocAttr];refine h2 (yb _ _) ?_;simp only [dg];cases EU:fk d1 with
       | false=>
         simp +contextual only [ae,bW,bV,f0,f1,g0,g1,g2,g3,cz,Int.toNat_natCast,cC,Int.reduceToNat,z0,List.length_cons,List.length_nil,Nat.reduceAdd,Int.reduceLT,Int.cast_ofNat_Int,bS,bX,c3,fu,false_and,and_false,Bool.false_eq_true,↓al,aK,simprocAttr];exact (pa _).set (fun _=>rfl) _
       | true=>
         simp +contextual only [ae,bW,bV,f0,f1,g0,g1,g2,g3,cz,Int.toNat_natCast,cC,Int.reduceToNat,z0,List.length_cons,List.length_nil,Nat.reduceAdd,Int.reduceLT,Int.cast_ofNat_Int,bS,bX,c3,fu,↓al,aK,simprocAttr];refine h2 (yb _ _) ?_;simp only [dg];cases EV:fk d2 with
         | false=>
           simp +contextual only [ae,bW,bV,f0,f1,g0,g1,g2,g3,cz,Int.toNat_natCast,cC,Int.reduceToNat,z0,List.length_cons,List.length_nil,Nat.reduceAdd,Int.reduceLT,Int.cast_ofNat_Int,bS,bX,c3,fu,false_and,and_false,Bool.false_eq_true,↓al,aK,simprocAttr];exact (pa _).set (fun _=>rfl) _
         | true=>
           have z3:((0:Int)<=3)=True:=eq_true (by omega);simp +contextual only [ae,bW,bV,f0,f1,g0,g1,g2,g3,z3,cz,Int.toNat_natCast,cC,Int.reduceToNat,z0,List.length_cons,List.length_nil,Nat.reduceAdd,Int.reduceLT,Int.cast_ofNat_Int,bS,bX,c3,fu,↓al,aK,simprocAttr];refine h2 (Z7 [c,d1,d2] _ (by simp) (Z6 aeO EU EV) _) ?_;have iE:IntKind.i64.wrap (((a0+1:Nat):Int)+3)=((a0+4:Nat):Int):=by rw [wrap_i64 (by omega) (by omega)];omega
           generalize ba:jk [c,d1,d2]=v;by_cases Fp:(v:Int)<256
           . have hv:IntKind.u8.wrap (v:Int)=((v.toUInt8).toNat:Int):=by
              simp [IntKind.wrap,IntKind.bits,IntKind.signed]
             have BH:v<256:=by omega
             simp +contextual only [ae,bW,bV,iE,hv,f0,f1,g0,g1,g2,g3,cz,Fp,BH,Int.toNat_natCast,cC,Int.reduceToNat,z0,List.length_cons,List.length_nil,Nat.reduceAdd,Int.reduceLT,Int.cast_ofNat_Int,bS,bX,c3,fu,and_self,true_and,↓al,aK,simprocAttr];refine ⟨(pa _).set (fun _=>rfl) _,?_⟩
             first | omega | (refine ⟨?_,by omega⟩;simp [dv]) | skip
           . have BH:¬v<256:=by omega
             simp +contextual only [ae,bW,bV,iE,f0,f1,g0,g1,g2,g3,cz,Fp,BH,Int.toNat_natCast,cC,Int.reduceToNat,z0,List.length_cons,List.length_nil,Nat.reduceAdd,Int.reduceLT,Int.cast_ofNat_Int,bS,bX,c3,fu,and_false,↓al,aK,simprocAttr];exact (pa _).set (fun _=>rfl) _
theorem an8 (c:UInt8) (n:Nat) (aQ:n<256):((c.toNat:Int) < (n:Int))=(c<n.toUInt8):=by
 apply propext;rw [UInt8.lt_iff_toNat_lt];have:(n.toUInt8).toNat=n:=by simp;omega
 rw [this];omega
theorem anR (s:List UInt8) (a0:Nat) (b:aO) (h:ah) (ae:h.get b=fg s a0 0) (a8:a0<s.length) (aM:s.length<=100000) (gQ:Old h b):
 c4 Tryz.prog 142 [.ptr b 0] h (oF s a0 b h (s4 (s.drop (a0+1)))):=by
 refine aaG.z rfl (dF ?_);unfold PQ;have b8:(b=aj h.next)=False:=Cd gQ (Nat.le_refl _);have c2:(aj h.next=b)=False:=by rw [<-b8];exact propext eq_comm
 have bW:IntKind.i64.wrap ((a0:Int)+1)=((a0+1:Nat):Int):=by rw [wrap_i64 (by omega) (by omega)];rfl
 unfold fg at ae;simp +contextual only [ae,b8,c2,bW,↓al,aK,simprocAttr];have zs:∀{v:V} {ab:ah} {n:Nat} {us:List V},dW (h.next+1) ab 1 v n us->∀q,v.aW q->¬(fun q=>q=b) q:=by
  intro v ab n us cY q aA he;have aa:=cY.base aA;rw [show q=b from he] at aa;have ad:dr b<h.next:=gQ
  omega
 have aaj:∀{v:V} {ab:ah} {n:Nat} {us:List V},dW (h.next+1) ab 1 v n us->∀i,i<h.next+1->¬v.aW (aj i):=by intro v ab n us cY i aq aA;have aa:=cY.base aA;rw [cm] at aa;omega
 refine gD (fun r ab=>r 0=.ptr b 0/\r 2=.ptr (aj h.next) 0/\∃(a:Nat) (e:Int) (ft:List UInt8) (v:V),r 3=v/\ab.get b=.bx [.str s,.int .i64 a,.int .i64 e] 0 false/\a<=s.length/\a0+1<=a/\ft.length<=a/\
  ab.get (aj h.next)=.bx [.int .i64 0,.int .i64 0,.int .i64 0,.str []] 0 false/\Mod (fun q=>q=b) h ab/\h.next+1<=ab.next/\dW (h.next+1) ab 1 v ft.length (ik ft)/\
  ((e=0/\ql (s.drop (a0+1))=(ql (s.drop a)).map fun q=>(ft++q.1,q.2 + (a - (a0+1))))\/(e=252/\ql (s.drop (a0+1))=none)))
  (fun r ab=>(s.length - ((kI (ab.get b) 1).getD .bad).toN) + (252 - ((kI (ab.get b) 2).getD .bad).toN)) ?_ ?_
 . refine ⟨by simp only [b8,c2,↓al,aK,simprocAttr],by simp only [b8,c2,↓al,aK,simprocAttr],a0+1,0,[],.bU,by simp only [b8,c2,↓al,aK,simprocAttr],by simp only [b8,c2,↓al,aK,simprocAttr],by omega,by omega,by simp,by simp only [b8,c2,↓al,aK,simprocAttr],?_,?_,⟨rfl,rfl⟩,.inl ⟨rfl,?_⟩⟩
   . exact (((Ext.refl h).new _).mod (fun q=>q=b)).self _
   . rw [oe,gF];exact Nat.le_refl _
   . rw [Nat.sub_self];cases ql (s.drop (a0+1))<;>rfl
 . rintro r ab ⟨bA,b3,a,e,ft,v,cc,aF,bK,jE,wH,bn,hm,mf,cY,bF⟩;unfold PR;have SN:Old ab b:=hm.bP gQ;have fin:∀(ad:ah) (bs:Int),ql (s.drop (a0+1))=none->Mod (fun q=>q=b) h ad->ad.get b=.bx [.str s,.int .i64 bs,.int .i64 252] 0 false->
    oF s a0 b h (s4 (s.drop (a0+1))) (.agg [.int .i64 0,.int .i64 0,.int .i64 0,.str []]) (ad.set (aj h.next) (.bx [.int .i64 0,.int .i64 0,.int .i64 0,.str []] 0 false)):=by
    intro ad bs aQ mc Bh;unfold s4;rw [aQ];refine ⟨mc.set (fun q=>absurd (show dr (aj h.next)<h.next from q) (by rw [cm];omega)) _,_,_,_,rfl,by decide,bs,?_⟩;rw [dv,if_neg (by rw [c2];exact id),Bh];rfl
   have step:∀(ad:ah),Mod (fun q=>q=b) h ad->ab.next<=ad.next->dW (h.next+1) ad 1 v ft.length (ik ft)->∀(c:UInt8),∃v3 aH,lr 1 v (.slice (aj ad.next) 0 1 1) (ad.new (.bx [.int .u8 (c.toNat:Int)] 0 false))=.val v3 aH/\dW (h.next+1) aH 1 v3 (ft++[c]).length (ik (ft++[c]))/\Mod (fun q=>q=b) h aH/\h.next+1<=aH.next/\aH.get b=ad.get b/\aH.get (aj h.next)=ad.get (aj h.next):=by
    intro ad mc aqb k3 c;obtain ⟨v3,aH,ao,ax,aL,bY,ee⟩:=vo (cs:=[.int .u8 (c.toNat:Int)]) (by omega) k3 (by omega) (by unfold top;omega) rfl rfl;refine ⟨v3,aH,ao,by rw [List.length_append,Py];exact ax,mc.zU aL (fun q aA=>Nat.le_trans (Nat.le_succ _) (k3.base aA)),by omega,?_,?_⟩
    . exact aL.get _ (mc.bP gQ) (fun aA=>zs k3 _ aA rfl)
    . exact aL.get _ (gi (by omega)) (aaj k3 _ (by omega))
   rcases bF with ⟨rfl,bF⟩ | ⟨rfl,bF⟩
   . by_cases gl:(s.length:Int)<=(a:Int)
     . have aV:a=s.length:=by omega
       rw [aV,List.drop_length,anQ] at bF;simp +contextual only [bA,b3,cc,aF,gl,bn,b8,c2,↓al,aK,simprocAttr];exact fin _ _ bF (hm.set (fun _=>rfl) _) (by rw [dv,if_pos rfl])
     . have aT:a<s.length:=by omega
       rw [drop_cons aT,anP] at bF;have f0:(0<=(a:Int))=True:=eq_true (by omega);have f1:((a:Int) < (s.length:Int))=True:=eq_true (by omega);have bV:IntKind.i64.wrap ((a:Int)+1)=((a+1:Nat):Int):=by rw [wrap_i64 (by omega) (by omega)];rfl
       have kX:(((s[a]).toNat:Int)=34)=(s[a]=34):=zW _ 34 (by omega);have Jw:(((s[a]).toNat:Int)=92)=(s[a]=92):=zW _ 92 (by omega);have Ra:(((s[a]).toNat:Int)=127)=(s[a]=127):=zW _ 127 (by omega);have TQ:(((s[a]).toNat:Int)<32)=(s[a]<32):=an8 _ 32 (by omega);by_cases bS:s[a]=34
       . rw [if_pos bS] at bF;replace bS:(s[a]=34)=True:=eq_true bS;simp only [Option.map_some,List.append_nil] at bF;by_cases Bc:(4096:Int) < (ft.length:Int)
         . have k3:∀k bT,dW (h.next+1) ((ab.set b k).set b bT) 1 v ft.length (ik ft):=fun k bT=>cY.mod (((Mod.refl (fun q=>q=b) ab).set (fun _=>rfl) _).set (fun _=>rfl) _) (zs cY);simp +contextual only [bA,b3,cc,aF,gl,bn,b8,c2,f0,f1,bV,kX,bS,cY.v.len,Bc,QL (k3 _ _),List.getElem?_eq_getElem aT,Int.toNat_natCast,↓al,aK,simprocAttr];refine ⟨((hm.set (fun _=>rfl) _).set (fun _=>rfl) _).set (fun q=>absurd (show dr (aj h.next)<h.next from q) (by rw [cm];omega)) _,_,_,_,rfl,?_⟩;unfold s4;rw [bF];simp only;rw [if_pos (by omega)];refine ⟨by decide,((a+1:Nat):Int),?_⟩;simp only [fg,b8,c2,↓al,aK,simprocAttr]
         . have k3:∀k,dW (h.next+1) (ab.set b k) 1 v ft.length (ik ft):=fun k=>cY.mod ((Mod.refl (fun q=>q=b) ab).set (fun _=>rfl) _) (zs cY);simp +contextual only [bA,b3,cc,aF,gl,bn,b8,c2,f0,f1,bV,kX,bS,cY.v.len,Bc,QL (k3 _),List.getElem?_eq_getElem aT,Int.toNat_natCast,↓al,aK,simprocAttr];refine ⟨(hm.set (fun _=>rfl) _).set (fun q=>absurd (show dr (aj h.next)<h.next from q) (by rw [cm];omega)) _,_,_,_,rfl,?_⟩;unfold s4;rw [bF];simp only;rw [if_neg (by omega)];refine ⟨rfl,rfl,rfl,?_,?_⟩
           . simp only [fg,b8,c2,↓al,aK,simprocAttr];rw [show a0 + (1 + (a - (a0+1))+1)=a+1 from by omega]
           . simp only;omega
       rw [if_neg bS] at bF;by_cases bX:s[a]=92
       . rw [if_pos bX] at bF;replace bX:(s[a]=92)=True:=eq_true bX;simp +contextual only [bA,b3,cc,aF,gl,bn,b8,c2,f0,f1,bV,kX,Jw,bS,bX,List.getElem?_eq_getElem aT,Int.toNat_natCast,↓al,aK,simprocAttr];refine cF (acT s a b ab aF aT aM SN) ?_;rintro x ad ⟨mc,ai⟩;have k3:=cY.mod mc (zs cY);have q7:ad.get (aj h.next)=.bx [.int .i64 0,.int .i64 0,.int .i64 0,.str []] 0 false:=by
          rw [mc.get _ (gi (by omega)) (by rw [c2];exact id),bn]
         have qa:=mc.next
         obtain ⟨c,aC,Fg⟩:∃c:UInt8,x=.int .u8 (c.toNat:Int)/\((∃n,pR (s.drop (a+1))=some (c,n)/\ad.get b=fg s ((a+1+n:Nat):Int) 0/\a+1+n<=s.length)\/(pR (s.drop (a+1))=none/\ad.get b=fg s ((a+1:Nat):Int) 252)):=by
          cases yI:pR (s.drop (a+1)) with
          | none=>rw [yI] at ai;exact ⟨0,ai.1,.inr ⟨rfl,ai.2⟩⟩
          | some q=>rw [yI] at ai;exact ⟨q.1,ai.1,.inl ⟨q.2,rfl,ai.2⟩⟩
         subst aC;obtain ⟨v3,aH,ao,ax,aL,bY,ee,fQ⟩:=step ad (hm.trans mc) qa k3 c;have V2:dW (h.next+1) aH 1 v3 (ft.length+1) (ik (ft++[c])):=by rw [List.length_append] at ax;exact ax
         have BL:aH.get (aj h.next)=.bx [.int .i64 0,.int .i64 0,.int .i64 0,.str []] 0 false:=by rw [fQ,q7]
         unfold fg at Fg;rcases Fg with ⟨n,yI,Bh,hle⟩ | ⟨yI,Bh⟩
         . simp +contextual only [ao,bA,b3,aF,Bh,ee,b8,c2,↓al,aK,simprocAttr];rw [yI] at bF;simp only at bF;refine ⟨⟨a+1+n,0,ft++[c],rfl,hle,by omega,by simp;omega,BL,aL,bY,ax,.inl ⟨rfl,?_⟩⟩,by omega⟩;rw [bF,List.drop_drop,Option.map_map];congr 1;funext q;simp only [Function.comp,List.append_assoc,List.singleton_append,Prod.mk.injEq,true_and];omega
         . simp +contextual only [ao,bA,b3,aF,Bh,ee,b8,c2,↓al,aK,simprocAttr];rw [yI] at bF;exact ⟨⟨a+1,252,ft++[c],rfl,by omega,by omega,by simp;omega,BL,aL,bY,ax,.inr ⟨rfl,bF⟩⟩,by omega⟩
       rw [if_neg bX] at bF;by_cases c3:s[a]<32\/s[a]=127
       . rw [if_pos c3] at bF;have pJ:(decide (s[a]<32)||decide (s[a]=127))=true:=by simpa using c3
         simp +contextual only [bA,b3,cc,aF,gl,bn,b8,c2,f0,f1,bV,kX,Jw,Ra,TQ,bS,bX,pJ,List.getElem?_eq_getElem aT,Int.toNat_natCast,↓al,aK,simprocAttr];exact ⟨⟨a,252,ft,rfl,bK,jE,wH,hm.self _,mf,cY.mod ((Mod.refl (fun q=>q=b) ab).self _) (zs cY),.inr ⟨rfl,bF⟩⟩,by omega⟩
       . rw [if_neg c3] at bF;have pJ:(decide (s[a]<32)||decide (s[a]=127))=false:=by simpa using c3
         obtain ⟨v3,aH,ao,ax,aL,bY,ee,fQ⟩:=step (ab.set b (.bx [.str s,.int .i64 ((a+1:Nat):Int),.int .i64 0] 0 false)) (hm.self _) (by rw [oe];exact Nat.le_refl _) (cY.mod ((Mod.refl (fun q=>q=b) ab).self _) (zs cY)) s[a];simp only [oe,dv,b8,c2,if_true,if_false] at ao ee fQ;simp +contextual only [ao,bA,b3,cc,aF,gl,bn,b8,c2,f0,f1,bV,kX,Jw,Ra,TQ,bS,bX,pJ,ee,List.getElem?_eq_getElem aT,Int.toNat_natCast,↓al,aK,simprocAttr];refine ⟨⟨a+1,0,ft++[s[a]],rfl,by omega,by omega,by simp;omega,by rw [fQ,bn],aL,bY,ax,.inl ⟨rfl,?_⟩⟩,by omega⟩;rw [bF,Option.map_map];congr 1;funext q;simp only [Function.comp,List.append_assoc,List.singleton_append,Prod.mk.injEq,true_and];omega
   . simp +contextual only [bA,b3,cc,aF,bn,b8,c2,↓al,aK,simprocAttr];exact fin _ _ bF hm aF
def Lx:List UInt8:=[32,97,110,100,32,98,101,103,105,110,32,101,108,115,101,32,101,110,100,32,101,120,99,101,112,116,105,111,110,32,102,97,108,115,101,32,102,117,110,32,105,102,32,105,110,32,108,101,116,32,109,97,116,99,104,32,109,111,100,32,111,102,32,114,97,105,115,101,32,114,101,99,32,116,104,101,110,32,116,114,117,101,32,116,114,121,32,116,121,112,101,32,119,105,116,104,32]
def tI:List (List UInt8)->List UInt8
 | []=>[32]
 | w::L=>32::(w++tI L)
theorem adh:tI Lu=Lx:=by decide
theorem adg (L:List (List UInt8)):∃r,tI L=32::r:=by cases L<;>exact ⟨_,rfl⟩
theorem index_ge (sub:List UInt8):∀l:List UInt8,-1<=Lib.index l sub
 | []=>by simp only [Lib.index];split<;>decide
 | b::l=>by
   have:=index_ge sub l;simp only [Lib.index]
   split
   . decide
   . split<;>omega
theorem Tw (sub:List UInt8) (b:UInt8) (l:List UInt8):(0<=Lib.index (b::l) sub)↔(sub.isPrefixOf (b::l)=true\/0<=Lib.index l sub):=by
 have:=index_ge sub l;simp only [Lib.index]
 split
 . rename_i h;simp [h]
 . rename_i h
   split
   . rename_i ad;have:Lib.index l sub=-1:=by simpa using ad
     simp [h,this]
   . rename_i ad;have aH:¬Lib.index l sub=-1:=by simpa using ad
     simp only [h,Bool.false_eq_true,false_or];omega
theorem Ty (x:List UInt8) (r:List UInt8):∀w:List UInt8,(32:UInt8) ∉ w->((0<=Lib.index (w++r) (32::x))↔0<=Lib.index r (32::x))
 | [],_=>Iff.rfl
 | b::w,h=>by
   rw [List.cons_append,Tw,Ty x r w (fun q=>h (List.mem_cons_of_mem _ q))];have ae:((32:UInt8) == b)=false:=by rw [beq_eq_false_iff_ne];rintro rfl;exact h (List.mem_cons_self ..)
   simp [List.isPrefixOf,ae]
theorem Vv (r:List UInt8):∀(t w:List UInt8),(32:UInt8) ∉ t->(32:UInt8) ∉ w->((t++[32]).isPrefixOf (w++32::r)=true↔t=w)
 | [],[],_,_=>by simp [List.isPrefixOf]
 | [],b::w,_,h=>by
   have ae:((32:UInt8) == b)=false:=by rw [beq_eq_false_iff_ne];rintro rfl;exact h (List.mem_cons_self ..)
   simp [List.isPrefixOf,ae]
 | a::t,[],h,_=>by
   have ae:(a == (32:UInt8))=false:=by rw [beq_eq_false_iff_ne];rintro rfl;exact h (List.mem_cons_self ..)
   simp [List.isPrefixOf,ae]
 | a::t,b::w,h,ab=>by have bd:=Vv r t w (fun q=>h (List.mem_cons_of_mem _ q)) (fun q=>ab (List.mem_cons_of_mem _ q));simp only [List.cons_append,List.isPrefixOf,Bool.and_eq_true,beq_iff_eq,bd,List.cons.injEq]
theorem Tx (t:List UInt8) (au:(32:UInt8) ∉ t):∀L:List (List UInt8),(∀w ∈ L,(32:UInt8) ∉ w)->((0<=Lib.index (tI L) (32::(t++[32])))↔t ∈ L)
 | [],_=>by cases t<;>simp [tI,Lib.index,List.isPrefixOf]
 | w::L,h=>by
   have bd:=Tx t au L (fun x ai=>h x (List.mem_cons_of_mem _ ai));have hw:=h w (List.mem_cons_self ..);obtain ⟨r,aG⟩:=adg L;simp only [tI];rw [Tw,Ty _ _ _ hw,bd,List.mem_cons];have:(32::(t++[32])).isPrefixOf (32::(w++tI L))=(t++[32]).isPrefixOf (w++tI L):=by simp [List.isPrefixOf]
   rw [this,aG,Vv r t w au hw]
theorem ab8 (t:List UInt8) (au:(32:UInt8) ∉ t):Lib.contains Lx (32::(t++[32]))=sC t:=by have:=Tx t au Lu (by decide);rw [adh] at this;unfold Lib.contains sC;rw [Bool.eq_iff_iff,decide_eq_true_eq,this];simp
theorem ake {l:List UInt8}:(32:UInt8) ∉ l.takeWhile gE:=fun h=>by have:=W' _ h;revert this;decide
theorem F1 (s:List UInt8) (a0:Nat) (k:Int) (b:aO) (h:ah) (ae:h.get b=fg s a0 0) (a8:a0<=s.length) (aM:s.length<=100000) (gQ:Old h b):
 c4 Tryz.prog 144 [.ptr b 0,.int .i64 k] h (oF s a0 b h (ko k (s.drop a0))):=by
 refine aaI.z rfl (dF ?_);unfold PT;have b8:(b=aj h.next)=False:=Cd gQ (Nat.le_refl _);have c2:(aj h.next=b)=False:=by rw [<-b8];exact propext eq_comm
 simp +contextual only [ae,b8,c2,↓al,aK,simprocAttr];have ai:Ext h (h.new (.bx [.int .i64 0,.int .i64 0,.int .i64 0,.str []] 0 false)):=(Ext.refl h).new _;refine cF (Wo s a0 0 b 158 wL _ (by rw [ai.get _ gQ,ae]) a8 aM (by decide) (fun c h=>ajW c h)) ?_;rintro x aa ⟨rfl,hm,aF⟩;have hg:(fun c:UInt8=>wL (c.toNat:Int))=gE:=rfl;rw [hg] at aF ⊢;have tX:Mod (fun q=>q=b) h aa:=(ai.mod _).trans hm;have g1:aa.get (aj h.next)=.bx [.int .i64 0,.int .i64 0,.int .i64 0,.str []] 0 false:=by rw [hm.get _ (gi (by rw [gF];omega)) (by rw [c2];exact id)];simp only [↓al,aK,simprocAttr]
 have hlen:=Xa gE s a0;have ad7:(32:UInt8) ∉ (s.drop a0).takeWhile gE:=ake;unfold fg at aF;have Bt:ko k (s.drop a0)=if k=3/\(s.drop a0).takeWhile gE=[95] then .ok (7,0,(s.drop a0).takeWhile gE,((s.drop a0).takeWhile gE).length) else if k=3/\sC ((s.drop a0).takeWhile gE) then .ok (6,0,(s.drop a0).takeWhile gE,((s.drop a0).takeWhile gE).length) else if 64 < ((s.drop a0).takeWhile gE).length then .error 255 else .ok (k,0,(s.drop a0).takeWhile gE,((s.drop a0).takeWhile gE).length):=rfl;rw [Bt];generalize (s.drop a0).takeWhile gE=t at *;have Gf:∀(c':Int),oF s a0 b h (.ok (c',0,t,t.length)) (.agg [.int .i64 c',.int .i64 0,.int .i64 0,.str t]) (aa.set (aj h.next) (.bx [.int .i64 c',.int .i64 0,.int .i64 0,.str t] 0 false)):=by intro c';refine ⟨tX.fresh (Nat.le_refl _) _,_,_,_,rfl,rfl,rfl,rfl,?_,by show a0+t.length<=s.length;omega⟩;rw [dv,if_neg (by rw [c2];exact id),aF];rfl
 have tail:(64<t.length->oF s a0 b h (.error 255) (.agg [.int .i64 k,.int .i64 0,.int .i64 0,.str t]) ((aa.set b (.bx [.str s,.int .i64 ((a0+t.length:Nat):Int),.int .i64 255] 0 false)).set (aj h.next) (.bx [.int .i64 k,.int .i64 0,.int .i64 0,.str t] 0 false))):=by intro az;refine ⟨(tX.self _).fresh (Nat.le_refl _) _,_,_,_,rfl,by decide,((a0+t.length:Nat):Int),?_⟩;simp only [fg,b8,c2,↓al,aK,simprocAttr]
 by_cases aD:k=3
 . subst aD;by_cases hu:t=[95]
   . simp +contextual only [g1,aF,b8,c2,hu,true_and,↓al,aK,simprocAttr];subst hu;exact Gf 7
   . have t1:(1+t.length<=top)=True:=eq_true (by unfold top;omega);have t2:(t.length+1+1<=top)=True:=eq_true (by unfold top;omega);simp only [top] at t1 t2;simp +contextual only [g1,aF,b8,c2,hu,true_and,List.length_append,t1,t2,↓al,aK,simprocAttr];refine h2 (ab7 Lx (32::(t++[32])) (by decide) _) ?_;rw [ab8 t ad7];cases Kz:sC t with
     | true=>
       simp +contextual only [g1,aF,b8,c2,hu,true_and,and_false,Kz,List.length_append,t1,t2,↓al,aK,simprocAttr];exact Gf 6
     | false=>
       by_cases az:64<t.length
       . have fP:(64:Int) < (t.length:Int):=by omega
         simp +contextual only [g1,aF,b8,c2,hu,az,fP,true_and,and_false,Kz,List.length_append,t1,t2,Bool.false_eq_true,↓al,aK,simprocAttr];exact tail az
       . have fP:¬(64:Int) < (t.length:Int):=by omega
         simp +contextual only [g1,aF,b8,c2,hu,az,fP,true_and,and_false,Kz,List.length_append,t1,t2,Bool.false_eq_true,↓al,aK,simprocAttr];exact Gf 3
 . by_cases az:64<t.length
   . have fP:(64:Int) < (t.length:Int):=by omega
     simp +contextual only [g1,aF,b8,c2,aD,az,fP,false_and,↓al,aK,simprocAttr];exact tail az
   . have fP:¬(64:Int) < (t.length:Int):=by omega
     simp +contextual only [g1,aF,b8,c2,aD,az,fP,false_and,↓al,aK,simprocAttr];exact Gf k
def zR:List V:=jM.map V.str
theorem amW (h:ah):c4 Tryz.prog 146 [] h fun x ab=>x=.slice (aj h.next) 0 17 17/\ab=h.new (.bx zR 0 false):=by refine aaK.z rfl (dF ?_);unfold PV;simp +contextual only [↓al,aK,simprocAttr];rfl
theorem amU {i:Nat} (aq:i<17):zR[i]? =some (.str (jM[i]'aq)):=by unfold zR;rw [List.getElem?_map,List.getElem?_eq_getElem (show i<jM.length from aq)];rfl
theorem ada (p:List UInt8->Bool) {i:Nat} (aq:i<17):(jM.drop i).find? p=if p (jM[i]'aq) then some (jM[i]'aq) else (jM.drop (i+1)).find? p:=by rw [List.drop_eq_getElem_cons (show i<jM.length from aq),List.find?_cons];cases p jM[i]<;>rfl
theorem oF.store {s:List UInt8} {p:Nat} {b:aO} {h:ah} {z bT:b9} {res:tt} {x:V} {aa:ah} (w:oF s p b (h.new z) res x aa) (gQ:Old h b):oF s p b h res x (aa.set (aj h.next) bT):=by
 have c2:¬(aj h.next=b):=by
  intro q;have:dr b<h.next:=gQ
  rw [<-q,cm] at this;omega
 obtain ⟨hm,k,n,t,ai,aG⟩:=w;refine ⟨((((Ext.refl h).new z).mod _).trans hm).fresh (Nat.le_refl _) _,k,n,t,ai,?_⟩;cases res with
 | ok q=>simpa only [dv,if_neg c2] using aG
 | error e=>simpa only [dv,if_neg c2] using aG
theorem akL (s:List UInt8) (a0:Nat) (b:aO) (h:ah) (ae:h.get b=fg s a0 0) (a8:a0<s.length) (aM:s.length<=100000) (gQ:Old h b):
 c4 Tryz.prog 127 [.ptr b 0] h (oF s a0 b h (gU (s.drop a0))):=by
 refine aaz.z rfl (dF ?_);unfold PJ;have b8:(b=aj h.next)=False:=Cd gQ (Nat.le_refl _);have c2:(aj h.next=b)=False:=by rw [<-b8];exact propext eq_comm
 have iO:=ae;unfold fg at ae;have f0:(0<=(a0:Int))=True:=eq_true (by omega);have f1:((a0:Int) < (s.length:Int))=True:=eq_true (by omega);have ai:Ext h (h.new (.bx [.int .i64 0,.int .i64 0,.int .i64 0,.str []] 0 false)):=(Ext.refl h).new _;have yR:Old (h.new (.bx [.int .i64 0,.int .i64 0,.int .i64 0,.str []] 0 false)) b:=ai.bP gQ;have Be:(h.new (.bx [.int .i64 0,.int .i64 0,.int .i64 0,.str []] 0 false)).get b=fg s a0 0:=by rw [ai.get _ gQ,iO]
 have yr:∀{res:tt} {x:V} {aa:ah},oF s a0 b (h.new (.bx [.int .i64 0,.int .i64 0,.int .i64 0,.str []] 0 false)) res x aa->aa.get (aj h.next)=.bx [.int .i64 0,.int .i64 0,.int .i64 0,.str []] 0 false:=by intro res x aa w;rw [w.mod.get _ (gi (by rw [gF];omega)) (by rw [c2];exact id)];simp only [↓al,aK,simprocAttr]
 have bb:=drop_cons a8;rw [bb];have dg:nM ((s[a0]).toNat:Int)=fk s[a0]:=rfl;have kX:(((s[a0]).toNat:Int)=34)=(s[a0]=34):=zW _ 34 (by omega);have tE:(((s[a0]).toNat:Int)=95)=(s[a0]=95):=zW _ 95 (by omega);have yd:(((s[a0]).toNat:Int)=39)=(s[a0]=39):=zW _ 39 (by omega);simp +contextual only [ae,b8,c2,f0,f1,List.getElem?_eq_getElem a8,Int.toNat_natCast,↓al,aK,simprocAttr];refine h2 (yb _ _) ?_;rw [dg];cases aa:fk s[a0] with
 | true=>
   have dM:gU (s[a0]::s.drop (a0+1))=zt (s.drop a0):=by rw [bb];simp only [gU,aa,if_true]
   rw [dM];simp +contextual only [ae,b8,c2,f0,f1,List.getElem?_eq_getElem a8,Int.toNat_natCast,↓al,aK,simprocAttr];refine cF (akX s a0 b _ Be a8 aM yR aa) ?_;rintro x af w;have g1:=yr w;obtain ⟨k,n,t,rfl,_⟩:=w.res;simp +contextual only [g1,ae,b8,c2,f0,f1,↓al,aK,simprocAttr];exact w.store gQ
 | false=>
   by_cases ad:s[a0]=34
   . have dM:gU (s[a0]::s.drop (a0+1))=s4 (s.drop (a0+1)):=by simp only [gU];rw [if_neg (by rw [aa];exact Bool.false_ne_true),if_pos ad]
     rw [dM];replace ad:=eq_true ad;simp +contextual only [ae,b8,c2,f0,f1,kX,ad,List.getElem?_eq_getElem a8,Int.toNat_natCast,↓al,aK,simprocAttr];refine cF (anR s a0 b _ Be a8 aM yR) ?_;rintro x af w;have g1:=yr w;obtain ⟨k,n,t,rfl,_⟩:=w.res;simp +contextual only [g1,ae,b8,c2,f0,f1,↓al,aK,simprocAttr];exact w.store gQ
   simp +contextual only [ae,b8,c2,f0,f1,kX,ad,List.getElem?_eq_getElem a8,Int.toNat_natCast,↓al,aK,simprocAttr];refine h2 (GS _ _) ?_;by_cases aH:(jj ((s[a0]).toNat:Int)||decide (s[a0]=95))=true
   . have dM:gU (s[a0]::s.drop (a0+1))=ko 3 (s.drop a0):=by rw [bb];simp only [gU,aa,ad,aH,Bool.false_eq_true,if_false,if_true]
     rw [dM];have fin:pK Tryz.prog 144 [.ptr b 0,.int .i64 3] (some 33) none [] [] (fun _=>.bad) h (fun _ _ _=>True)->True:=fun _=>trivial;cases yW:jj ((s[a0]).toNat:Int) with
     | true=>
       simp +contextual only [ae,b8,c2,f0,f1,kX,ad,yW,List.getElem?_eq_getElem a8,Int.toNat_natCast,↓al,aK,simprocAttr];refine cF (F1 s a0 3 b _ Be (by omega) aM yR) ?_;rintro x af w;have g1:=yr w;obtain ⟨k,n,t,rfl,_⟩:=w.res;simp +contextual only [g1,ae,b8,c2,f0,f1,↓al,aK,simprocAttr];exact w.store gQ
     | false=>
       rw [yW,Bool.false_or,decide_eq_true_eq] at aH;replace aH:=eq_true aH;simp +contextual only [ae,b8,c2,f0,f1,kX,tE,ad,aH,yW,List.getElem?_eq_getElem a8,Int.toNat_natCast,↓al,aK,simprocAttr];refine cF (F1 s a0 3 b _ Be (by omega) aM yR) ?_;rintro x af w;have g1:=yr w;obtain ⟨k,n,t,rfl,_⟩:=w.res;simp +contextual only [g1,ae,b8,c2,f0,f1,↓al,aK,simprocAttr];exact w.store gQ
   . have R5:=aH;rw [Bool.not_eq_true,Bool.or_eq_false_iff,decide_eq_false_iff_not] at R5;obtain ⟨ad9,ad'⟩:=R5;simp +contextual only [ae,b8,c2,f0,f1,kX,tE,ad,ad9,ad',List.getElem?_eq_getElem a8,Int.toNat_natCast,↓al,aK,simprocAttr];refine h2 (R2 _ _) ?_;cases bt:oP ((s[a0]).toNat:Int) with
     | true=>
       have dM:gU (s[a0]::s.drop (a0+1))=ko 4 (s.drop a0):=by rw [bb];simp only [gU,aa,ad,aH,bt,Bool.false_eq_true,if_false,if_true]
       rw [dM];simp +contextual only [ae,b8,c2,f0,f1,List.getElem?_eq_getElem a8,Int.toNat_natCast,↓al,aK,simprocAttr];refine cF (F1 s a0 4 b _ Be (by omega) aM yR) ?_;rintro x af w;have g1:=yr w;obtain ⟨k,n,t,rfl,_⟩:=w.res;simp +contextual only [g1,ae,b8,c2,f0,f1,↓al,aK,simprocAttr];exact w.store gQ
     | false=>
       have bW:IntKind.i64.wrap ((a0:Int)+1)=((a0+1:Nat):Int):=by rw [wrap_i64 (by omega) (by omega)];rfl
       have f2:(0<=((a0+1:Nat):Int))=True:=eq_true (by omega);by_cases cI:s[a0]=39/\qV (s.drop (a0+1))
       . have dM:gU (s[a0]::s.drop (a0+1))=(ko 5 (s.drop (a0+1))).map fun q=>(q.1,q.2.1,q.2.2.1,q.2.2.2+1):=by simp only [gU];rw [if_neg (by rw [aa];exact Bool.false_ne_true),if_neg ad,if_neg aH,if_neg (by rw [bt];exact Bool.false_ne_true),if_pos cI]
         rw [dM];obtain ⟨EL,EM⟩:=cI;replace EL:=eq_true EL;have aT:a0+1<s.length:=by
          by_cases q:a0+1<s.length
          . exact q
          . rw [List.drop_eq_nil_of_le (by omega)] at EM;cases EM
         rw [drop_cons aT] at EM;have f3:(((a0+1:Nat):Int) < (s.length:Int))=True:=eq_true (by omega);simp +contextual (maxSteps:=1000000) only [ae,b8,c2,f0,f1,f2,f3,bW,kX,tE,yd,ad,EL,List.getElem?_eq_getElem a8,List.getElem?_eq_getElem aT,Int.toNat_natCast,↓al,aK,simprocAttr];refine h2 (GS _ _) ?_;rw [show jj ((s[a0+1]).toNat:Int)=true from EM];simp +contextual (maxSteps:=1000000) only [ae,b8,c2,f0,f1,f2,f3,bW,kX,tE,yd,ad,EL,List.getElem?_eq_getElem a8,List.getElem?_eq_getElem aT,Int.toNat_natCast,↓al,aK,simprocAttr];have SK:Mod (fun q=>q=b) (h.new (.bx [.int .i64 0,.int .i64 0,.int .i64 0,.str []] 0 false)) ((h.new (.bx [.int .i64 0,.int .i64 0,.int .i64 0,.str []] 0 false)).set b (.bx [.str s,.int .i64 ((a0+1:Nat):Int),.int .i64 0] 0 false)):=(Mod.refl _ _).self _;refine cF (F1 s (a0+1) 5 b _ (by rw [dv,if_pos rfl];rfl) (by omega) aM (SK.bP yR)) ?_;rintro x af w;have w':oF s a0 b (h.new (.bx [.int .i64 0,.int .i64 0,.int .i64 0,.str []] 0 false)) ((ko 5 (s.drop (a0+1))).map fun q=>(q.1,q.2.1,q.2.2.1,q.2.2.2+1)) x af:=by
          obtain ⟨aoD,k,n,t,xv,wr⟩:=w;refine ⟨SK.trans aoD,k,n,t,xv,?_⟩;cases aQ:ko 5 (s.drop (a0+1)) with
          | error e=>rw [aQ] at wr;exact wr
          | ok q=>
            rw [aQ] at wr;obtain ⟨bD,b3,cc,eJ,dZ⟩:=wr;refine ⟨bD,b3,cc,?_,?_⟩
            . rw [eJ];show fg s ((a0+1+q.2.2.2:Nat):Int) 0=fg s ((a0 + (q.2.2.2+1):Nat):Int) 0;rw [show a0+1+q.2.2.2=a0 + (q.2.2.2+1) from by omega]
            . show a0 + (q.2.2.2+1)<=s.length;omega
         have g1:=yr w';obtain ⟨k,n,t,rfl,_⟩:=w'.res;simp +contextual only [g1,ae,b8,c2,f0,f1,↓al,aK,simprocAttr];exact w'.store gQ
       . have dM:gU (s[a0]::s.drop (a0+1))=zQ (s.drop a0):=by rw [bb];simp only [gU];rw [if_neg (by rw [aa];exact Bool.false_ne_true),if_neg ad,if_neg aH,if_neg (by rw [bt];exact Bool.false_ne_true),if_neg cI]
         rw [dM];have vW:((s[a0]=39)=False)\/(((s[a0]=39)=True)/\¬a0+1<s.length)\/(((s[a0]=39)=True)/\∃aT:a0+1<s.length,jj ((s[a0+1]).toNat:Int)=false):=by
          by_cases q:s[a0]=39
          . by_cases aT:a0+1<s.length
            . refine .inr (.inr ⟨eq_true q,aT,?_⟩);cases aA:jj ((s[a0+1]).toNat:Int) with
              | false=>rfl
              | true=>exact absurd ⟨q,by rw [drop_cons aT];exact aA⟩ cI
            . exact .inr (.inl ⟨eq_true q,aT⟩)
          . exact .inl (eq_false q)
         have two:∀t ∈ jM,t.length<=2:=by decide
         have tA:((17:Nat):Int)=17:=rfl;rcases vW with ao | ⟨ao,ax⟩ | ⟨ao,aT,ax⟩
         case' neg.inl=>
          simp +contextual (maxSteps:=1000000) only [ae,b8,c2,f0,f1,f2,bW,kX,tE,yd,ad,ao,List.getElem?_eq_getElem a8,Int.toNat_natCast,↓al,aK,simprocAttr]
         case' neg.inr.inl=>
          have f3:(((a0+1:Nat):Int) < (s.length:Int))=False:=eq_false (by omega);simp +contextual (maxSteps:=1000000) only [ae,b8,c2,f0,f1,f2,f3,bW,kX,tE,yd,ad,ao,List.getElem?_eq_getElem a8,Int.toNat_natCast,↓al,aK,simprocAttr]
         case' neg.inr.inr=>
          have f3:(((a0+1:Nat):Int) < (s.length:Int))=True:=eq_true (by omega);simp +contextual (maxSteps:=1000000) only [ae,b8,c2,f0,f1,f2,f3,bW,kX,tE,yd,ad,ao,List.getElem?_eq_getElem a8,List.getElem?_eq_getElem aT,Int.toNat_natCast,↓al,aK,simprocAttr];refine h2 (GS _ _) ?_;rw [ax];simp +contextual (maxSteps:=1000000) only [ae,b8,c2,f0,f1,f2,f3,bW,kX,tE,yd,ad,ao,List.getElem?_eq_getElem a8,List.getElem?_eq_getElem aT,Int.toNat_natCast,↓al,aK,simprocAttr]
         all_goals
          refine cF (amW _) ?_;rintro x af ⟨rfl,rfl⟩;simp +contextual only [↓al,aK,simprocAttr];refine gD (fun r ab=>r 0=.ptr b 0/\r 2=.ptr (aj h.next) 0/\r 77=.slice (aj (h.next+1)) 0 17 17/\r 78=.int .i64 17/\∃i:Nat,i<=17/\r 79=.int .i64 i/\ab=(h.new (.bx [.int .i64 0,.int .i64 0,.int .i64 0,.str []] 0 false)).new (.bx zR 0 false)/\
           jM.find? (·.isPrefixOf (s.drop a0))=(jM.drop i).find? (·.isPrefixOf (s.drop a0))) (fun r ab=>17 - (r 79).toN) ?_ ?_
          . exact ⟨by simp only [↓al,aK,simprocAttr],by simp only [↓al,aK,simprocAttr],by simp only [↓al,aK,simprocAttr],by simp only [tA,↓al,aK,simprocAttr],0,by omega,by simp only [↓al,aK,simprocAttr]<;>rfl,rfl,rfl⟩
          . rintro r ab ⟨bA,b3,Gy,ph,i,aq,pj,rfl,tT⟩;unfold PK;have SN:Old ((h.new (.bx [.int .i64 0,.int .i64 0,.int .i64 0,.str []] 0 false)).new (.bx zR 0 false)) b:=(ai.new _).bP gQ;have wa:((h.new (.bx [.int .i64 0,.int .i64 0,.int .i64 0,.str []] 0 false)).new (.bx zR 0 false)).get b=.bx [.str s,.int .i64 a0,.int .i64 0] 0 false:=by rw [(ai.new _).get _ gQ,ae]
            have Cb:(b=aj (h.next+1))=False:=Cd gQ (by omega);have DS:(aj (h.next+1)=b)=False:=by rw [<-Cb];exact propext eq_comm
            by_cases mQ:i<17
            . have g0:((i:Int)<17)=True:=eq_true (by omega);have g1:(0<=(i:Int))=True:=eq_true (by omega);rw [ada _ mQ] at tT;have hlen:=two _ (List.getElem_mem (h:=(show i<jM.length from mQ)));simp +contextual only [tA,bA,b3,Gy,ph,pj,g0,g1,b8,c2,Cb,DS,Int.toNat_natCast,Nat.mul_one,amU mQ,↓al,aK,simprocAttr];refine h2 (J5 s _ (a0:Int) [.int .i64 0] b 0 false _ wa (by omega) (by omega)) ?_;rw [Int.toNat_natCast];cases q5:(jM[i]'mQ).isPrefixOf (s.drop a0) with
              | true=>
                rw [q5,if_pos rfl] at tT;have jZ:(jM[i]'mQ).length<=s.length-a0:=by rw [List.isPrefixOf_iff_prefix] at q5;have:=q5.length_le;rwa [List.length_drop] at this
                have iE:IntKind.i64.wrap ((a0:Int) + ((jM[i]'mQ).length:Int))=((a0 + (jM[i]'mQ).length:Nat):Int):=by rw [wrap_i64 (by omega) (by omega)];rfl
                simp +contextual only [tA,bA,b3,Gy,ph,pj,g0,g1,iE,b8,c2,Cb,DS,ae,↓al,aK,simprocAttr];unfold zQ;rw [tT];refine ⟨(((ai.new _).mod _).self _).fresh (Nat.le_refl _) _,_,_,_,rfl,rfl,rfl,rfl,?_,by show a0 + (jM[i]'mQ).length<=s.length;omega⟩;simp only [fg,b8,c2,↓al,aK,simprocAttr]
              | false=>
                rw [q5,if_neg Bool.false_ne_true] at tT;have iE:IntKind.i64.wrap ((i:Int)+1)=((i+1:Nat):Int):=by rw [wrap_i64 (by omega) (by omega)];rfl
                simp +contextual only [tA,bA,b3,Gy,ph,pj,g0,g1,iE,b8,c2,Cb,DS,ae,↓al,aK,simprocAttr];exact ⟨⟨i+1,by omega,rfl,tT⟩,by omega⟩
            . obtain rfl:i=17:=by omega
              have de:jM.find? (·.isPrefixOf (s.drop a0))=none:=by rw [tT];rfl
              have g0:((17:Int)<17)=False:=eq_false (by omega);simp +contextual only [tA,bA,b3,Gy,ph,pj,g0,wa,b8,c2,Cb,DS,ae,↓al,aK,simprocAttr];unfold zQ;rw [de];refine ⟨(((ai.new _).mod _).self _).fresh (Nat.le_refl _) _,_,_,_,rfl,by decide,(a0:Int),?_⟩;simp only [fg,b8,c2,↓al,aK,simprocAttr]
theorem RU (s:List UInt8) (i:Nat):(ByteArray.mk ⟨s⟩).get! i=(s[i]?).getD 0:=by show (Array.mk s)[i]! =_;simp;rfl
theorem acp (s:List UInt8) (a:Nat):Lib.decodeGo ⟨⟨s.drop a⟩⟩=if a<s.length then decodeL s a else (65533,0):=by
 unfold Lib.decodeGo decodeL;have bn:(ByteArray.mk ⟨s.drop a⟩).size=s.length-a:=by show (s.drop a).length=_;rw [List.length_drop]
 have q7:(ByteArray.mk ⟨s⟩).size=s.length:=rfl;by_cases aV:a<s.length
 . rw [if_pos aV,if_neg (by rw [bn];omega),Lib.decode_at,Lib.decode_at,bn,q7];simp only [RU,List.getElem?_drop,Nat.add_zero,Nat.sub_zero,Nat.zero_add]
 . rw [if_neg aV,if_pos (by rw [bn];omega)]
theorem akJ {h:ah} {b:aO} {s:List UInt8} {a:Nat} (aF:h.get b=.iter s a):
 wW (.ptr b 0) h=if a<s.length then .val (.tuple [.bool true,.int .i64 a,.int .i32 (decodeL s a).1]) (h.set b (.iter s (a + (decodeL s a).2))) else .val (.tuple [.bool false]) h:=by
 unfold wW;simp only [V.jK,aF];rw [show Nat.beq 0 0=true from rfl];simp only [cond_true];by_cases aV:a<s.length
 . rw [if_pos aV,show Nat.blt a s.length=true from by rw [Nat.blt_eq];exact aV];rfl
 . rw [if_neg aV,show Nat.blt a s.length=false from by rw [<-Bool.not_eq_true,Nat.blt_eq];exact aV];rfl
def ag2 (s:List UInt8):b9->Nat
 | .iter _ a=>s.length-a
 | _=>0
theorem acn (s:List UInt8) (a:Nat):1<=(decodeL s a).2:=by
 unfold decodeL;rw [Lib.decode_at];unfold Lib.decodeN
 repeat' split
 all_goals simp
theorem amt (s:List UInt8) (aM:s.length<=100000) (h:ah):c4 Tryz.prog 123 [.str s] h fun x ab=>x=.int .i64 (uM s:Nat)/\Ext h ab:=by
 refine aav.z rfl (dF ?_);unfold PD;simp +contextual only [↓al,aK,simprocAttr];refine gD (fun r ab=>r 0=.str s/\r 8=.ptr (aj h.next) 0/\Ext h ab/\∃a,ab.get (aj h.next)=.iter s a/\uM s=ru s a) (fun r ab=>ag2 s (ab.get (aj h.next))) ?_ ?_
 . exact ⟨by simp only [↓al,aK,simprocAttr],by simp only [↓al,aK,simprocAttr],(Ext.refl h).new _,0,by simp only [↓al,aK,simprocAttr],rfl⟩
 . rintro r ab ⟨bA,dE,ai,a,aF,aV⟩;unfold PE;have mf:=akJ aF;by_cases aT:a<s.length
   . rw [if_pos aT] at mf;have af:=acn s a;by_cases aC:(decodeL s a).1=65533
     . have hQ:(((decodeL s a).1:Int)=65533)=True:=eq_true (by omega);have f0:(0<=(a:Int))=True:=eq_true (by omega);have f1:((a:Int)<=(s.length:Int))=True:=eq_true (by omega);simp +contextual only [bA,dE,mf,hQ,f0,f1,Int.toNat_natCast,↓al,aK,simprocAttr];refine h2 (aco _ _) ?_;rw [acp,if_pos aT];by_cases hw:(decodeL s a).2=1
       . have Le:(((decodeL s a).2:Int)=1)=True:=eq_true (by omega);have vZ:mG s a=0:=by unfold mG;rw [if_pos (Prod.ext aC hw)]
         rw [ams aT vZ] at aV;simp +contextual only [bA,dE,mf,hQ,Le,f0,f1,Int.toNat_natCast,↓al,aK,simprocAttr];rw [aV];exact ⟨rfl,ai.set (Nat.le_refl _) _⟩
       . have Le:(((decodeL s a).2:Int)=1)=False:=eq_false (by omega);have vZ:mG s a=(decodeL s a).2:=by unfold mG;rw [if_neg (fun q=>hw (congrArg Prod.snd q))]
         rw [MU aT (by rw [vZ];omega),vZ] at aV;simp +contextual only [bA,dE,mf,hQ,Le,f0,f1,Int.toNat_natCast,↓al,aK,simprocAttr];refine ⟨⟨ai.set (Nat.le_refl _) _,_,rfl,aV⟩,?_⟩;rw [aF];show s.length - (a + (decodeL s a).2)<s.length-a;omega
     . have hQ:(((decodeL s a).1:Int)=65533)=False:=eq_false (by omega);have vZ:mG s a=(decodeL s a).2:=by unfold mG;rw [if_neg (fun q=>aC (congrArg Prod.fst q))]
       rw [MU aT (by rw [vZ];omega),vZ] at aV;simp +contextual only [bA,dE,mf,hQ,Int.toNat_natCast,↓al,aK,simprocAttr];refine ⟨⟨ai.set (Nat.le_refl _) _,_,rfl,aV⟩,?_⟩;rw [aF];show s.length - (a + (decodeL s a).2)<s.length-a;omega
   . rw [if_neg aT] at mf;rw [Wj (by omega)] at aV;simp +contextual only [bA,dE,mf,Int.toNat_natCast,↓al,aK,simprocAttr];rw [aV];exact ⟨rfl,ai⟩
def ct.enc (w:ct):List V:=[.int .i64 w.kind,.int .i64 w.num,.int .i64 w.pos,.str w.text]
def qn:List ct->List V
 | []=>[]
 | w::ws=>w.enc++qn ws
theorem XF:∀a b:List ct,qn (a++b)=qn a++qn b
 | [],b=>rfl
 | w::a,b=>by simp only [qn,List.cons_append,XF a b,List.append_assoc]
def uC (ws:List ct):Except (Int × Nat) (List ct)->Except (Int × Nat) (List ct)
 | .ok bV=>.ok (ws++bV)
 | .error e=>.error e
theorem alX (ws:List ct) (w:ct) (r:Except (Int × Nat) (List ct)):uC ws (AV w r)=uC (ws++[w]) r:=by
 cases r with
 | ok bV=>simp [uC,AV]
 | error e=>rfl
theorem alY (r:Except (Int × Nat) (List ct)):uC [] r=r:=by cases r<;>rfl
def Yr (s:List UInt8) (h:ah) (x:V) (ab:ah):Prop:=Ext h ab/\match oa s with
 | .ok ws=>∃v,x=.tuple [v,.agg [.int .i64 0,.int .i64 0]]/\dW h.next ab 4 v ws.length (qn ws)
 | .error e=>x=.tuple [.bU,.agg [.int .i64 e.1,.int .i64 e.2]]
theorem Pp (c:UInt8):(0<=Lib.indexByte [9,10,13,32] c)=(blank c=true):=by
 have a8:∀d:UInt8,(d == c)=decide (c=d):=fun d=>by
  by_cases q:c=d
  . subst q;simp
  . have ep:¬d=c:=fun e=>q e.symm;simp [q,ep]
 simp only [Lib.indexByte,a8,blank];by_cases aa:c=9
 . subst aa;decide
 . by_cases ad:c=10
   . subst ad;decide
   . by_cases aH:c=13
     . subst aH;decide
     . by_cases bt:c=32
       . subst bt;decide
       . simp [aa,ad,aH,bt]
theorem ajY (s:List UInt8) (h:ah):c4 Tryz.prog 104 [.str s] h (Yr s h):=by
 refine aau.z rfl (dF ?_);unfold PA;by_cases Bq:(65536:Int) < (s.length:Int)
 . simp +contextual only [Bq,↓al,aK,simprocAttr];refine ⟨((Ext.refl h).new _).set (Nat.le_refl _) _,?_⟩;unfold oa;rw [if_pos (by omega)];rfl
 simp +contextual only [Bq,↓al,aK,simprocAttr];refine cF (amt s (by omega) _) ?_;rintro x aa ⟨rfl,Lh⟩;have ai:Ext h (h.new (.bx [.int .i64 0,.int .i64 0] 0 false)):=(Ext.refl h).new _;have y':=ai.trans Lh;have g1:aa.get (aj h.next)=.bx [.int .i64 0,.int .i64 0] 0 false:=by rw [Lh.get _ (gi (by rw [gF];omega))];simp only [↓al,aK,simprocAttr]
 have sM:h.next+1<=aa.next:=Lh.next
 have cu:(aj aa.next=aj h.next)=False:=by rw [sP];exact eq_false (by omega)
 have cx:(aj h.next=aj aa.next)=False:=by rw [sP];exact eq_false (by omega)
 have oc:(aa.next=h.next)=False:=eq_false (by omega);have od:(h.next=aa.next)=False:=eq_false (by omega);have hlen:¬65536<s.length:=by omega
 by_cases aG:uM s<s.length
 . have so:((uM s:Int) < (s.length:Int))=True:=eq_true (by omega);simp +contextual only [so,g1,cu,cx,oc,od,↓al,aK,simprocAttr];refine ⟨y'.set (Nat.le_refl _) _,?_⟩;unfold oa;rw [if_neg hlen,if_pos aG]
 have so:((uM s:Int) < (s.length:Int))=False:=eq_false (by omega);have lC:oa s=re s 0:=by unfold oa;rw [if_neg hlen,if_neg aG]
 simp +contextual only [so,g1,cu,cx,oc,od,↓al,aK,simprocAttr];have agv:Ext h (aa.new (.bx [.str s,.int .i64 0,.int .i64 0] 0 false)):=y'.new _;refine gD (fun r ab=>r 0=.str s/\r 3=.ptr (aj h.next) 0/\r 5=.ptr (aj aa.next) 0/\∃(a:Nat) (ws:List ct) (v:V),r 6=v/\ab.get (aj aa.next)=.bx [.str s,.int .i64 a,.int .i64 0] 0 false/\a<=s.length/\ws.length<=a/\
  ab.get (aj h.next)=.bx [.int .i64 0,.int .i64 0] 0 false/\Ext h ab/\aa.next+1<=ab.next/\dW (aa.next+1) ab 4 v ws.length (qn ws)/\oa s=uC ws (re (s.drop a) a))
  (fun r ab=>s.length - ((kI (ab.get (aj aa.next)) 1).getD .bad).toN) ?_ ?_
 . refine ⟨by simp only [↓al,aK,simprocAttr],by simp only [↓al,aK,simprocAttr],by simp only [↓al,aK,simprocAttr],0,[],.bU,by simp only [↓al,aK,simprocAttr],by simp only [↓al,aK,simprocAttr]<;>rfl,by omega,by simp,by simp only [g1,cu,oc,cx,od,↓al,aK,simprocAttr],agv,?_,⟨rfl,rfl⟩,?_⟩
   . rw [gF];exact Nat.le_refl _
   . rw [lC,List.drop_zero,alY]
 . rintro r ab ⟨bA,cc,dZ,a,ws,v,dI,aF,bK,kw,bn,Fu,mf,cY,bF⟩;unfold PB;have gQ:Old ab (aj aa.next):=gi (by omega);by_cases gl:(s.length:Int)<=(a:Int)
   . have aV:a=s.length:=by omega
     have Fb:oa s=.ok ws:=by rw [bF,aV,List.drop_length];show Except.ok (ws++[])=_;rw [List.append_nil]
     simp +contextual only [bA,cc,dZ,dI,aF,bn,gl,cu,cx,oc,od,↓al,aK,simprocAttr];refine ⟨Fu.set (Nat.le_refl _) _,?_⟩;rw [Fb];refine ⟨v,rfl,?_⟩;have:=cY.mod ((Mod.refl (fun q=>q=aj h.next) ab).self (.bx [.int .i64 0,.int .i64 0] 0 false)) (fun q aA e=>by have ad:=cY.base aA;rw [show q=aj h.next from e,cm] at ad;omega);exact this.mono (by omega)
   . have aT:a<s.length:=by omega
     rw [drop_cons aT,T_,<-drop_cons aT] at bF;have f0:(0<=(a:Int))=True:=eq_true (by omega);have f1:((a:Int) < (s.length:Int))=True:=eq_true (by omega);have bW:IntKind.i64.wrap ((a:Int)+1)=((a+1:Nat):Int):=by rw [wrap_i64 (by omega) (by omega)];rfl
     simp +contextual only [bA,cc,dZ,dI,aF,bn,gl,cu,cx,oc,od,f0,f1,List.getElem?_eq_getElem aT,Int.toNat_natCast,↓al,aK,simprocAttr];refine h2 (Tu _ _ _) ?_;rw [Xm];by_cases ET:blank s[a]=true
     . have J':(0<=Lib.indexByte [9,10,13,32] s[a])=True:=by rw [Pp,ET];exact eq_self _
       rw [if_pos ET] at bF;simp +contextual only [J',bW,bA,cc,dZ,dI,aF,bn,gl,cu,cx,oc,od,f0,f1,List.getElem?_eq_getElem aT,Int.toNat_natCast,↓al,aK,simprocAttr];refine ⟨⟨a+1,ws,rfl,by omega,by omega,Fu.set (by omega) _,mf,?_,bF⟩,by omega⟩;exact cY.mod ((Mod.refl (fun q=>q=aj aa.next) ab).self _) (fun q aA e=>by have ad:=cY.base aA;rw [show q=aj aa.next from e,cm] at ad;omega)
     . have J':(0<=Lib.indexByte [9,10,13,32] s[a])=False:=by rw [Pp];exact eq_false ET
       rw [if_neg ET] at bF;simp +contextual only [J',bW,bA,cc,dZ,dI,aF,bn,gl,cu,cx,oc,od,f0,f1,List.getElem?_eq_getElem aT,Int.toNat_natCast,↓al,aK,simprocAttr];have Bx:=J5 s [40,42] (a:Int) [.int .i64 0] (aj aa.next) 0 false ab aF (by omega) (by omega);rw [Int.toNat_natCast] at Bx;refine h2 Bx ?_;cases q5:([40,42]:List UInt8).isPrefixOf (s.drop a) with
       | true=>
         rw [q5,if_pos rfl] at bF;simp +contextual only [bW,bA,cc,dZ,dI,aF,bn,gl,cu,cx,oc,od,f0,f1,List.getElem?_eq_getElem aT,Int.toNat_natCast,↓al,aK,simprocAttr];refine cF (akW s a 0 (aj aa.next) ab aF bK (by omega) gQ) ?_;rintro x ad ⟨rfl,hm,aQ⟩;have q7:ad.get (aj h.next)=.bx [.int .i64 0,.int .i64 0] 0 false:=by rw [hm.get _ (gi (by omega)) (by rw [cx];exact id),bn]
         have Fs:Ext h ad:=Fu.j5 hm (fun b ae=>by rw [show b=aj aa.next from ae,cm];omega);have qa:=hm.next
         have k3:=cY.mod hm (fun q aA e=>by have ad:=cY.base aA;rw [show q=aj aa.next from e,cm] at ad;omega);cases KR:ix (s.drop a) 0 with
         | some n=>
           rw [KR] at aQ bF;obtain ⟨g2,hle⟩:=aQ;have Bw:=Gb KR;unfold fg at g2;simp +contextual only [bW,bA,cc,dZ,dI,g2,aF,q7,gl,cu,cx,oc,od,f0,f1,List.getElem?_eq_getElem aT,Int.toNat_natCast,↓al,aK,simprocAttr];refine ⟨⟨a+n,ws,rfl,hle,by omega,Fs,by omega,k3,?_⟩,by omega⟩;rw [bF];simp only [List.drop_drop]
         | none=>
           rw [KR] at aQ bF;unfold fg at aQ;simp +contextual only [bW,bA,cc,dZ,dI,aQ,aF,q7,gl,cu,cx,oc,od,f0,f1,List.getElem?_eq_getElem aT,Int.toNat_natCast,↓al,aK,simprocAttr];refine ⟨Fs.set (Nat.le_refl _) _,?_⟩;rw [bF];rfl
       | false=>
         rw [q5,if_neg Bool.false_ne_true] at bF;simp +contextual only [bW,bA,cc,dZ,dI,aF,bn,gl,cu,cx,oc,od,f0,f1,List.getElem?_eq_getElem aT,Int.toNat_natCast,↓al,aK,simprocAttr];refine cF (akL s a (aj aa.next) ab aF aT (by omega) gQ) ?_;rintro x ad w;obtain ⟨hm,k,n,t,rfl,t_⟩:=w;have q7:ad.get (aj h.next)=.bx [.int .i64 0,.int .i64 0] 0 false:=by rw [hm.get _ (gi (by omega)) (by rw [cx];exact id),bn]
         have Fs:Ext h ad:=Fu.j5 hm (fun b ae=>by rw [show b=aj aa.next from ae,cm];omega);have qa:=hm.next
         have k3:=cY.mod hm (fun q aA e=>by have ad:=cY.base aA;rw [show q=aj aa.next from e,cm] at ad;omega);have m0:(aj ad.next=aj h.next)=False:=by rw [sP];exact eq_false (by omega)
         have m1:(aj ad.next=aj aa.next)=False:=by rw [sP];exact eq_false (by omega)
         have Up:(ad.next=h.next)=False:=eq_false (by omega);have Uq:(ad.next=aa.next)=False:=eq_false (by omega);have Ft:Ext ad (((ad.new (.bx [.int .i64 0,.int .i64 0,.int .i64 0,.str []] 0 false)).set (aj ad.next) (.bx [.int .i64 k,.int .i64 n,.int .i64 0,.str t] 0 false)).set (aj ad.next) (.bx [.int .i64 k,.int .i64 n,.int .i64 a,.str t] 0 false)):=(((Ext.refl ad).new _).set (Nat.le_refl _) _).set (Nat.le_refl _) _;obtain ⟨v3,aH,ao,ax,aL,bY,ee⟩:=vo (cs:=[.int .i64 k,.int .i64 n,.int .i64 a,.str t]) (by omega) (k3.ext Ft) (by simp only [oe,gF];omega) (by unfold top;omega) rfl rfl;simp only [oe,gF] at ao bY;have Tj:Ext h aH:=(Fs.trans Ft).j5 aL (fun b ae=>Nat.le_trans (by omega) (k3.base ae));have BL:aH.get (aj h.next)=.bx [.int .i64 0,.int .i64 0] 0 false:=by rw [aL.get _ (gi (by simp only [oe,gF];omega)) (fun aA=>by have:=k3.base aA;rw [cm] at this;omega),Ft.get _ (gi (by omega)),q7]
         have kE:aH.get (aj aa.next)=ad.get (aj aa.next):=by rw [aL.get _ (gi (by simp only [oe,gF];omega)) (fun aA=>by have:=k3.base aA;rw [cm] at this;omega),Ft.get _ (gi (by omega))]
         cases mf:gU (s.drop a) with
         | ok q=>
           have Bw:=LY mf;rw [mf] at t_ bF;obtain ⟨rfl,rfl,rfl,g2,hle⟩:=t_;unfold fg at g2;rw [g2] at kE;simp +contextual only [ao,m0,m1,Up,Uq,bW,bA,cc,dZ,dI,g2,kE,aF,q7,gl,cu,cx,oc,od,f0,f1,List.getElem?_eq_getElem aT,Int.toNat_natCast,↓al,aK,simprocAttr];refine ⟨⟨a+q.2.2.2,ws++[⟨q.1,q.2.1,a,q.2.2.1⟩],rfl,hle,by simp;omega,BL,Tj,by omega,?_,?_⟩,by omega⟩
           . rw [List.length_append,XF];exact ax
           . rw [bF,alX];simp only [List.drop_drop]
         | error e=>
           rw [mf] at t_ bF;obtain ⟨he,bs,g2⟩:=t_;unfold fg at g2;rw [g2] at kE;simp +contextual only [he,ao,m0,m1,Up,Uq,bW,bA,cc,dZ,dI,g2,kE,BL,aF,q7,gl,cu,cx,oc,od,f0,f1,List.getElem?_eq_getElem aT,Int.toNat_natCast,↓al,aK,simprocAttr];refine ⟨Tj.set (Nat.le_refl _) _,?_⟩;rw [bF];rfl
def Kf:List UInt8->Bool
 | d::_=>oP d.toNat
 | []=>false
def mn (k:Int) (s:List UInt8):Bool:=
 decide (s≠[])&&decide (s.length<=64)&&s.all gE&&(if k=3 then (qV s||s.head? == some 95)&&!decide (s=[95])&&!sC s else if k=4 then Kf s else qV s)
theorem ZR {s:List UInt8} (h:∀c ∈ s,c.toNat<128):uM s=s.length:=by
 have aC:∀a,a<s.length->mG s a=1:=by
  intro a aV;have bb:decodeL s a=((s[a]).toNat,1):=by unfold decodeL;rw [Lib.decode_at];simp only [RU,List.getElem?_eq_getElem aV,Option.getD_some];unfold Lib.decodeN;rw [if_pos (h _ (List.getElem_mem aV))]
  unfold mG;rw [bb,if_neg (by have:=h _ (List.getElem_mem aV);simp only [Prod.mk.injEq,and_true];omega)]
 have:∀n a,s.length-a=n->a<=s.length->ru s a=s.length:=by
  intro n
  induction n with
  | zero=>intro a aa ad;exact Wj (by omega)
  | succ n bd=>
    intro a aa ad;have aT:a<s.length:=by omega
    rw [MU aT (by rw [aC a aT];decide),aC a aT];exact bd _ (by omega) (by omega)
 exact this s.length 0 (by omega) (by omega)
theorem ajX {s:List UInt8} (h:∀c ∈ s,c.toNat<128):oa s=if 65536<s.length then .error (3,0) else re s 0:=by unfold oa;rw [ZR h,if_neg (Nat.lt_irrefl _)]
theorem akf {c:UInt8} (h:gE c=true):blank c=false/\c≠40:=by
 constructor
 . cases ae:blank c with
   | false=>rfl
   | true=>
     unfold blank at ae;simp only [Bool.or_eq_true,decide_eq_true_eq] at ae;rcases ae with ((rfl | rfl) | rfl) | rfl<;>exact absurd h (by decide)
 . rintro rfl;exact absurd h (by decide)
theorem akR {c:UInt8} (h:c≠40) (r:List UInt8):([40,42]:List UInt8).isPrefixOf (c::r)=false:=by
 have:((40:UInt8) == c)=false:=by rw [beq_eq_false_iff_ne];exact fun q=>h q.symm
 simp [List.isPrefixOf,this]
theorem WE {c:UInt8} (h:jj c.toNat=true):fk c=false/\c≠34:=by unfold jj at h;simp only [Bool.and_eq_true,decide_eq_true_eq] at h;refine ⟨?_,by rintro rfl;exact absurd h (by decide)⟩;unfold fk nM;simp only [Bool.and_eq_false_iff,decide_eq_false_iff_not];omega
theorem adZ {c:UInt8} (h:oP c.toNat=true):fk c=false/\c≠34/\jj c.toNat=false/\c≠95:=by
 unfold oP at h;simp only [Bool.and_eq_true,decide_eq_true_eq] at h;refine ⟨?_,by rintro rfl;exact absurd h (by decide),?_,by rintro rfl;exact absurd h (by decide)⟩
 . unfold fk nM;simp only [Bool.and_eq_false_iff,decide_eq_false_iff_not];omega
 . unfold jj;simp only [Bool.and_eq_false_iff,decide_eq_false_iff_not];omega
theorem akC {k:Int} {s:List UInt8} (h:mn k s=true):s≠[]/\s.length<=64/\s.all gE=true/\(if k=3 then (qV s||s.head? == some 95)&&!decide (s=[95])&&!sC s else if k=4 then Kf s else qV s)=true:=by unfold mn at h;rw [Bool.and_eq_true,Bool.and_eq_true,Bool.and_eq_true,decide_eq_true_eq,decide_eq_true_eq] at h;exact ⟨h.1.1.1,h.1.1.2,h.1.2,h.2⟩
theorem akM {c:UInt8} {t:List UInt8} (h:jj c.toNat=true\/c=95):gU (c::t)=ko 3 (c::t):=by
 have bb:fk c=false:=h.elim (fun q=>(WE q).1) (fun q=>by rw [q];decide);have ad8:c≠34:=h.elim (fun q=>(WE q).2) (fun q=>by rw [q];decide);have aM:(jj c.toNat||decide (c=95))=true:=by simpa using h
 simp only [gU,bb,aM,if_neg ad8,Bool.false_eq_true,if_false,if_true]
theorem ZQ {c:UInt8} (h:gE c=true):c.toNat<128:=by unfold gE wL nM jj oP at h;simp only [Bool.or_eq_true,Bool.and_eq_true,decide_eq_true_eq] at h;omega
theorem Xl {p:UInt8->Bool}:∀s:List UInt8,s.all p=true->s.takeWhile p=s
 | [],_=>rfl
 | c::s,h=>by rw [List.all_cons,Bool.and_eq_true] at h;rw [List.takeWhile_cons,h.1,if_pos rfl,Xl s h.2]
theorem O6 (p:UInt8->Bool):∀s:List UInt8,(s.takeWhile p).all p=true
 | []=>rfl
 | c::s=>by
   rw [List.takeWhile_cons]
   split
   . rename_i h;rw [List.all_cons,h,O6 p s];rfl
   . rfl
theorem LW {k:Int} {c:UInt8} {r:List UInt8} {q:Int × Int × List UInt8 × Nat} (aD:(k=3/\(jj c.toNat=true\/c=95))\/(k=4/\oP c.toNat=true)\/(k=5/\jj c.toNat=true)) (h:ko k (c::r)=.ok q) (aA:q.1=3\/q.1=4\/q.1=5):
 q.1=k/\mn k q.2.2.1=true:=by
 have az:gE c=true:=by
  rcases aD with ⟨_,q | q⟩ | ⟨_,q⟩ | ⟨_,q⟩
  . exact M3 q
  . exact Xp q
  . exact R1 q
  . exact M3 q
 have au:(c::r).takeWhile gE=c::r.takeWhile gE:=by rw [List.takeWhile_cons,if_pos az]
 have aV:=O6 gE (c::r);rw [au] at aV;unfold ko at h;simp only [au] at h;generalize r.takeWhile gE=t at *
 split at h
 . cases h;simp at aA
 . rename_i afO
   split at h
   . cases h;simp at aA
   . rename_i yU
     split at h
     . cases h
     . rename_i hlen;cases h;refine ⟨rfl,?_⟩;have mU:(if k=3 then (qV (c::t)||(c::t).head? == some 95)&&!decide (c::t=[95])&&!sC (c::t) else if k=4 then Kf (c::t) else qV (c::t))=true:=by
        rcases aD with ⟨rfl,z⟩ | ⟨rfl,z⟩ | ⟨rfl,z⟩
        . rw [if_pos rfl];have aa:(qV (c::t)||(c::t).head? == some 95)=true:=by
           rcases z with z | z
           . show (jj c.toNat||_)=true;rw [z];rfl
           . subst z;simp
          rw [aa,decide_eq_false (fun z=>afO ⟨rfl,z⟩),Bool.eq_false_iff.2 (fun z=>yU ⟨rfl,z⟩)];rfl
        . exact z
        . exact z
       show mn k (c::t)=true;unfold mn;rw [mU,aV,decide_eq_true (show c::t≠[] by simp),decide_eq_true (show (c::t).length<=64 by omega)];rfl
theorem akH {r:List UInt8} {q:Int × Int × List UInt8 × Nat} (h:gU r=.ok q) (aA:q.1=3\/q.1=4\/q.1=5):mn q.1 q.2.2.1=true:=by
 match r,h with
 | c::r,h=>
   simp only [gU] at h
   split at h
   . unfold zt at h;simp only at h
     split at h
     . cases h
     . cases h;simp at aA
   . split at h
     . unfold s4 at h
       split at h
       . cases h
       . split at h
         . cases h
         . cases h;simp at aA
     . split at h
       . rename_i aM;have:=LW (.inl ⟨rfl,by simpa using aM⟩) h aA;rw [this.1];exact this.2
       . split at h
         . rename_i aM;have:=LW (.inr (.inl ⟨rfl,aM⟩)) h aA;rw [this.1];exact this.2
         . split at h
           . rename_i aM;cases aQ:ko 5 r with
             | error e=>rw [aQ] at h;cases h
             | ok ep=>
               rw [aQ] at h;cases h;obtain ⟨d,t,rfl⟩:∃d t,r=d::t:=by
                cases r with
                | nil=>simp [qV] at aM
                | cons d t=>exact ⟨d,t,rfl⟩
               have:=LW (.inr (.inr ⟨rfl,aM.2⟩)) aQ aA;show mn ep.1 ep.2.2.1=true;rw [this.1];exact this.2
           . unfold zQ at h
             split at h
             . cases h;simp at aA
             . cases h
theorem FT:∀(f:Nat) (r:List UInt8) (p:Nat) (ws:List ct),n_ f r p=.ok ws->∀w ∈ ws,w.kind=3\/w.kind=4\/w.kind=5->mn w.kind w.text=true
 | 0,r,p,ws,h,w,hw,_=>by simp only [n_,Except.ok.injEq] at h;subst h;cases hw
 | f+1,[],p,ws,h,w,hw,_=>by simp only [n_,Except.ok.injEq] at h;subst h;cases hw
 | f+1,c::r,p,ws,h,w,hw,aD=>by
   simp only [n_] at h
   split at h
   . exact FT f _ _ ws h w hw aD
   . split at h
     . split at h
       . cases h
       . exact FT f _ _ ws h w hw aD
     . split at h
       . cases h
       . rename_i q aQ;cases aG:n_ f ((c::r).drop q.2.2.2) (p+q.2.2.2) with
         | error aN=>rw [aG] at h;cases h
         | ok bV=>
           rw [aG] at h;simp only [AV,Except.ok.injEq] at h;subst h;rcases List.mem_cons.1 hw with rfl | hw
           . exact akH aQ aD
           . exact FT f _ _ bV aG w hw aD
theorem aml {k:Int} {s:List UInt8} (aD:k=3\/k=4\/k=5) (h:mn k s=true):oa (if k=5 then 39::s else s)=.ok [⟨k,0,0,s⟩]:=by
 obtain ⟨g1,g2,g3,g4⟩:=akC h;obtain ⟨c,t,rfl⟩:=List.exists_cons_of_ne_nil g1;have aew:∀d ∈ (if k=5 then 39::c::t else c::t),d.toNat<128:=by
  intro d bb;have aa:∀d ∈ c::t,d.toNat<128:=fun d bb=>ZQ (List.all_eq_true.1 g3 d bb)
  split at bb
  . rcases List.mem_cons.1 bb with rfl | bb
    . decide
    . exact aa d bb
  . exact aa d bb
 rw [ajX aew,if_neg (by split<;>simp only [List.length_cons] at g2 ⊢<;>omega)];have az:gE c=true:=by rw [List.all_cons,Bool.and_eq_true] at g3;exact g3.1
 obtain ⟨cn,ch⟩:=akf az;have rd:∀j:Int,(j=3->c::t≠[95]/\sC (c::t)=false)->ko j (c::t)=.ok (j,0,c::t,(c::t).length):=by intro j a6;unfold ko;simp only [Xl _ g3];rw [if_neg (fun q=>(a6 q.1).1 q.2),if_neg (fun q=>by rw [(a6 q.1).2] at q;simp at q),if_neg (by omega)]
 have fin:∀(d:UInt8) (u:List UInt8) (q:Int × Int × List UInt8 × Nat),blank d=false->d≠40->gU (d::u)=.ok q->q.2.2.2=(d::u).length->re (d::u) 0=.ok [⟨q.1,q.2.1,0,q.2.2.1⟩]:=by intro d u q aN aZ bJ dR;rw [T_,aN,if_neg Bool.false_ne_true,akR aZ,if_neg Bool.false_ne_true,bJ];simp only [dR,List.drop_length];rfl
 rcases aD with rfl | rfl | rfl
 . rw [if_neg (by decide)];rw [if_pos rfl] at g4;simp only [Bool.and_eq_true,Bool.not_eq_true',decide_eq_false_iff_not,Bool.or_eq_true,beq_iff_eq] at g4;have bk:jj c.toNat=true\/c=95:=g4.1.1.imp id (fun q=>Option.some.inj q);exact fin c t _ cn ch (by rw [akM bk];exact rd 3 (fun _=>⟨g4.1.2,g4.2⟩)) rfl
 . rw [if_neg (by decide)];rw [if_neg (by decide),if_pos rfl] at g4;have aF:oP c.toNat=true:=g4;obtain ⟨cx,e8,n3,n4⟩:=adZ aF;refine fin c t (4,0,c::t,(c::t).length) cn ch ?_ rfl;simp only [gU,cx,n3,aF,if_neg e8,Bool.false_eq_true,if_false,if_true,Bool.false_or,decide_eq_true_eq,if_neg n4];exact rd 4 (fun q=>absurd q (by decide))
 . rw [if_pos rfl];rw [if_neg (by decide),if_neg (by decide)] at g4;refine fin 39 (c::t) (5,0,c::t,(c::t).length+1) (by decide) (by decide) ?_ rfl;simp only [gU];rw [if_neg (by decide),if_neg (by decide),if_neg (by decide),if_neg (by decide),if_pos ⟨trivial,g4⟩,rd 5 (fun q=>absurd q (by decide))];rfl
theorem size_eq (t:an):t.size=1+cN t.l:=by cases t;simp only [an.size,an.l]
theorem Mk:∀l m:List an,hY (l++m)=max (hY l) (hY m)
 | [],m=>by simp [hY]
 | t::l,m=>by rw [List.cons_append,hY,hY,Mk l m,Nat.max_assoc]
theorem Cx:∀l m:List an,cN (l++m)=cN l+cN m
 | [],m=>by simp [cN]
 | t::l,m=>by rw [List.cons_append,cN,cN,Cx l m,Nat.add_assoc]
theorem take_one {l:List an} {i:Nat} (h:i<l.length):l.take (i+1)=l.take i++[l[i]]:=by rw [List.take_succ_eq_append_getElem h]
theorem Gv {l:List an} {i:Nat} (h:i<l.length):cN (l.take (i+1))=cN (l.take i)+l[i].size:=by rw [take_one h,Cx,cN,cN,Nat.add_zero]
mutual
theorem QV:∀t:an,t.deep<=t.size
 | .mk k n s l=>by rw [an.deep,an.size];have:=Vj l;omega
theorem Vj:∀l:List an,hY l<=cN l
 | []=>Nat.le_refl _
 | t::l=>by rw [hY,cN];have:=QV t;have:=Vj l;omega
end
theorem w5 (l:List an) (i:Nat):cN (l.take i)<=cN l:=by have:=Cx (l.take i) (l.drop i);rw [List.take_append_drop] at this;omega
theorem VF {l:List an} {i:Nat} (aq:i<l.length):cN l[i].l<cN l:=by have aa:=uE (List.getElem_mem aq);have ad:=size_eq l[i];omega
theorem Uw (a b:Nat):(if (a:Int) < (b:Int) then (b:Int) else (a:Int))=((max a b:Nat):Int):=by
 by_cases h:(a:Int) < (b:Int)
 . rw [if_pos h,Nat.max_eq_right (by omega)]
 . rw [if_neg h,Nat.max_eq_left (by omega)]
mutual
def an.pred:Nat->an->List (Nat × an)
 | d,.mk k n s l=>(d,.mk k n s l)::iB (d+1) l
def iB:Nat->List an->List (Nat × an)
 | _,[]=>[]
 | d,t::l=>t.pred d++iB d l
end
theorem alU (d:Nat) (t:an):t.pred d=(d,t)::iB (d+1) t.l:=by cases t;simp only [an.pred,an.l]
theorem Mr (d:Nat):∀l m:List an,iB d (l++m)=iB d l++iB d m
 | [],m=>rfl
 | t::l,m=>by rw [List.cons_append,iB,iB,Mr d l m,List.append_assoc]
theorem alW (d:Nat) (t:an):iB d [t]=t.pred d:=by rw [iB,iB,List.append_nil]
mutual
theorem Mo:∀(d:Nat) (t:an),(t.pred d).map Prod.snd=t.pre
 | d,.mk k n s l=>by rw [an.pred,an.pre,List.map_cons,Ms (d+1) l]
theorem Ms:∀(d:Nat) (l:List an),(iB d l).map Prod.snd=uD l
 | _,[]=>rfl
 | d,t::l=>by rw [iB,uD,List.map_append,Mo d t,Ms d l]
end
theorem Vw (d:Nat) (t:an):(t.pred d).length=t.size:=by rw [<-Vu,<-Mo d t,List.length_map]
theorem alV (d:Nat) (l:List an):(iB d l).length=cN l:=by rw [<-Mt,<-Ms d l,List.length_map]
def maxD (l:List (Nat × an)):Nat:=l.foldl (fun m x=>max m x.1) 0
theorem foldl_max (l:List (Nat × an)) (m:Nat):l.foldl (fun m x=>max m x.1) m=max m (maxD l):=by
 unfold maxD
 induction l generalizing m with
 | nil=>simp
 | cons x l bd=>rw [List.foldl_cons,List.foldl_cons,bd,bd (max 0 x.1)];omega
theorem LP (l m:List (Nat × an)):maxD (l++m)=max (maxD l) (maxD m):=by
 conv=>lhs;unfold maxD
 rw [List.foldl_append,foldl_max];rfl
theorem Uv (x:Nat × an) (l:List (Nat × an)):maxD (x::l)=max x.1 (maxD l):=by have:=LP [x] l;rw [List.singleton_append] at this;rw [this];congr 1
mutual
theorem Vx:∀(d:Nat) (t:an),maxD (t.pred d)+1=d+t.deep
 | d,.mk k n s l=>by
   rw [an.pred,an.deep,Uv];have:=Vy (d+1) l;simp only
   split at this
   . rename_i q;subst q;simp only [iB,hY];unfold maxD;simp
   . omega
theorem Vy:∀(d:Nat) (l:List an),if l=[] then maxD (iB d l)=0 else maxD (iB d l)+1=d+hY l
 | _,[]=>by simp [iB,maxD]
 | d,t::l=>by
   rw [if_neg (by simp),iB,LP,hY];have aa:=Vx d t;have ad:=Vy d l
   split at ad
   . rename_i q;subst q;rw [ad];simp only [hY];omega
   . omega
end
def DK:List UInt8:=[45,62]
def G0:List UInt8:=[42]
def an.own (t:an):Bool:=
 if t.k=1 then decide (0<=t.n)&&decide (t.n<=1048575)&&decide (t.s=[])&&decide (t.l.length=0)
 else if t.k=2 then (if t.s=DK\/t.s=G0 then decide (t.n=0)&&decide (t.l.length=2) else decide (t.n=0)&&decide (t.l.length<=64)&&mn 3 t.s)
 else false
mutual
def an.shape:an->Bool
 | .mk k n s l=>(an.mk k n s l).own&&ib l
def ib:List an->Bool
 | []=>true
 | t::l=>t.shape&&ib l
end
theorem GP (t:an):t.shape=(t.own&&ib t.l):=by cases t;rw [an.shape];rfl
theorem WA:∀l:List an,ib l=l.all an.shape
 | []=>rfl
 | t::l=>by rw [ib,List.all_cons,WA l]
mutual
theorem Wz:∀t:an,t.shape=t.pre.all an.own
 | .mk k n s l=>by rw [an.shape,an.pre,List.all_cons,WB l]
theorem WB:∀l:List an,ib l=(uD l).all an.own
 | []=>rfl
 | t::l=>by rw [ib,uD,List.all_append,Wz t,WB l]
end
def an.check (t:an):Int:=if t.shape then (if t.size<=4096/\t.deep<=200 then 0 else 3) else 2
mutual
def an.same:an->an->Bool
 | .mk k n s l,.mk bo fW e1 cG=>decide (k=bo)&&decide (n=fW)&&decide (s=e1)&&jL l cG
def jL:List an->List an->Bool
 | [],[]=>true
 | t::l,u::m=>t.same u&&jL l m
 | [],_::_=>false
 | _::_,[]=>false
end
theorem amN (t u:an):t.same u=(decide (t.k=u.k)&&decide (t.n=u.n)&&decide (t.s=u.s)&&jL t.l u.l):=by cases t;cases u;rw [an.same];rfl
theorem VE:∀{l m:List an},jL l m=true->l.length=m.length
 | [],[],_=>rfl
 | t::l,u::m,h=>by rw [jL,Bool.and_eq_true] at h;rw [List.length_cons,List.length_cons,VE h.2]
 | [],_::_,h=>by rw [jL] at h;cases h
 | _::_,[],h=>by rw [jL] at h;cases h
theorem VC:∀{l m:List an} {i:Nat} (aa:i<l.length) (ad:i<m.length),jL (l.drop i) (m.drop i)=(l[i].same m[i]&&jL (l.drop (i+1)) (m.drop (i+1)))
 | t::l,u::m,0,_,_=>by simp only [List.drop_zero,List.drop_succ_cons,jL,List.getElem_cons_zero]
 | t::l,u::m,i+1,aa,ad=>by simp only [List.drop_succ_cons,List.getElem_cons_succ];exact VC (by simpa using aa) (by simpa using ad)
mutual
theorem CE:∀t u:an,t.same u=true↔t=u
 | .mk k n s l,.mk bo fW e1 cG=>by rw [an.same];simp only [Bool.and_eq_true,decide_eq_true_eq,VD l cG,an.mk.injEq];exact ⟨fun ⟨⟨⟨a,b⟩,c⟩,d⟩=>⟨a,b,c,d⟩,fun ⟨a,b,c,d⟩=>⟨⟨⟨a,b⟩,c⟩,d⟩⟩
theorem VD:∀l m:List an,jL l m=true↔l=m
 | [],[]=>by simp [jL]
 | t::l,u::m=>by rw [jL,Bool.and_eq_true,CE t u,VD l m,List.cons.injEq]
 | [],_::_=>by simp [jL]
 | _::_,[]=>by simp [jL]
end
def OZ (out:List Int) (t:an):List Int:=if t.k=1/\¬t.n ∈ out then out++[t.n] else out
end
end Go.Proofs.YthemdhlheglhoaaGreatDoor
