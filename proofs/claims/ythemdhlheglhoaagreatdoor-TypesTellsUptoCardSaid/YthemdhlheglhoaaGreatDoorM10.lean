/- The chapter's functions, walked by the abstract machine: plain lemmas, no condition. Printed by a program from longer texts: names made short. -/
import Derived.Test.YthemdhlheglhoaaGreatDoorM8
import Derived.Test.YthemdhlheglhoaaGreatDoorM9
import Derived.Shelf.LaysM
import Derived.Shelf.Strconv.Itoa3
import Derived.Shelf.Unicode.Decode
import Derived.Shelf.Unicode.DecodeSlow
import Derived.Shelf.Unicode.DecodeAny
import Derived.Shelf.Strconv.Atoi
import Derived.Shelf.Pu.ParseUintPublic10
import Derived.Lib.LaidU8T
import Derived.Test.YthemdhlheglhoaaGreatDoorM6
set_option linter.unusedSectionVars false
set_option linter.unusedSimpArgs false
set_option linter.unusedVariables false
namespace Go.Proofs.YthemdhlheglhoaaGreatDoor
open Go aX
theorem aa0:Extern.findNext Tryz.f153=none:=by kernel_rfl
theorem aaZ:(Extern.find Tryz.f153)=some Extern.BytealgIndexByte.indexByte:=by kernel_rfl
theorem aea (s:List UInt8) (c:Int) (h:af):fh Tryz.prog 153 [.str s,.int .u8 c] h (.int .i64 (Lib.indexByte s c.toNat.toUInt8)) h:=
 aec (by decide) Tryz.func153 (by kernel_rfl) (by kernel_rfl) aa0 aaZ s c h
theorem ad_ (s:List UInt8) (c:Int) (h:af):fh Tryz.prog 138 [.str s,.int .u8 c] h (.int .i64 (Lib.indexByte s c.toNat.toUInt8)) h:=by
 refine mJ (WA rfl (cL ?_))
 unfold c138
 simp +contextual only [↓ak,ax,simprocAttr]
 refine fq (aea _ _ _) ?_
 simp +contextual only [↓ak,ax,simprocAttr]
theorem Pq (s:List UInt8) (c:Int) (h:af):fh Tryz.prog 124 [.str s,.int .u8 c] h (.int .i64 (Lib.indexByte s c.toNat.toUInt8)) h:=by
 refine mJ (Wl rfl (cL ?_))
 unfold Fm
 simp +contextual only [↓ak,ax,simprocAttr]
 refine fq (ad_ _ _ _) ?_
 simp +contextual only [↓ak,ax,simprocAttr]
end Go.Proofs.YthemdhlheglhoaaGreatDoor
namespace Go.Proofs.YthemdhlheglhoaaGreatDoor
open Go Go.Shelf
def Tryz.agx:Go.Shelf.Ren:=⟨fun | 197=>137 | 260=>152 | n=>n,fun | 9=>9 | 21=>21 | 3=>3 | 4=>4 | 5=>5 | 105=>182 | 119=>199 | 0=>0 | 46=>141 | 139=>202 | 138=>201 | n=>n,fun | 3=>2 | 4=>3 | n=>n⟩
theorem Tryz.agw:Go.Proofs.Lays.n197 Tryz.prog Tryz.agx:={
 mixed:=by kernel_rfl,
 f197:=Tryz.func137.trans (congrArg some (by kernel_rfl)),
 f260:=Tryz.func152.trans (congrArg some (by kernel_rfl)),
 t0:=Tryz.underlying0,
 a0:=Tryz.isAgg0,
 z0:=Tryz.sizeOf0,
 v0:=Tryz.zeroValue0,
 t3:=Tryz.underlying3,
 a3:=Tryz.isAgg3,
 z3:=Tryz.sizeOf3,
 v3:=Tryz.zeroValue3,
 t4:=Tryz.underlying4,
 a4:=Tryz.isAgg4,
 z4:=Tryz.sizeOf4,
 v4:=Tryz.zeroValue4,
 t5:=Tryz.underlying5,
 a5:=Tryz.isAgg5,
 z5:=Tryz.sizeOf5,
 v5:=Tryz.zeroValue5,
 t9:=Tryz.underlying9,
 a9:=Tryz.isAgg9,
 z9:=Tryz.sizeOf9,
 v9:=Tryz.zeroValue9,
 t21:=Tryz.underlying21,
 a21:=Tryz.isAgg21,
 z21:=Tryz.sizeOf21,
 v21:=Tryz.zeroValue21,
 t46:=Tryz.underlying141,
 a46:=Tryz.isAgg141,
 z46:=Tryz.sizeOf141,
 v46:=Tryz.zeroValue141,
 t105:=Tryz.underlying182,
 a105:=Tryz.isAgg182,
 z105:=Tryz.sizeOf182,
 v105:=Tryz.zeroValue182,
 t119:=Tryz.underlying199,
 a119:=Tryz.isAgg199,
 z119:=Tryz.sizeOf199,
 t138:=Tryz.underlying201,
 a138:=Tryz.isAgg201,
 z138:=Tryz.sizeOf201,
 v138:=Tryz.zeroValue201,
 t139:=Tryz.underlying202,
 a139:=Tryz.isAgg202,
 z139:=Tryz.sizeOf202,
 v139:=Tryz.zeroValue202,
 g3:=by kernel_rfl,
 g4:=by kernel_rfl}
def Tryz.agv:Go.Shelf.Ren:=⟨fun | 172=>166 | 244=>176 | 245=>165 | 247=>180 | 279=>172 | 280=>173 | 281=>174 | 282=>175 | 287=>164 | 316=>178 | 171=>94 | 205=>179 | 321=>170 | 322=>171 | 243=>109 | 246=>128 | 283=>147 | 284=>148 | 285=>149 | 286=>150 | 129=>122 | 317=>160 | 318=>161 | 319=>162 | 320=>163 | 337=>168 | 338=>169 | n=>n,fun | 9=>9 | 3=>3 | 75=>133 | 76=>134 | 4=>4 | 5=>5 | 167=>205 | 37=>128 | 0=>0 | 85=>216 | 2=>2 | 168=>207 | 53=>166 | 175=>192 | 46=>141 | 210=>214 | 127=>155 | 145=>220 | 143=>218 | 21=>21 | 171=>186 | 173=>188 | 212=>197 | 51=>164 | 20=>20 | 213=>198 | 232=>210 | 233=>211 | 80=>136 | n=>n,fun | 15=>6 | 16=>7 | 17=>1 | 18=>4 | 19=>5 | n=>n⟩
theorem Tryz.agu:Go.Proofs.Lays.n172 Tryz.prog Tryz.agv:={
 mixed:=by kernel_rfl,
 f129:=Tryz.func122.trans (congrArg some (by kernel_rfl)),
 f171:=Tryz.func94.trans (congrArg some (by kernel_rfl)),
 f172:=Tryz.func166.trans (congrArg some (by kernel_rfl)),
 f205:=Tryz.func179.trans (congrArg some (by kernel_rfl)),
 f243:=Tryz.func109.trans (congrArg some (by kernel_rfl)),
 f244:=Tryz.func176.trans (congrArg some (by kernel_rfl)),
 f245:=Tryz.func165.trans (congrArg some (by kernel_rfl)),
 f246:=Tryz.func128.trans (congrArg some (by kernel_rfl)),
 f247:=Tryz.func180.trans (congrArg some (by kernel_rfl)),
 f279:=Tryz.func172.trans (congrArg some (by kernel_rfl)),
 f280:=Tryz.func173.trans (congrArg some (by kernel_rfl)),
 f281:=Tryz.func174.trans (congrArg some (by kernel_rfl)),
 f282:=Tryz.func175.trans (congrArg some (by kernel_rfl)),
 f283:=Tryz.func147.trans (congrArg some (by kernel_rfl)),
 f284:=Tryz.func148.trans (congrArg some (by kernel_rfl)),
 f285:=Tryz.func149.trans (congrArg some (by kernel_rfl)),
 f286:=Tryz.func150.trans (congrArg some (by kernel_rfl)),
 f287:=Tryz.func164.trans (congrArg some (by kernel_rfl)),
 f316:=Tryz.func178.trans (congrArg some (by kernel_rfl)),
 f317:=Tryz.func160.trans (congrArg some (by kernel_rfl)),
 f318:=Tryz.func161.trans (congrArg some (by kernel_rfl)),
 f319:=Tryz.func162.trans (congrArg some (by kernel_rfl)),
 f320:=Tryz.func163.trans (congrArg some (by kernel_rfl)),
 f321:=Tryz.func170.trans (congrArg some (by kernel_rfl)),
 f322:=Tryz.func171.trans (congrArg some (by kernel_rfl)),
 f337:=Tryz.func168.trans (congrArg some (by kernel_rfl)),
 f338:=Tryz.func169.trans (congrArg some (by kernel_rfl)),
 t0:=Tryz.underlying0,
 a0:=Tryz.isAgg0,
 z0:=Tryz.sizeOf0,
 v0:=Tryz.zeroValue0,
 t2:=Tryz.underlying2,
 a2:=Tryz.isAgg2,
 z2:=Tryz.sizeOf2,
 v2:=Tryz.zeroValue2,
 t3:=Tryz.underlying3,
 a3:=Tryz.isAgg3,
 z3:=Tryz.sizeOf3,
 v3:=Tryz.zeroValue3,
 t4:=Tryz.underlying4,
 a4:=Tryz.isAgg4,
 z4:=Tryz.sizeOf4,
 v4:=Tryz.zeroValue4,
 t5:=Tryz.underlying5,
 a5:=Tryz.isAgg5,
 z5:=Tryz.sizeOf5,
 v5:=Tryz.zeroValue5,
 t9:=Tryz.underlying9,
 a9:=Tryz.isAgg9,
 z9:=Tryz.sizeOf9,
 v9:=Tryz.zeroValue9,
 t20:=Tryz.underlying20,
 a20:=Tryz.isAgg20,
 z20:=Tryz.sizeOf20,
 v20:=Tryz.zeroValue20,
 t21:=Tryz.underlying21,
 a21:=Tryz.isAgg21,
 z21:=Tryz.sizeOf21,
 v21:=Tryz.zeroValue21,
 t37:=Tryz.underlying128,
 a37:=Tryz.isAgg128,
 z37:=Tryz.sizeOf128,
 v37:=Tryz.zeroValue128,
 t46:=Tryz.underlying141,
 a46:=Tryz.isAgg141,
 z46:=Tryz.sizeOf141,
 v46:=Tryz.zeroValue141,
 t51:=Tryz.underlying164,
 a51:=Tryz.isAgg164,
 z51:=Tryz.sizeOf164,
 v51:=Tryz.zeroValue164,
 t53:=Tryz.underlying166,
 a53:=Tryz.isAgg166,
 z53:=Tryz.sizeOf166,
 v53:=Tryz.zeroValue166,
 t75:=Tryz.underlying133,
 a75:=Tryz.isAgg133,
 z75:=Tryz.sizeOf133,
 v75:=Tryz.zeroValue133,
 t76:=Tryz.underlying134,
 a76:=Tryz.isAgg134,
 z76:=Tryz.sizeOf134,
 v76:=Tryz.zeroValue134,
 t85:=Tryz.underlying216,
 a85:=Tryz.isAgg216,
 z85:=Tryz.sizeOf216,
 v85:=Tryz.zeroValue216,
 t127:=Tryz.underlying155,
 a127:=Tryz.isAgg155,
 z127:=Tryz.sizeOf155,
 v127:=Tryz.zeroValue155,
 t143:=Tryz.underlying218,
 a143:=Tryz.isAgg218,
 z143:=Tryz.sizeOf218,
 v143:=Tryz.zeroValue218,
 t145:=Tryz.underlying220,
 a145:=Tryz.isAgg220,
 z145:=Tryz.sizeOf220,
 v145:=Tryz.zeroValue220,
 t167:=Tryz.underlying205,
 a167:=Tryz.isAgg205,
 z167:=Tryz.sizeOf205,
 v167:=Tryz.zeroValue205,
 t168:=Tryz.underlying207,
 a168:=Tryz.isAgg207,
 z168:=Tryz.sizeOf207,
 v168:=Tryz.zeroValue207,
 t171:=Tryz.underlying186,
 a171:=Tryz.isAgg186,
 z171:=Tryz.sizeOf186,
 v171:=Tryz.zeroValue186,
 t173:=Tryz.underlying188,
 a173:=Tryz.isAgg188,
 z173:=Tryz.sizeOf188,
 v173:=Tryz.zeroValue188,
 t175:=Tryz.underlying192,
 a175:=Tryz.isAgg192,
 z175:=Tryz.sizeOf192,
 v175:=Tryz.zeroValue192,
 t210:=Tryz.underlying214,
 a210:=Tryz.isAgg214,
 z210:=Tryz.sizeOf214,
 v210:=Tryz.zeroValue214,
 t212:=Tryz.underlying197,
 a212:=Tryz.isAgg197,
 z212:=Tryz.sizeOf197,
 v212:=Tryz.zeroValue197,
 t213:=Tryz.underlying198,
 a213:=Tryz.isAgg198,
 z213:=Tryz.sizeOf198,
 t232:=Tryz.underlying210,
 a232:=Tryz.isAgg210,
 z232:=Tryz.sizeOf210,
 v232:=Tryz.zeroValue210,
 t233:=Tryz.underlying211,
 a233:=Tryz.isAgg211,
 z233:=Tryz.sizeOf211,
 v233:=Tryz.zeroValue211,
 g15:=by kernel_rfl,
 g16:=by kernel_rfl,
 g17:=by kernel_rfl,
 g18:=by kernel_rfl,
 g19:=by kernel_rfl}
def Tryz.IK:Go.Shelf.Ren:=⟨fun | 14=>155 | 16=>164 | 17=>165 | 19=>170 | 20=>171 | 21=>172 | 22=>173 | 23=>174 | 24=>175 | 25=>178 | 27=>94 | 26=>179 | 28=>109 | 29=>128 | 30=>147 | 31=>148 | 32=>149 | 33=>150 | 35=>122 | 34=>160 | 36=>161 | 37=>162 | 38=>163 | 39=>168 | 40=>169 | n=>n,fun | 9=>9 | 3=>3 | 22=>166 | 24=>133 | 25=>192 | 4=>4 | 34=>205 | 5=>5 | 36=>141 | 37=>128 | 0=>0 | 39=>207 | 21=>21 | 44=>214 | 47=>155 | 50=>220 | 48=>218 | 2=>2 | 52=>186 | 55=>188 | 59=>197 | 60=>164 | 20=>20 | 61=>198 | 65=>210 | 66=>211 | 67=>136 | n=>n,fun | 0=>6 | 1=>7 | 2=>1 | 3=>4 | 4=>5 | n=>n⟩
theorem Tryz.PZ:Go.Proofs.LaysPu.n14 Tryz.prog Tryz.IK:={
 mixed:=by kernel_rfl,
 f14:=Tryz.func155.trans (congrArg some (by kernel_rfl)),
 f16:=Tryz.func164.trans (congrArg some (by kernel_rfl)),
 f17:=Tryz.func165.trans (congrArg some (by kernel_rfl)),
 f19:=Tryz.func170.trans (congrArg some (by kernel_rfl)),
 f20:=Tryz.func171.trans (congrArg some (by kernel_rfl)),
 f21:=Tryz.func172.trans (congrArg some (by kernel_rfl)),
 f22:=Tryz.func173.trans (congrArg some (by kernel_rfl)),
 f23:=Tryz.func174.trans (congrArg some (by kernel_rfl)),
 f24:=Tryz.func175.trans (congrArg some (by kernel_rfl)),
 f25:=Tryz.func178.trans (congrArg some (by kernel_rfl)),
 f26:=Tryz.func179.trans (congrArg some (by kernel_rfl)),
 f27:=Tryz.func94.trans (congrArg some (by kernel_rfl)),
 f28:=Tryz.func109.trans (congrArg some (by kernel_rfl)),
 f29:=Tryz.func128.trans (congrArg some (by kernel_rfl)),
 f30:=Tryz.func147.trans (congrArg some (by kernel_rfl)),
 f31:=Tryz.func148.trans (congrArg some (by kernel_rfl)),
 f32:=Tryz.func149.trans (congrArg some (by kernel_rfl)),
 f33:=Tryz.func150.trans (congrArg some (by kernel_rfl)),
 f34:=Tryz.func160.trans (congrArg some (by kernel_rfl)),
 f35:=Tryz.func122.trans (congrArg some (by kernel_rfl)),
 f36:=Tryz.func161.trans (congrArg some (by kernel_rfl)),
 f37:=Tryz.func162.trans (congrArg some (by kernel_rfl)),
 f38:=Tryz.func163.trans (congrArg some (by kernel_rfl)),
 f39:=Tryz.func168.trans (congrArg some (by kernel_rfl)),
 f40:=Tryz.func169.trans (congrArg some (by kernel_rfl)),
 t0:=Tryz.underlying0,
 a0:=Tryz.isAgg0,
 z0:=Tryz.sizeOf0,
 v0:=Tryz.zeroValue0,
 i0:=by kernel_rfl,
 t2:=Tryz.underlying2,
 a2:=Tryz.isAgg2,
 z2:=Tryz.sizeOf2,
 v2:=Tryz.zeroValue2,
 i2:=by kernel_rfl,
 t3:=Tryz.underlying3,
 a3:=Tryz.isAgg3,
 z3:=Tryz.sizeOf3,
 v3:=Tryz.zeroValue3,
 i3:=by kernel_rfl,
 t4:=Tryz.underlying4,
 a4:=Tryz.isAgg4,
 z4:=Tryz.sizeOf4,
 v4:=Tryz.zeroValue4,
 i4:=by kernel_rfl,
 t5:=Tryz.underlying5,
 a5:=Tryz.isAgg5,
 z5:=Tryz.sizeOf5,
 v5:=Tryz.zeroValue5,
 i5:=by kernel_rfl,
 t9:=Tryz.underlying9,
 a9:=Tryz.isAgg9,
 z9:=Tryz.sizeOf9,
 v9:=Tryz.zeroValue9,
 i9:=by kernel_rfl,
 t20:=Tryz.underlying20,
 a20:=Tryz.isAgg20,
 z20:=Tryz.sizeOf20,
 v20:=Tryz.zeroValue20,
 i20:=by kernel_rfl,
 t21:=Tryz.underlying21,
 a21:=Tryz.isAgg21,
 z21:=Tryz.sizeOf21,
 v21:=Tryz.zeroValue21,
 i21:=by kernel_rfl,
 t22:=Tryz.underlying166,
 a22:=Tryz.isAgg166,
 z22:=Tryz.sizeOf166,
 v22:=Tryz.zeroValue166,
 i22:=by kernel_rfl,
 t24:=Tryz.underlying133,
 a24:=Tryz.isAgg133,
 z24:=Tryz.sizeOf133,
 v24:=Tryz.zeroValue133,
 i24:=by kernel_rfl,
 t25:=Tryz.underlying192,
 a25:=Tryz.isAgg192,
 z25:=Tryz.sizeOf192,
 v25:=Tryz.zeroValue192,
 i25:=by kernel_rfl,
 t34:=Tryz.underlying205,
 a34:=Tryz.isAgg205,
 z34:=Tryz.sizeOf205,
 v34:=Tryz.zeroValue205,
 i34:=by kernel_rfl,
 c34:=by kernel_rfl,
 t36:=Tryz.underlying141,
 a36:=Tryz.isAgg141,
 z36:=Tryz.sizeOf141,
 v36:=Tryz.zeroValue141,
 i36:=by kernel_rfl,
 t37:=Tryz.underlying128,
 a37:=Tryz.isAgg128,
 z37:=Tryz.sizeOf128,
 v37:=Tryz.zeroValue128,
 i37:=by kernel_rfl,
 t39:=Tryz.underlying207,
 a39:=Tryz.isAgg207,
 z39:=Tryz.sizeOf207,
 v39:=Tryz.zeroValue207,
 i39:=by kernel_rfl,
 t44:=Tryz.underlying214,
 a44:=Tryz.isAgg214,
 z44:=Tryz.sizeOf214,
 v44:=Tryz.zeroValue214,
 i44:=by kernel_rfl,
 t47:=Tryz.underlying155,
 a47:=Tryz.isAgg155,
 z47:=Tryz.sizeOf155,
 v47:=Tryz.zeroValue155,
 i47:=by kernel_rfl,
 t48:=Tryz.underlying218,
 a48:=Tryz.isAgg218,
 z48:=Tryz.sizeOf218,
 v48:=Tryz.zeroValue218,
 i48:=by kernel_rfl,
 t50:=Tryz.underlying220,
 a50:=Tryz.isAgg220,
 z50:=Tryz.sizeOf220,
 v50:=Tryz.zeroValue220,
 i50:=by kernel_rfl,
 t52:=Tryz.underlying186,
 a52:=Tryz.isAgg186,
 z52:=Tryz.sizeOf186,
 v52:=Tryz.zeroValue186,
 i52:=by kernel_rfl,
 t55:=Tryz.underlying188,
 a55:=Tryz.isAgg188,
 z55:=Tryz.sizeOf188,
 v55:=Tryz.zeroValue188,
 i55:=by kernel_rfl,
 t59:=Tryz.underlying197,
 a59:=Tryz.isAgg197,
 z59:=Tryz.sizeOf197,
 v59:=Tryz.zeroValue197,
 i59:=by kernel_rfl,
 t60:=Tryz.underlying164,
 a60:=Tryz.isAgg164,
 z60:=Tryz.sizeOf164,
 v60:=Tryz.zeroValue164,
 i60:=by kernel_rfl,
 t61:=Tryz.underlying198,
 a61:=Tryz.isAgg198,
 z61:=Tryz.sizeOf198,
 t65:=Tryz.underlying210,
 a65:=Tryz.isAgg210,
 z65:=Tryz.sizeOf210,
 v65:=Tryz.zeroValue210,
 i65:=by kernel_rfl,
 t66:=Tryz.underlying211,
 a66:=Tryz.isAgg211,
 z66:=Tryz.sizeOf211,
 v66:=Tryz.zeroValue211,
 i66:=by kernel_rfl,
 t67:=Tryz.underlying136,
 a67:=Tryz.isAgg136,
 z67:=Tryz.sizeOf136,
 v67:=Tryz.zeroValue136,
 i67:=by kernel_rfl,
 g0:=by kernel_rfl,
 m0:=by kernel_rfl,
 g1:=by kernel_rfl,
 m1:=by kernel_rfl,
 g2:=by kernel_rfl,
 m2:=by kernel_rfl,
 g3:=by kernel_rfl,
 m3:=by kernel_rfl,
 g4:=by kernel_rfl,
 m4:=by kernel_rfl}
def Tryz.zP:Go.Shelf.Ren:=⟨fun | 260=>152 | n=>n,fun | 9=>9 | 21=>21 | 3=>3 | 4=>4 | 5=>5 | 119=>199 | 0=>0 | 46=>141 | 139=>202 | 138=>201 | n=>n,fun | 3=>2 | 4=>3 | n=>n⟩
theorem Tryz.agy:Go.Proofs.Lays.n260 Tryz.prog Tryz.zP:={
 mixed:=by kernel_rfl,
 f260:=Tryz.func152.trans (congrArg some (by kernel_rfl)),
 t0:=Tryz.underlying0,
 a0:=Tryz.isAgg0,
 z0:=Tryz.sizeOf0,
 v0:=Tryz.zeroValue0,
 t3:=Tryz.underlying3,
 a3:=Tryz.isAgg3,
 z3:=Tryz.sizeOf3,
 v3:=Tryz.zeroValue3,
 t4:=Tryz.underlying4,
 a4:=Tryz.isAgg4,
 z4:=Tryz.sizeOf4,
 v4:=Tryz.zeroValue4,
 t5:=Tryz.underlying5,
 a5:=Tryz.isAgg5,
 z5:=Tryz.sizeOf5,
 v5:=Tryz.zeroValue5,
 t9:=Tryz.underlying9,
 a9:=Tryz.isAgg9,
 z9:=Tryz.sizeOf9,
 v9:=Tryz.zeroValue9,
 t21:=Tryz.underlying21,
 a21:=Tryz.isAgg21,
 z21:=Tryz.sizeOf21,
 v21:=Tryz.zeroValue21,
 t46:=Tryz.underlying141,
 a46:=Tryz.isAgg141,
 z46:=Tryz.sizeOf141,
 v46:=Tryz.zeroValue141,
 t119:=Tryz.underlying199,
 a119:=Tryz.isAgg199,
 z119:=Tryz.sizeOf199,
 t138:=Tryz.underlying201,
 a138:=Tryz.isAgg201,
 z138:=Tryz.sizeOf201,
 v138:=Tryz.zeroValue201,
 t139:=Tryz.underlying202,
 a139:=Tryz.isAgg202,
 z139:=Tryz.sizeOf202,
 v139:=Tryz.zeroValue202,
 g3:=by kernel_rfl,
 g4:=by kernel_rfl}
def Tryz.agt:Go.Shelf.Ren:=⟨fun | 171=>94 | 243=>109 | 246=>128 | 283=>147 | 284=>148 | 285=>149 | 286=>150 | 129=>122 | 317=>160 | 318=>161 | 319=>162 | 320=>163 | 337=>168 | 338=>169 | n=>n,fun | 3=>3 | 9=>9 | 2=>2 | 4=>4 | 171=>186 | 0=>0 | 53=>166 | 37=>128 | 5=>5 | 173=>188 | 212=>197 | 51=>164 | 20=>20 | 213=>198 | 46=>141 | 232=>210 | 233=>211 | n=>n,fun | 17=>1 | 18=>4 | 19=>5 | n=>n⟩
theorem Tryz.ags:Go.Proofs.LaysM.n171 Tryz.prog Tryz.agt:={
 mixed:=by kernel_rfl,
 f129:=Tryz.func122.trans (congrArg some (by kernel_rfl)),
 f171:=Tryz.func94.trans (congrArg some (by kernel_rfl)),
 f243:=Tryz.func109.trans (congrArg some (by kernel_rfl)),
 f246:=Tryz.func128.trans (congrArg some (by kernel_rfl)),
 f283:=Tryz.func147.trans (congrArg some (by kernel_rfl)),
 f284:=Tryz.func148.trans (congrArg some (by kernel_rfl)),
 f285:=Tryz.func149.trans (congrArg some (by kernel_rfl)),
 f286:=Tryz.func150.trans (congrArg some (by kernel_rfl)),
 f317:=Tryz.func160.trans (congrArg some (by kernel_rfl)),
 f318:=Tryz.func161.trans (congrArg some (by kernel_rfl)),
 f319:=Tryz.func162.trans (congrArg some (by kernel_rfl)),
 f320:=Tryz.func163.trans (congrArg some (by kernel_rfl)),
 f337:=Tryz.func168.trans (congrArg some (by kernel_rfl)),
 f338:=Tryz.func169.trans (congrArg some (by kernel_rfl)),
 t0:=Tryz.underlying0,
 a0:=Tryz.isAgg0,
 z0:=Tryz.sizeOf0,
 v0:=Tryz.zeroValue0,
 t2:=Tryz.underlying2,
 a2:=Tryz.isAgg2,
 z2:=Tryz.sizeOf2,
 v2:=Tryz.zeroValue2,
 t3:=Tryz.underlying3,
 a3:=Tryz.isAgg3,
 z3:=Tryz.sizeOf3,
 v3:=Tryz.zeroValue3,
 t4:=Tryz.underlying4,
 a4:=Tryz.isAgg4,
 z4:=Tryz.sizeOf4,
 v4:=Tryz.zeroValue4,
 t5:=Tryz.underlying5,
 a5:=Tryz.isAgg5,
 z5:=Tryz.sizeOf5,
 v5:=Tryz.zeroValue5,
 t9:=Tryz.underlying9,
 a9:=Tryz.isAgg9,
 z9:=Tryz.sizeOf9,
 v9:=Tryz.zeroValue9,
 t20:=Tryz.underlying20,
 a20:=Tryz.isAgg20,
 z20:=Tryz.sizeOf20,
 v20:=Tryz.zeroValue20,
 t37:=Tryz.underlying128,
 a37:=Tryz.isAgg128,
 z37:=Tryz.sizeOf128,
 v37:=Tryz.zeroValue128,
 t46:=Tryz.underlying141,
 a46:=Tryz.isAgg141,
 z46:=Tryz.sizeOf141,
 v46:=Tryz.zeroValue141,
 t51:=Tryz.underlying164,
 a51:=Tryz.isAgg164,
 z51:=Tryz.sizeOf164,
 v51:=Tryz.zeroValue164,
 t53:=Tryz.underlying166,
 a53:=Tryz.isAgg166,
 z53:=Tryz.sizeOf166,
 v53:=Tryz.zeroValue166,
 t171:=Tryz.underlying186,
 a171:=Tryz.isAgg186,
 z171:=Tryz.sizeOf186,
 v171:=Tryz.zeroValue186,
 t173:=Tryz.underlying188,
 a173:=Tryz.isAgg188,
 z173:=Tryz.sizeOf188,
 v173:=Tryz.zeroValue188,
 t212:=Tryz.underlying197,
 a212:=Tryz.isAgg197,
 z212:=Tryz.sizeOf197,
 v212:=Tryz.zeroValue197,
 t213:=Tryz.underlying198,
 a213:=Tryz.isAgg198,
 z213:=Tryz.sizeOf198,
 t232:=Tryz.underlying210,
 a232:=Tryz.isAgg210,
 z232:=Tryz.sizeOf210,
 v232:=Tryz.zeroValue210,
 t233:=Tryz.underlying211,
 a233:=Tryz.isAgg211,
 z233:=Tryz.sizeOf211,
 v233:=Tryz.zeroValue211,
 g17:=by kernel_rfl,
 g18:=by kernel_rfl,
 g19:=by kernel_rfl,
 i0:=by kernel_rfl,
 i2:=by kernel_rfl,
 i3:=by kernel_rfl,
 i4:=by kernel_rfl,
 i5:=by kernel_rfl,
 i9:=by kernel_rfl,
 i20:=by kernel_rfl,
 i37:=by kernel_rfl,
 i46:=by kernel_rfl,
 i51:=by kernel_rfl,
 i53:=by kernel_rfl,
 i171:=by kernel_rfl,
 i173:=by kernel_rfl,
 i212:=by kernel_rfl,
 i232:=by kernel_rfl,
 i233:=by kernel_rfl,
 m17:=by kernel_rfl,
 m18:=by kernel_rfl,
 m19:=by kernel_rfl}
end Go.Proofs.YthemdhlheglhoaaGreatDoor
namespace Go.Proofs.YthemdhlheglhoaaGreatDoor
open Go aX Go.RowKit
section
open Go.Shelf
theorem aag (s:ByteArray) (w:World) (dP:Lib.Utf8Tabs 2 3 w):
 Calls Tryz.prog 137 #[.string s] w fun e ao=>e=.returned (.tuple #[.int .i32 (Lib.decodeGo s).1,.int .i64 (Lib.decodeGo s).2])∧Below w.heap.size w ao:=Any.utf8_DecodeRuneInString Tryz.agw s w dP
theorem VG (s:ByteArray) (n:Int) (ai:s.size≤18) (h:Lib.atoi s.data.toList=some n) (w:World):
 Calls Tryz.prog 166 #[.string s] w fun e ao=>e=.returned (.tuple #[.int .i64 n,.nilIface])∧Below w.heap.size w ao:=(Any.strconv_Atoi Tryz.agu s n ai h w).mono fun e ao q=>⟨q.1,by obtain ⟨t,rfl⟩:=q.2;exact Lib.bytesWorld_below _ _ _⟩
theorem aer (n:Int) (bb:-9223372036854775808≤n) (ab:n≤9223372036854775807) (w:World)
 (adF:Lib.TabIs Tryz.prog w "internal/strconv.uint64pow10" .u64 Lib.pow10Tab):
 Calls Tryz.prog 94 #[.int .i64 n] w fun e ao=>e=.returned (.string ⟨(Lib.itoa n).toArray⟩)∧Below w.heap.size w ao:=(Any.strconv_Itoa Tryz.ags n bb ab w adF).mono fun e ao q=>⟨q.1,by obtain ⟨k,os,rfl⟩:=q.2;exact ⟨rfl,rfl,rfl,by show w.heap.size≤(w.heap++os).size;rw [Array.size_append];omega,fun j bK=>Array.getElem?_append_left bK⟩⟩
theorem aij (s:ByteArray) (wI:s.size≤9223372036854775806) (u:Nat) (h:Lib.parseUintB 64 s.data.toList=.ok u) (w:World):
 Calls Tryz.prog 155 #[.string s,.int .i64 10,.int .i64 64] w fun e ao=>e=.returned (.tuple #[.int .u64 u,.nilIface])∧Below w.heap.size w ao:=(Any.strconv_ParseUint_10_at64_ok Tryz.PZ s wI u h w).mono fun e ao q=>⟨q.1,by
  rcases q.2 with rfl | rfl
  · exact Below.refl _ _
  · exact Lib.bytesWorld_below _ _ _⟩
theorem ail (s:ByteArray) (uf:s.size≤281474976710656) (h:Lib.parseUintB 64 s.data.toList=.range) (w:World) (he:vk w 7):
 Calls Tryz.prog 155 #[.string s,.int .i64 10,.int .i64 64] w fun e ao=>(∃p,e=.returned (.tuple #[.int .u64 18446744073709551615,.iface (Tryz.IK.t 39) p]))∧Below w.heap.size w ao:=by
 obtain ⟨a6,ab,ae⟩:=he
 refine (Any.strconv_ParseUint_10_at64_range Tryz.PZ s uf h a6 w ab ae).mono fun e ao q=>?_
 obtain ⟨N,aG,_,_,cf⟩:=q
 exact ⟨⟨_,aG⟩,cf⟩
end
theorem w' {f:FuncId} (a_:Nat.beq f dk=false) {args:List V} {v:V} {h:af} (jj:∃fn,Tryz.prog.funcs[f]? =some fn∧fn.body.isSome=true) (H:∀E xs w,Ev w→bc E args xs→Calls Tryz.prog f xs.toArray w fun e ao=>∃x,e=.returned x∧Rel E v x∧Below w.heap.size w ao):fh Tryz.prog f args h v h:=by
 refine ⟨fun e=>by subst e;simp at a_,.inl ⟨jj,fun aw E w xs aq s=>?_⟩⟩
 refine (H E xs w (Lay.fz s.laid s.frame) aq).mono fun e ao q=>?_
 obtain ⟨x,rfl,bs,ag⟩:=q
 exact ⟨E,x,rfl,fun _ _ q=>q,bs,s.below ag⟩
theorem aae (s:List UInt8) (h:af):fh Tryz.prog 137 [.str s] h (.tuple [.int .i32 (Lib.decodeGo ⟨⟨s⟩⟩).1,.int .i64 (Lib.decodeGo ⟨⟨s⟩⟩).2]) h:=by
 refine w' (by decide) ⟨_,Tryz.func137,by kernel_rfl⟩ fun E xs w ai aq=>?_
 obtain ⟨y,cJ,rfl,an,rfl⟩:=aq
 simp only [Rel] at an
 subst an
 refine (aag ⟨⟨s⟩⟩ w ai.S9).mono fun e ao q=>?_
 obtain ⟨rfl,ag⟩:=q
 refine ⟨_,rfl,?_,ag⟩
 simp only [Rel]
 exact ⟨_,rfl,_,_,rfl,rfl,_,_,rfl,rfl,rfl⟩
theorem ZW (s sub:List UInt8) (aQ:s.length≤100000) (h:af):fh Tryz.prog 159 [.str s,.str sub] h (.bool (Lib.contains s sub)) h:=by
 refine w' (by decide) ⟨_,Tryz.func159,by kernel_rfl⟩ fun E xs w ai aq=>?_
 obtain ⟨y,cJ,rfl,an,z,iH,rfl,az,rfl⟩:=aq
 simp only [Rel] at an az
 subst an az
 obtain ⟨m,hm⟩:=ai.maxLen
 refine (MR ⟨⟨s⟩⟩ ⟨⟨sub⟩⟩ m w (by show s.length<4294967281;omega) hm).mono fun e ao q=>?_
 obtain ⟨rfl,rfl⟩:=q
 refine ⟨_,rfl,?_,Below.refl _ _⟩
 simp only [Rel]
theorem VF (s:List UInt8) (n:Int) (ai:s.length≤18) (h:Lib.atoi s=some n) (ah:af):fh Tryz.prog 166 [.str s] ah (.tuple [.int .i64 n,.nilIface]) ah:=by
 refine w' (by decide) ⟨_,Tryz.func166,by kernel_rfl⟩ fun E xs w qQ aq=>?_
 obtain ⟨y,cJ,rfl,an,rfl⟩:=aq
 simp only [Rel] at an
 subst an
 refine (VG ⟨⟨s⟩⟩ n ai h w).mono fun e ao q=>?_
 obtain ⟨rfl,ag⟩:=q
 refine ⟨_,rfl,?_,ag⟩
 simp only [Rel]
 exact ⟨_,rfl,_,_,rfl,rfl,_,_,rfl,rfl,rfl⟩
theorem aeq (n:Int) (bb:-9223372036854775808≤n) (ab:n≤9223372036854775807) (ah:af):fh Tryz.prog 94 [.int .i64 n] ah (.str (Lib.itoa n)) ah:=by
 refine w' (by decide) ⟨_,Tryz.func94,by kernel_rfl⟩ fun E xs w qQ aq=>?_
 obtain ⟨y,cJ,rfl,an,rfl⟩:=aq
 simp only [Rel] at an
 subst an
 refine (aer n bb ab w qQ.Jv).mono fun e ao q=>?_
 obtain ⟨rfl,ag⟩:=q
 refine ⟨_,rfl,?_,ag⟩
 simp only [Rel]
theorem aii (s:List UInt8) (u:Nat) (ai:s.length≤100000) (h:Lib.parseUintB 64 s=.ok u) (ah:af):fh Tryz.prog 155 [.str s,.int .i64 10,.int .i64 64] ah (.tuple [.int .u64 u,.nilIface]) ah:=by
 refine w' (by decide) ⟨_,Tryz.func155,by kernel_rfl⟩ fun E xs w qQ aq=>?_
 obtain ⟨y,cJ,rfl,an,z,iH,rfl,az,t,bO,rfl,aN,rfl⟩:=aq
 simp only [Rel] at an az aN
 subst an az aN
 refine (aij ⟨⟨s⟩⟩ (by show s.length≤9223372036854775806;omega) u h w).mono fun e ao q=>?_
 obtain ⟨rfl,ag⟩:=q
 refine ⟨_,rfl,?_,ag⟩
 simp only [Rel]
 exact ⟨_,rfl,_,_,rfl,rfl,_,_,rfl,rfl,rfl⟩
def aaG:TypeId:=Tryz.IK.t 39
theorem aik (s:List UInt8) (ai:s.length≤100000) (h:Lib.parseUintB 64 s=.range) (ah:af):fh Tryz.prog 155 [.str s,.int .i64 10,.int .i64 64] ah (.tuple [.int .u64 18446744073709551615,.iface aaG .bad]) ah:=by
 refine w' (by decide) ⟨_,Tryz.func155,by kernel_rfl⟩ fun E xs w qQ aq=>?_
 obtain ⟨y,cJ,rfl,an,z,iH,rfl,az,t,bO,rfl,aN,rfl⟩:=aq
 simp only [Rel] at an az aN
 subst an az aN
 refine (ail ⟨⟨s⟩⟩ (by show s.length≤281474976710656;omega) h w qQ.Nx).mono fun e ao q=>?_
 obtain ⟨⟨p,rfl⟩,ag⟩:=q
 refine ⟨_,rfl,?_,ag⟩
 simp only [Rel]
 exact ⟨_,rfl,_,_,rfl,rfl,_,_,rfl,⟨p,rfl,trivial⟩,rfl⟩
end Go.Proofs.YthemdhlheglhoaaGreatDoor
namespace Go.Proofs.YthemdhlheglhoaaGreatDoor
open Go aX
def lM (s:List UInt8) (i:Nat):Nat:=if decodeL s i=(65533,1) then 0 else (decodeL s i).2
def re:Nat→List UInt8→Nat→Nat
 | 0,s,_=>s.length
 | f+1,s,a=>if a<s.length then (if lM s a=0 then a else re f s (a+lM s a)) else s.length
def p3 (s:List UInt8) (a:Nat):Nat:=re (s.length-a) s a
def sM (s:List UInt8):Nat:=p3 s 0
theorem R0 (s:List UInt8):∀(f g a:Nat),s.length-a≤f→s.length-a≤g→re f s a=re g s a
 | 0,g,a,ab,ae=>by
   cases g with
   | zero=>rfl
   | succ g=>simp only [re];rw [if_neg (by omega)]
 | f+1,0,a,ab,ae=>by simp only [re];rw [if_neg (by omega)]
 | f+1,g+1,a,ab,ae=>by
   simp only [re]
   by_cases bq:a<s.length
   · rw [if_pos bq,if_pos bq]
     by_cases aI:lM s a=0
     · rw [if_pos aI,if_pos aI]
     · rw [if_neg aI,if_neg aI]
       exact R0 s f g _ (by omega) (by omega)
   · rw [if_neg bq,if_neg bq]
theorem RZ {s:List UInt8} {a:Nat} (h:s.length≤a):p3 s a=s.length:=by
 unfold p3
 rw [show s.length-a=0 from by omega]
 rfl
theorem ai' {s:List UInt8} {a:Nat} (h:a<s.length) (aI:lM s a=0):p3 s a=a:=by
 unfold p3
 rw [show s.length-a=s.length-a-1+1 from by omega,re,if_pos h,if_pos aI]
theorem J1 {s:List UInt8} {a:Nat} (h:a<s.length) (aI:lM s a≠0):p3 s a=p3 s (a+lM s a):=by
 unfold p3
 rw [show s.length-a=s.length-a-1+1 from by omega,re,if_pos h,if_neg aI]
 exact R0 s _ _ _ (by omega) (by omega)
def e2 (c:UInt8):Bool:=lN c.toNat
def e4 (c:UInt8):Bool:=sr c.toNat
def ie (l:List UInt8):Nat:=l.foldl (fun n c=>10 * n + (c.toNat-48)) 0
abbrev rQ:=Except Int (Int × Int × List UInt8 × Nat)
def xl (r:List UInt8):rQ:=
 let t:=r.takeWhile e2
 if 2147483647<ie t then .error 254 else .ok (1,(if 1073741823 < (ie t:Int) then (ie t:Int)-2147483648 else ie t),[],t.length)
def od:List UInt8→Option (UInt8 × Nat)
 | []=>none
 | c::r=>if c=110 then some (10,1) else if c=116 then some (9,1) else if c=34 then some (34,1) else if c=92 then some (92,1) else
   if 2≤r.length∧e2 c∧e2 (r[0]?.getD 0)∧e2 (r[1]?.getD 0)∧ie (c::r.take 2)<256 then some ((ie (c::r.take 2)).toUInt8,3) else none
def u7:Nat→List UInt8→Option (List UInt8 × Nat)
 | 0,_=>none
 | _+1,[]=>none
 | f+1,c::r=>if c=34 then some ([],1) else if c=92 then (match od r with
    | none=>none
    | some (b,n)=>(u7 f (r.drop n)).map fun q=>(b::q.1,q.2+n+1))
   else if c<32∨c=127 then none else (u7 f r).map fun q=>(c::q.1,q.2+1)
def oS (r:List UInt8):Option (List UInt8 × Nat):=u7 r.length r
def rk (r:List UInt8):rQ:=
 match oS r with
 | none=>.error 252
 | some (b,n)=>if 4096<b.length then .error 255 else .ok (2,0,b,n+1)
def sq:List (List UInt8):=[[97,110,100],[98,101,103,105,110],[101,108,115,101],[101,110,100],[101,120,99,101,112,116,105,111,110],[102,97,108,115,101],[102,117,110],[105,102],[105,110],[108,101,116],[109,97,116,99,104],[109,111,100],[111,102],[114,97,105,115,101],[114,101,99],[116,104,101,110],[116,114,117,101],[116,114,121],[116,121,112,101],[119,105,116,104]]
def iF:List (List UInt8):=[[59,59],[58,61],[45,62],[60,61],[59],[40],[41],[44],[61],[60],[43],[45],[42],[47],[124],[33],[95]]
def ny (t:List UInt8):Bool:=sq.contains t
def jo (kind:Int) (r:List UInt8):rQ:=
 let t:=r.takeWhile e4
 if kind=3∧t=[95] then .ok (7,0,t,t.length) else if kind=3∧ny t then .ok (6,0,t,t.length) else if 64<t.length then .error 255 else .ok (kind,0,t,t.length)
def xD (r:List UInt8):rQ:=
 match iF.find? (·.isPrefixOf r) with
 | some t=>.ok (7,0,t,t.length)
 | none=>.error 251
def k5:List UInt8→Bool
 | d::_=>gC d.toNat
 | []=>false
def gA:List UInt8→rQ
 | []=>.error 0
 | c::r=>if e2 c then xl (c::r) else if c=34 then rk r else if gC c.toNat||c=95 then jo 3 (c::r) else if lQ c.toNat then jo 4 (c::r) else
   if c=39∧k5 r then (jo 5 r).map fun q=>(q.1,q.2.1,q.2.2.1,q.2.2.2+1) else xD (c::r)
structure ch where
 kind:Int
 num:Int
 pos:Nat
 text:List UInt8
deriving DecidableEq
def blank (c:UInt8):Bool:=c=9||c=10||c=13||c=32
def yM (w:ch):Except (Int × Nat) (List ch)→Except (Int × Nat) (List ch)
 | .ok ws=>.ok (w::ws)
 | .error e=>.error e
def mB:Nat→List UInt8→Nat→Except (Int × Nat) (List ch)
 | 0,_,_=>.ok []
 | _+1,[],_=>.ok []
 | f+1,c::r,p=>if blank c then mB f r (p+1) else if ([40,42]:List UInt8).isPrefixOf (c::r) then (match hO (c::r) 0 with
    | none=>.error (253,p)
    | some n=>mB f ((c::r).drop n) (p+n))
   else match gA (c::r) with
    | .error e=>.error (e,p)
    | .ok q=>yM ⟨q.1,q.2.1,p,q.2.2.1⟩ (mB f ((c::r).drop q.2.2.2) (p+q.2.2.2))
def pX (r:List UInt8) (p:Nat):Except (Int × Nat) (List ch):=mB r.length r p
def mC (s:List UInt8):Except (Int × Nat) (List ch):=
 if 65536<s.length then .error (3,0) else if sM s<s.length then .error (250,sM s) else pX s 0
theorem Ko {p:UInt8→Bool} {c:UInt8} {r:List UInt8} (h:p c=true):1≤((c::r).takeWhile p).length:=by
 simp only [List.takeWhile_cons,h,if_true,List.length_cons]
 omega
theorem ajF {t:List UInt8} (h:t ∈ iF):1≤t.length:=by
 revert t
 decide
theorem Kd {c:UInt8} (h:gC c.toNat=true):e4 c=true:=by unfold e4 sr;rw [h];simp
theorem N5 {c:UInt8} (h:lQ c.toNat=true):e4 c=true:=by unfold e4 sr;rw [h];simp
theorem S4 {c:UInt8} (h:c=95):e4 c=true:=by subst h;decide
theorem QC {k:Int} {r:List UInt8} {q:Int × Int × List UInt8 × Nat} (h:jo k r=.ok q):q.2.2.2=(r.takeWhile e4).length:=by
 unfold jo at h
 simp only at h
 split at h
 · cases h;rfl
 · split at h
   · cases h;rfl
   · split at h
     · cases h
     · cases h;rfl
theorem I8 {r:List UInt8} {q:Int × Int × List UInt8 × Nat} (h:gA r=.ok q):1≤q.2.2.2:=by
 match r,h with
 | c::r,h=>
   simp only [gA] at h
   split at h
   · rename_i aZ
     unfold xl at h
     simp only at h
     split at h
     · cases h
     · cases h
       exact Ko aZ
   · split at h
     · unfold rk at h
       split at h
       · cases h
       · split at h
         · cases h
         · cases h;simp only;omega
     · split at h
       · rename_i aQ
         rw [QC h]
         simp only [Bool.or_eq_true,decide_eq_true_eq] at aQ
         exact Ko (aQ.elim Kd S4)
       · split at h
         · rename_i aQ
           rw [QC h]
           exact Ko (N5 aQ)
         · split at h
           · cases aU:jo 5 r with
             | error e=>rw [aU] at h;cases h
             | ok ej=>rw [aU] at h;cases h;simp only;omega
           · unfold xD at h
             split at h
             · rename_i t aF
               cases h
               exact ajF (List.mem_of_find?_eq_some aF)
             · cases h
theorem C_:∀{r:List UInt8} {d:Int} {n:Nat},hO r d=some n→2≤n
 | [],d,n,h=>by simp [hO] at h
 | [_],d,n,h=>by simp [hO] at h
 | x::y::r,d,n,h=>by
   rw [hO] at h
   split at h
   · cases aA:hO r (d+1) with
     | none=>rw [aA] at h;cases h
     | some m=>rw [aA] at h;cases h;simp only;omega
   · split at h
     · split at h
       · cases h;omega
       · cases aA:hO r (d-1) with
         | none=>rw [aA] at h;cases h
         | some m=>rw [aA] at h;cases h;simp only;omega
     · cases aA:hO (y::r) d with
       | none=>rw [aA] at h;cases h
       | some m=>rw [aA] at h;cases h;have:=C_ aA;simp only;omega
theorem zT:∀(f g:Nat) (r:List UInt8) (p:Nat),r.length≤f→r.length≤g→mB f r p=mB g r p
 | 0,g,r,p,ab,ae=>by
   have:r=[]:=List.length_eq_zero_iff.1 (by omega)
   subst this
   cases g<;>rfl
 | f+1,0,r,p,ab,ae=>by
   have:r=[]:=List.length_eq_zero_iff.1 (by omega)
   subst this
   rfl
 | f+1,g+1,[],p,ab,ae=>rfl
 | f+1,g+1,c::r,p,ab,ae=>by
   simp only [List.length_cons] at ab ae
   simp only [mB]
   split
   · exact zT f g _ _ (by omega) (by omega)
   · split
     · split
       · rfl
       · rename_i n aU
         have:=C_ aU
         exact zT f g _ _ (by rw [List.length_drop,List.length_cons];omega) (by rw [List.length_drop,List.length_cons];omega)
     · split
       · rfl
       · rename_i q aA
         have:=I8 aA
         rw [zT f g _ _ (by rw [List.length_drop,List.length_cons];omega) (by rw [List.length_drop,List.length_cons];omega)]
theorem Qd (c:UInt8) (r:List UInt8) (p:Nat):pX (c::r) p=if blank c then pX r (p+1) else if ([40,42]:List UInt8).isPrefixOf (c::r) then (match hO (c::r) 0 with
 | none=>.error (253,p)
 | some n=>pX ((c::r).drop n) (p+n))
 else match gA (c::r) with
  | .error e=>.error (e,p)
  | .ok q=>yM ⟨q.1,q.2.1,p,q.2.2.1⟩ (pX ((c::r).drop q.2.2.2) (p+q.2.2.2)):=by
 unfold pX
 simp only [List.length_cons,mB]
 split
 · rfl
 · split
   · split
     · rfl
     · rename_i n aU
       have:=C_ aU
       exact zT _ _ _ _ (by rw [List.length_drop,List.length_cons];omega) (Nat.le_refl _)
   · split
     · rfl
     · rename_i q aA
       have:=I8 aA
       rw [zT _ _ _ _ (by rw [List.length_drop,List.length_cons];omega) (Nat.le_refl _)]
theorem Kq:∀(f g:Nat) (r:List UInt8),r.length≤f→r.length≤g→u7 f r=u7 g r
 | 0,g,r,ab,ae=>by
   have:r=[]:=List.length_eq_zero_iff.1 (by omega)
   subst this
   cases g<;>rfl
 | f+1,0,r,ab,ae=>by
   have:r=[]:=List.length_eq_zero_iff.1 (by omega)
   subst this
   rfl
 | f+1,g+1,[],ab,ae=>rfl
 | f+1,g+1,c::r,ab,ae=>by
   simp only [List.length_cons] at ab ae
   simp only [u7]
   split
   · rfl
   · split
     · split
       · rfl
       · rw [Kq f g _ (by rw [List.length_drop];omega) (by rw [List.length_drop];omega)]
     · split
       · rfl
       · rw [Kq f g _ (by omega) (by omega)]
theorem aki:oS []=none:=rfl
theorem akh (c:UInt8) (r:List UInt8):oS (c::r)=if c=34 then some ([],1) else if c=92 then (match od r with
 | none=>none
 | some (b,n)=>(oS (r.drop n)).map fun q=>(b::q.1,q.2+n+1))
 else if c<32∨c=127 then none else (oS r).map fun q=>(c::q.1,q.2+1):=by
 unfold oS
 simp only [List.length_cons,u7]
 split
 · rfl
 · split
   · split
     · rfl
     · rw [Kq _ _ _ (by rw [List.length_drop];omega) (Nat.le_refl _)]
   · rfl
theorem NU:∀(l:List UInt8) (a:Nat),a≤l.foldl (fun n c=>10 * n + (c.toNat-48)) a
 | [],a=>Nat.le_refl _
 | c::l,a=>by
   simp only [List.foldl_cons]
   exact Nat.le_trans (by omega) (NU l _)
def r3 (a:Nat) (l:List UInt8):Nat:=l.foldl (fun n c=>10 * n + (c.toNat-48)) a
theorem aa_ (a:Nat) (c:UInt8) (l:List UInt8):r3 a (c::l)=r3 (10 * a + (c.toNat-48)) l:=by unfold r3;rw [List.foldl_cons]
theorem aih (M:Nat) (cY:M<18446744073709551620) (l:List UInt8):∀(a:Nat),(∀c ∈ l,e2 c=true)→(r3 a l≤M→Lib.parseUintM M a l=.ok (r3 a l))∧(a≤M→¬r3 a l≤M→Lib.parseUintM M a l=.range):=by
 induction l with
 | nil=>
   intro a _
   refine ⟨fun _=>?_,fun ab ae=>absurd ab ae⟩
   simp only [Lib.parseUintM,r3,List.foldl_nil]
 | cons c l ad6=>
   intro a h
   have aI:=h c (List.mem_cons_self ..)
   simp only [e2,lN,Bool.and_eq_true,decide_eq_true_eq] at aI
   have ace:48≤c.toNat∧c.toNat≤57:=by omega
   have bk:=ad6 (10 * a + (c.toNat-48)) (fun x aq=>h x (List.mem_cons_of_mem _ aq))
   have hm:10 * a + (c.toNat-48)≤r3 (10 * a + (c.toNat-48)) l:=NU l (10 * a + (c.toNat-48))
   simp only [Lib.parseUintM,ace,and_self,if_true]
   rw [Nat.mul_comm a 10,aa_]
   have lR:10 * a≤10 * a + (c.toNat-48):=Nat.le_add_right _ _
   generalize 10 * a + (c.toNat-48)=A at bk hm lR ⊢
   refine ⟨fun aL=>?_,fun bq iO=>?_⟩
   · rw [if_neg (by omega),if_neg (by omega)]
     exact bk.1 aL
   · by_cases ab:1844674407370955162≤a
     · rw [if_pos ab]
     · rw [if_neg ab]
       by_cases ae:M<A
       · rw [if_pos ae]
       · rw [if_neg ae]
         exact bk.2 (by omega) iO
theorem aif (l:List UInt8) (h:∀c ∈ l,e2 c=true) (ai:l≠[]):(ie l≤18446744073709551615→Lib.parseUintB 64 l=.ok (ie l))∧(¬ie l≤18446744073709551615→Lib.parseUintB 64 l=.range):=by
 unfold Lib.parseUintB
 rw [if_neg ai,show (2 ^ 64-1:Nat)=18446744073709551615 from by decide]
 have:=aih 18446744073709551615 (by omega) l 0 h
 exact ⟨this.1,this.2 (Nat.zero_le _)⟩
structure m' (s:List UInt8) (p:Nat) (b:aP) (h:af) (res:rQ) (x:V) (aa:af):Prop where
 mod:Mod (fun q=>q=b) h aa
 res:∃k n t,x=.agg [.int .i64 k,.int .i64 n,.int .i64 0,.str t]∧match res with
  | .ok q=>k=q.1∧n=q.2.1∧t=q.2.2.1∧aa.get b=eY s ((p+q.2.2.2:Nat):Int) 0∧p+q.2.2.2≤s.length
  | .error e=>e≠0∧∃bm:Int,aa.get b=eY s bm e
theorem I5 {P:Program}:(dV.j6 true 5).run P .nilIface .nilIface=some (.bool false):=rfl
theorem ahh {P:Program} (T:TypeId) (x:V):(dV.j6 true 5).run P (.iface T x) .nilIface=some (.bool true):=rfl
theorem SP {p:UInt8→Bool} {l:List UInt8}:∀c ∈ l.takeWhile p,p c=true:=fun c aI=>by
 induction l with
 | nil=>simp at aI
 | cons x l bk=>
   simp only [List.takeWhile_cons] at aI
   split at aI
   · rename_i aq
     rcases List.mem_cons.1 aI with rfl | aI
     · exact aq
     · exact bk aI
   · simp at aI
theorem SQ (p:UInt8→Bool) (s:List UInt8) (a:Nat):((s.drop a).takeWhile p).length≤s.length-a:=by
 have:=SR p (s.drop a)
 rwa [List.length_drop] at this
theorem ahz (s:List UInt8) (a0:Nat) (b:aP) (h:af) (ag:h.get b=eY s a0 0) (bb:a0<s.length) (aQ:s.length≤100000) (gn:Old h b) (aZ:e2 s[a0]=true):
 bB Tryz.prog 141 [.ptr b 0] h (m' s a0 b h (xl (s.drop a0))):=by
 refine WK rfl (cL ?_)
 unfold Fu
 have bX:(b=al h.next)=False:=z6 gn (Nat.le_refl _)
 have cX:(al h.next=b)=False:=by rw [←bX];exact propext eq_comm
 simp +contextual only [ag,bX,cX,↓ak,ax,simprocAttr]
 have aq:Ext h (h.new (.a1 [.int .i64 0,.int .i64 0,.int .i64 0,.str []] 0 false)):=(Ext.refl h).new _
 refine bY (R7 s a0 0 b 140 lN _ (by rw [aq.get _ gn,ag]) (by omega) aQ (by decide) (fun c h=>vS c h)) ?_
 rintro x ab ⟨rfl,hm,aH⟩
 have jC:(fun c:UInt8=>lN (c.toNat:Int))=e2:=rfl
 rw [jC] at aH ⊢
 have uh:Mod (fun q=>q=b) h ab:=(aq.mod _).trans hm
 have g1:ab.get (al h.next)=.a1 [.int .i64 0,.int .i64 0,.int .i64 0,.str []] 0 false:=by
  rw [hm.get _ (eI (by rw [eU];omega)) (by rw [cX];exact id)]
  simp only [↓ak,ax,simprocAttr]
 have dI:(s.drop a0).takeWhile e2≠[]:=by
  rw [drop_cons bb,List.takeWhile_cons,aZ]
  simp
 have hlen:=SQ e2 s a0
 have ah:=aif ((s.drop a0).takeWhile e2) SP dI
 unfold eY at aH
 have ou:xl (s.drop a0)=if 2147483647<ie ((s.drop a0).takeWhile e2) then .error 254 else .ok (1,(if 1073741823 < (ie ((s.drop a0).takeWhile e2):Int) then (ie ((s.drop a0).takeWhile e2):Int)-2147483648 else ie ((s.drop a0).takeWhile e2)),[],((s.drop a0).takeWhile e2).length):=rfl
 rw [ou]
 generalize (s.drop a0).takeWhile e2=t at *
 simp +contextual only [↓ak,ax,simprocAttr]
 by_cases yY:ie t≤18446744073709551615
 · refine fq (aii t (ie t) (by omega) (ah.1 yY) ab) ?_
   generalize ie t=u at *
   by_cases G9:(2147483647:Int) < (u:Int)
   · have wi:2147483647<u:=by omega
     simp +contextual only [I5,G9,g1,aH,bX,cX,↓ak,ax,simprocAttr]
     refine ⟨(uh.set (fun _=>rfl) _).set (fun q=>absurd (show dG (al h.next)<h.next from q) (by rw [cK];omega)) _,?_⟩
     rw [if_pos wi]
     refine ⟨_,_,_,rfl,by decide,((a0+t.length:Nat):Int),?_⟩
     simp only [eY,bX,cX,↓ak,ax,simprocAttr]
   · have wi:¬2147483647<u:=by omega
     have b3:IntKind.i64.wrap (u:Int)=(u:Int):=wrap_i64 (by omega) (by omega)
     have b4:IntKind.i64.wrap ((u:Int)-2147483648)=(u:Int)-2147483648:=wrap_i64 (by omega) (by omega)
     by_cases N9:(1073741823:Int) < (u:Int)
     · simp +contextual only [I5,G9,wi,N9,g1,aH,bX,cX,b3,b4,↓ak,ax,simprocAttr]
       refine ⟨(uh.set (fun q=>absurd (show dG (al h.next)<h.next from q) (by rw [cK];omega)) _),?_⟩
       refine ⟨_,_,_,rfl,rfl,rfl,rfl,?_,by show a0+t.length≤s.length;omega⟩
       simp only [eY,aH,bX,cX,↓ak,ax,simprocAttr]
     · simp +contextual only [I5,G9,wi,N9,g1,aH,bX,cX,b3,b4,↓ak,ax,simprocAttr]
       refine ⟨(uh.set (fun q=>absurd (show dG (al h.next)<h.next from q) (by rw [cK];omega)) _),?_⟩
       refine ⟨_,_,_,rfl,rfl,rfl,rfl,?_,by show a0+t.length≤s.length;omega⟩
       simp only [eY,aH,bX,cX,↓ak,ax,simprocAttr]
 · refine fq (aik t (by omega) (ah.2 yY) ab) ?_
   have wi:2147483647<ie t:=by omega
   rw [if_pos wi]
   simp +contextual only [ahh,g1,aH,bX,cX,↓ak,ax,simprocAttr]
   refine ⟨(uh.set (fun _=>rfl) _).set (fun q=>absurd (show dG (al h.next)<h.next from q) (by rw [cK];omega)) _,?_⟩
   refine ⟨_,_,_,rfl,by decide,((a0+t.length:Nat):Int),?_⟩
   simp only [eY,bX,cX,↓ak,ax,simprocAttr]
theorem S1 (c:UInt8):((c.toNat:Int)).toNat.toUInt8=c:=by
 rw [Int.toNat_natCast]
 simp
theorem u' (c:UInt8) (n:Nat) (aU:n<256):((c.toNat:Int)=(n:Int))=(c=n.toUInt8):=by
 apply propext
 constructor
 · intro q
   have:c.toNat=n:=by omega
   rw [←UInt8.toNat_inj,this]
   simp
   omega
 · intro q
   subst q
   simp
   omega
theorem aaJ (c:UInt8):Lib.indexByte [110,116,34,92] c=if c=110 then 0 else if c=116 then 1 else if c=34 then 2 else if c=92 then 3 else -1:=by
 simp only [Lib.indexByte,beq_iff_eq]
 by_cases ab:c=110
 · subst ab;decide
 · by_cases ae:c=116
   · subst ae;decide
   · by_cases aG:c=34
     · subst aG;decide
     · by_cases ba:c=92
       · subst ba;decide
       · have aK:¬(110:UInt8)=c:=fun q=>ab q.symm
         have aS:¬(116:UInt8)=c:=fun q=>ae q.symm
         have bn:¬(34:UInt8)=c:=fun q=>aG q.symm
         have b2:¬(92:UInt8)=c:=fun q=>ba q.symm
         simp only [ab,ae,aG,ba,aK,aS,bn,b2,if_false]
         rfl
theorem GG {c:UInt8} (h:e2 c=true):Lib.digitVal c=some (c.toNat-48):=by
 unfold Lib.digitVal
 unfold e2 lN at h
 simp only [Bool.and_eq_true,decide_eq_true_eq] at h
 rw [if_pos (by omega)]
theorem VE {a b c:UInt8} (ab:e2 a=true) (ae:e2 b=true) (aG:e2 c=true):Lib.atoi [a,b,c]=some ((ie [a,b,c]:Nat):Int):=by
 have bq:=ab
 unfold e2 lN at bq
 simp only [Bool.and_eq_true,decide_eq_true_eq] at bq
 have cp:(a == 45)=false:=by rw [beq_eq_false_iff_ne];rintro rfl;revert bq;decide
 have gq:(a == 43)=false:=by rw [beq_eq_false_iff_ne];rintro rfl;revert bq;decide
 simp [Lib.atoi,cp,gq,Lib.decNat,Lib.decFrom,GG ab,GG ae,GG aG,ie]
 omega
theorem aaK (s:List UInt8) (a0:Nat) (b:aP) (h:af) (ag:h.get b=eY s a0 0) (bb:a0<s.length) (aQ:s.length≤100000) (gn:Old h b):
 bB Tryz.prog 157 [.ptr b 0] h fun x aa=>Mod (fun q=>q=b) h aa∧match od (s.drop (a0+1)) with
  | some (c,n)=>x=.int .u8 (c.toNat:Int)∧aa.get b=eY s ((a0+1+n:Nat):Int) 0∧a0+1+n≤s.length
  | none=>x=.int .u8 0∧aa.get b=eY s ((a0+1:Nat):Int) 252:=by
 refine W9 rfl (cL ?_)
 unfold FC
 unfold eY at ag ⊢
 have b3:IntKind.i64.wrap ((a0:Int)+1)=((a0+1:Nat):Int):=by rw [wrap_i64 (by omega) (by omega)];rfl
 have f0:(0≤((a0+1:Nat):Int))=True:=eq_true (by omega)
 have f1:(((a0+1:Nat):Int)≤(s.length:Int))=True:=eq_true (by omega)
 have ue:(s.drop (a0+1)).length=s.length - (a0+1):=List.length_drop
 have z0:((0:Int)≤0)=True:=eq_true (by omega)
 have nF:∀v,aX.Mod (fun q=>q=b) h ((h.set b v)):=fun v=>(Mod.refl (fun q=>q=b) h).set (fun _=>rfl) _
 cases cM:s.drop (a0+1) with
 | nil=>
   simp +contextual only [ag,b3,f0,f1,Int.toNat_natCast,cM,List.length_nil,Int.natCast_zero,↓ak,ax,simprocAttr]
   refine ⟨(nF _).set (fun _=>rfl) _,?_⟩
   simp only [od,c4,if_true,true_and]
 | cons c r=>
   rw [cM] at ue
   rw [List.length_cons] at ue
   have cS:(c::r=[])=False:=eq_false (by simp)
   have f2:((0:Int) < ((r.length+1:Nat):Int))=True:=eq_true (by omega)
   simp +contextual only [ag,b3,f0,f1,f2,cS,Int.toNat_natCast,cM,Int.reduceToNat,z0,↓ak,ax,simprocAttr]
   refine fq (Pq _ _ _) ?_
   rw [S1,aaJ]
   have b4:IntKind.i64.wrap (((a0+1:Nat):Int)+1)=((a0+2:Nat):Int):=by rw [wrap_i64 (by omega) (by omega)];omega
   by_cases bu:c=110
   · subst bu
     simp +contextual only [ag,b3,b4,f0,f1,f2,cS,Int.toNat_natCast,cM,Int.reduceToNat,z0,List.length_cons,List.length_nil,Nat.reduceAdd,Int.reduceLT,Int.cast_ofNat_Int,↓ak,ax,simprocAttr]
     refine ⟨(nF _).set (fun _=>rfl) _,rfl,?_⟩
     simp only [c4,if_true]
     refine ⟨trivial,by omega⟩
   by_cases bI:c=116
   · subst bI
     simp +contextual only [ag,b3,b4,f0,f1,f2,cS,Int.toNat_natCast,cM,Int.reduceToNat,z0,List.length_cons,List.length_nil,Nat.reduceAdd,Int.reduceLT,Int.cast_ofNat_Int,bu,↓ak,ax,simprocAttr]
     refine ⟨(nF _).set (fun _=>rfl) _,rfl,?_⟩
     simp only [c4,if_true]
     refine ⟨trivial,by omega⟩
   by_cases c3:c=34
   · subst c3
     simp +contextual only [ag,b3,b4,f0,f1,f2,cS,Int.toNat_natCast,cM,Int.reduceToNat,z0,List.length_cons,List.length_nil,Nat.reduceAdd,Int.reduceLT,Int.cast_ofNat_Int,bu,bI,↓ak,ax,simprocAttr]
     refine ⟨(nF _).set (fun _=>rfl) _,rfl,?_⟩
     simp only [c4,if_true]
     refine ⟨trivial,by omega⟩
   by_cases dN:c=92
   · subst dN
     simp +contextual only [ag,b3,b4,f0,f1,f2,cS,Int.toNat_natCast,cM,Int.reduceToNat,z0,List.length_cons,List.length_nil,Nat.reduceAdd,Int.reduceLT,Int.cast_ofNat_Int,bu,bI,c3,↓ak,ax,simprocAttr]
     refine ⟨(nF _).set (fun _=>rfl) _,rfl,?_⟩
     simp only [c4,if_true]
     refine ⟨trivial,by omega⟩
   match r,cM,ue,f2,cS with
   | [],cM,ue,f2,cS=>
     simp +contextual only [ag,b3,b4,f0,f1,f2,cS,Int.toNat_natCast,cM,Int.reduceToNat,z0,List.length_cons,List.length_nil,Nat.reduceAdd,Int.reduceLT,Int.cast_ofNat_Int,bu,bI,c3,dN,↓ak,ax,simprocAttr]
     refine ⟨(nF _).set (fun _=>rfl) _,?_⟩
     simp [od,bu,bI,c3,dN,c4]
   | [_],cM,ue,f2,cS=>
     simp +contextual only [ag,b3,b4,f0,f1,f2,cS,Int.toNat_natCast,cM,Int.reduceToNat,z0,List.length_cons,List.length_nil,Nat.reduceAdd,Int.reduceLT,Int.cast_ofNat_Int,bu,bI,c3,dN,↓ak,ax,simprocAttr]
     refine ⟨(nF _).set (fun _=>rfl) _,?_⟩
     simp [od,bu,bI,c3,dN,c4]
   | d1::d2::bw,cM,ue,f2,cS=>
     simp only [List.length_cons] at ue
     have g3:((3:Int)≤((bw.length+3:Nat):Int))=True:=eq_true (by omega)
     have g2:((2:Int) < ((bw.length+3:Nat):Int))=True:=eq_true (by omega)
     have g1:((1:Int) < ((bw.length+3:Nat):Int))=True:=eq_true (by omega)
     have g0:((0:Int) < ((bw.length+3:Nat):Int))=True:=eq_true (by omega)
     have em:od (c::d1::d2::bw)=if e2 c∧e2 d1∧e2 d2∧ie [c,d1,d2]<256 then some ((ie [c,d1,d2]).toUInt8,3) else none:=by
      simp [od,bu,bI,c3,dN]
     rw [em]
     simp +contextual only [ag,b3,b4,f0,f1,g0,g1,g2,g3,cS,Int.toNat_natCast,cM,Int.reduceToNat,z0,List.length_cons,List.length_nil,Nat.reduceAdd,Int.reduceLT,Int.cast_ofNat_Int,bu,bI,c3,dN,↓ak,ax,simprocAttr]
     refine fq (vS _ _) ?_
     have dg:∀x:UInt8,lN (x.toNat:Int)=e2 x:=fun _=>rfl
     simp only [dg]
     cases acp:e2 c with
     | false=>
       simp +contextual only [ag,b3,b4,f0,f1,g0,g1,g2,g3,cS,Int.toNat_natCast,cM,Int.reduceToNat,z0,List.length_cons,List.length_nil,Nat.reduceAdd,Int.reduceLT,Int.cast_ofNat_Int,bu,bI,c3,dN,false_and,Bool.false_eq_true,↓ak,ax,simprocAttr]
       exact (nF _).set (fun _=>rfl) _
     | true=>
       simp +contextual only [ag,b3,b4,f0,f1,g0,g1,g2,g3,cS,Int.toNat_natCast,cM,Int.reduceToNat,z0,List.length_cons,List.length_nil,Nat.reduceAdd,Int.reduceLT,Int.cast_ofNat_Int,bu,bI,c3,dN,↓ak,ax,simprocAttr]
       refine fq (vS _ _) ?_
       simp only [dg]
       cases tV:e2 d1 with
       | false=>
         simp +contextual only [ag,b3,b4,f0,f1,g0,g1,g2,g3,cS,Int.toNat_natCast,cM,Int.reduceToNat,z0,List.length_cons,List.length_nil,Nat.reduceAdd,Int.reduceLT,Int.cast_ofNat_Int,bu,bI,c3,dN,false_and,and_false,Bool.false_eq_true,↓ak,ax,simprocAttr]
         exact (nF _).set (fun _=>rfl) _
       | true=>
         simp +contextual only [ag,b3,b4,f0,f1,g0,g1,g2,g3,cS,Int.toNat_natCast,cM,Int.reduceToNat,z0,List.length_cons,List.length_nil,Nat.reduceAdd,Int.reduceLT,Int.cast_ofNat_Int,bu,bI,c3,dN,↓ak,ax,simprocAttr]
         refine fq (vS _ _) ?_
         simp only [dg]
         cases tW:e2 d2 with
         | false=>
           simp +contextual only [ag,b3,b4,f0,f1,g0,g1,g2,g3,cS,Int.toNat_natCast,cM,Int.reduceToNat,z0,List.length_cons,List.length_nil,Nat.reduceAdd,Int.reduceLT,Int.cast_ofNat_Int,bu,bI,c3,dN,false_and,and_false,Bool.false_eq_true,↓ak,ax,simprocAttr]
           exact (nF _).set (fun _=>rfl) _
         | true=>
           have z3:((0:Int)≤3)=True:=eq_true (by omega)
           simp +contextual only [ag,b3,b4,f0,f1,g0,g1,g2,g3,z3,cS,Int.toNat_natCast,cM,Int.reduceToNat,z0,List.length_cons,List.length_nil,Nat.reduceAdd,Int.reduceLT,Int.cast_ofNat_Int,bu,bI,c3,dN,↓ak,ax,simprocAttr]
           refine fq (VF [c,d1,d2] _ (by simp) (VE acp tV tW) _) ?_
           have kk:IntKind.i64.wrap (((a0+1:Nat):Int)+3)=((a0+4:Nat):Int):=by rw [wrap_i64 (by omega) (by omega)];omega
           generalize bs:ie [c,d1,d2]=v
           by_cases Pa:(v:Int)<256
           · have gj:IntKind.u8.wrap (v:Int)=((v.toUInt8).toNat:Int):=by
              simp [IntKind.wrap,IntKind.bits,IntKind.signed]
             have Io:v<256:=by omega
             simp +contextual only [ag,b3,b4,kk,gj,f0,f1,g0,g1,g2,g3,cS,Pa,Io,Int.toNat_natCast,cM,Int.reduceToNat,z0,List.length_cons,List.length_nil,Nat.reduceAdd,Int.reduceLT,Int.cast_ofNat_Int,bu,bI,c3,dN,and_self,true_and,↓ak,ax,simprocAttr]
             refine ⟨(nF _).set (fun _=>rfl) _,?_⟩
             first | omega | (refine ⟨?_,by omega⟩;simp [c4]) | skip
           · have Io:¬v<256:=by omega
             simp +contextual only [ag,b3,b4,kk,f0,f1,g0,g1,g2,g3,cS,Pa,Io,Int.toNat_natCast,cM,Int.reduceToNat,z0,List.length_cons,List.length_nil,Nat.reduceAdd,Int.reduceLT,Int.cast_ofNat_Int,bu,bI,c3,dN,and_false,↓ak,ax,simprocAttr]
             exact (nF _).set (fun _=>rfl) _
theorem akA (c:UInt8) (n:Nat) (aU:n<256):((c.toNat:Int) < (n:Int))=(c<n.toUInt8):=by
 apply propext
 rw [UInt8.lt_iff_toNat_lt]
 have:(n.toUInt8).toNat=n:=by simp;omega
 rw [this]
 omega
theorem akj (s:List UInt8) (a0:Nat) (b:aP) (h:af) (ag:h.get b=eY s a0 0) (bb:a0<s.length) (aQ:s.length≤100000) (gn:Old h b):
 bB Tryz.prog 142 [.ptr b 0] h (m' s a0 b h (rk (s.drop (a0+1)))):=by
 refine WN rfl (cL ?_)
 unfold Fv
 have bX:(b=al h.next)=False:=z6 gn (Nat.le_refl _)
 have cX:(al h.next=b)=False:=by rw [←bX];exact propext eq_comm
 have b3:IntKind.i64.wrap ((a0:Int)+1)=((a0+1:Nat):Int):=by rw [wrap_i64 (by omega) (by omega)];rfl
 unfold eY at ag
 simp +contextual only [ag,bX,cX,b3,↓ak,ax,simprocAttr]
 have xk:∀{v:V} {aa:af} {n:Nat} {us:List V},du (h.next+1) aa 1 v n us→∀q,v.aW q→¬(fun q=>q=b) q:=by
  intro v aa n us dO q aA he
  have ab:=dO.base aA
  rw [show q=b from he] at ab
  have ae:dG b<h.next:=gn
  omega
 have VS:∀{v:V} {aa:af} {n:Nat} {us:List V},du (h.next+1) aa 1 v n us→∀i,i<h.next+1→¬v.aW (al i):=by
  intro v aa n us dO i aC aA
  have ab:=dO.base aA
  rw [cK] at ab
  omega
 refine fG (fun r aa=>r 0=.ptr b 0∧r 2=.ptr (al h.next) 0∧∃(a:Nat) (e:Int) (e9:List UInt8) (v:V),r 3=v∧aa.get b=.a1 [.str s,.int .i64 a,.int .i64 e] 0 false∧a≤s.length∧a0+1≤a∧e9.length≤a∧
  aa.get (al h.next)=.a1 [.int .i64 0,.int .i64 0,.int .i64 0,.str []] 0 false∧Mod (fun q=>q=b) h aa∧h.next+1≤aa.next∧du (h.next+1) aa 1 v e9.length (gE e9)∧
  ((e=0∧oS (s.drop (a0+1))=(oS (s.drop a)).map fun q=>(e9++q.1,q.2 + (a - (a0+1))))∨(e=252∧oS (s.drop (a0+1))=none)))
  (fun r aa=>(s.length - ((iw (aa.get b) 1).getD .bad).toN) + (252 - ((iw (aa.get b) 2).getD .bad).toN)) ?_ ?_
 · refine ⟨by simp only [bX,cX,↓ak,ax,simprocAttr],by simp only [bX,cX,↓ak,ax,simprocAttr],a0+1,0,[],.b6,by simp only [bX,cX,↓ak,ax,simprocAttr],by simp only [bX,cX,↓ak,ax,simprocAttr],by omega,by omega,by simp,by simp only [bX,cX,↓ak,ax,simprocAttr],?_,?_,⟨rfl,rfl⟩,.inl ⟨rfl,?_⟩⟩
   · exact (((Ext.refl h).new _).mod (fun q=>q=b)).self _
   · rw [mF,eU];exact Nat.le_refl _
   · rw [Nat.sub_self]
     cases oS (s.drop (a0+1))<;>rfl
 · rintro r aa ⟨bE,bT,a,e,e9,v,cg,aH,bz,pT,w9,bo,hm,k_,dO,bF⟩
   unfold Ml
   have OS:Old aa b:=hm.b1 gn
   have fin:∀(ae:af) (bm:Int),oS (s.drop (a0+1))=none→Mod (fun q=>q=b) h ae→ae.get b=.a1 [.str s,.int .i64 bm,.int .i64 252] 0 false→
    m' s a0 b h (rk (s.drop (a0+1))) (.agg [.int .i64 0,.int .i64 0,.int .i64 0,.str []]) (ae.set (al h.next) (.a1 [.int .i64 0,.int .i64 0,.int .i64 0,.str []] 0 false)):=by
    intro ae bm aU k9 y8
    unfold rk
    rw [aU]
    refine ⟨k9.set (fun q=>absurd (show dG (al h.next)<h.next from q) (by rw [cK];omega)) _,_,_,_,rfl,by decide,bm,?_⟩
    rw [c4,if_neg (by rw [cX];exact id),y8]
    rfl
   have step:∀(ae:af),Mod (fun q=>q=b) h ae→aa.next≤ae.next→du (h.next+1) ae 1 v e9.length (gE e9)→∀(c:UInt8),∃v3 aG,kW 1 v (.slice (al ae.next) 0 1 1) (ae.new (.a1 [.int .u8 (c.toNat:Int)] 0 false))=.val v3 aG∧du (h.next+1) aG 1 v3 (e9++[c]).length (gE (e9++[c]))∧Mod (fun q=>q=b) h aG∧h.next+1≤aG.next∧aG.get b=ae.get b∧aG.get (al h.next)=ae.get (al h.next):=by
    intro ae k9 ama j9 c
    obtain ⟨v3,aG,an,az,aN,bM,dL⟩:=yx (cs:=[.int .u8 (c.toNat:Int)]) (by omega) j9 (by omega) (by unfold top;omega) rfl rfl
    refine ⟨v3,aG,an,by rw [List.length_append,Md];exact az,k9.SU aN (fun q aA=>Nat.le_trans (Nat.le_succ _) (j9.base aA)),by omega,?_,?_⟩
    · exact aN.get _ (k9.b1 gn) (fun aA=>xk j9 _ aA rfl)
    · exact aN.get _ (eI (by omega)) (VS j9 _ (by omega))
   rcases bF with ⟨rfl,bF⟩ | ⟨rfl,bF⟩
   · by_cases fL:(s.length:Int)≤(a:Int)
     · have bq:a=s.length:=by omega
       rw [bq,List.drop_length,aki] at bF
       simp +contextual only [bE,bT,cg,aH,fL,bo,bX,cX,↓ak,ax,simprocAttr]
       exact fin _ _ bF (hm.set (fun _=>rfl) _) (by rw [c4,if_pos rfl])
     · have aL:a<s.length:=by omega
       rw [drop_cons aL,akh] at bF
       have f0:(0≤(a:Int))=True:=eq_true (by omega)
       have f1:((a:Int) < (s.length:Int))=True:=eq_true (by omega)
       have b4:IntKind.i64.wrap ((a:Int)+1)=((a+1:Nat):Int):=by rw [wrap_i64 (by omega) (by omega)];rfl
       have j5:(((s[a]).toNat:Int)=34)=(s[a]=34):=u' _ 34 (by omega)
       have GN:(((s[a]).toNat:Int)=92)=(s[a]=92):=u' _ 92 (by omega)
       have Ni:(((s[a]).toNat:Int)=127)=(s[a]=127):=u' _ 127 (by omega)
       have PV:(((s[a]).toNat:Int)<32)=(s[a]<32):=akA _ 32 (by omega)
       by_cases bu:s[a]=34
       · rw [if_pos bu] at bF
         replace bu:(s[a]=34)=True:=eq_true bu
         simp only [Option.map_some,List.append_nil] at bF
         by_cases yY:(4096:Int) < (e9.length:Int)
         · have j9:∀k bZ,du (h.next+1) ((aa.set b k).set b bZ) 1 v e9.length (gE e9):=fun k bZ=>dO.mod (((Mod.refl (fun q=>q=b) aa).set (fun _=>rfl) _).set (fun _=>rfl) _) (xk dO)
           simp +contextual only [bE,bT,cg,aH,fL,bo,bX,cX,f0,f1,b4,j5,bu,dO.v.len,yY,GC (j9 _ _),List.getElem?_eq_getElem aL,Int.toNat_natCast,↓ak,ax,simprocAttr]
           refine ⟨((hm.set (fun _=>rfl) _).set (fun _=>rfl) _).set (fun q=>absurd (show dG (al h.next)<h.next from q) (by rw [cK];omega)) _,_,_,_,rfl,?_⟩
           unfold rk
           rw [bF]
           simp only
           rw [if_pos (by omega)]
           refine ⟨by decide,((a+1:Nat):Int),?_⟩
           simp only [eY,bX,cX,↓ak,ax,simprocAttr]
         · have j9:∀k,du (h.next+1) (aa.set b k) 1 v e9.length (gE e9):=fun k=>dO.mod ((Mod.refl (fun q=>q=b) aa).set (fun _=>rfl) _) (xk dO)
           simp +contextual only [bE,bT,cg,aH,fL,bo,bX,cX,f0,f1,b4,j5,bu,dO.v.len,yY,GC (j9 _),List.getElem?_eq_getElem aL,Int.toNat_natCast,↓ak,ax,simprocAttr]
           refine ⟨(hm.set (fun _=>rfl) _).set (fun q=>absurd (show dG (al h.next)<h.next from q) (by rw [cK];omega)) _,_,_,_,rfl,?_⟩
           unfold rk
           rw [bF]
           simp only
           rw [if_neg (by omega)]
           refine ⟨rfl,rfl,rfl,?_,?_⟩
           · simp only [eY,bX,cX,↓ak,ax,simprocAttr]
             rw [show a0 + (1 + (a - (a0+1))+1)=a+1 from by omega]
           · simp only;omega
       rw [if_neg bu] at bF
       by_cases bI:s[a]=92
       · rw [if_pos bI] at bF
         replace bI:(s[a]=92)=True:=eq_true bI
         simp +contextual only [bE,bT,cg,aH,fL,bo,bX,cX,f0,f1,b4,j5,GN,bu,bI,List.getElem?_eq_getElem aL,Int.toNat_natCast,↓ak,ax,simprocAttr]
         refine bY (aaK s a b aa aH aL aQ OS) ?_
         rintro x ae ⟨k9,aq⟩
         have j9:=dO.mod k9 (xk dO)
         have pQ:ae.get (al h.next)=.a1 [.int .i64 0,.int .i64 0,.int .i64 0,.str []] 0 false:=by
          rw [k9.get _ (eI (by omega)) (by rw [cX];exact id),bo]
         have p1:=k9.next
         obtain ⟨c,aI,Cz⟩:∃c:UInt8,x=.int .u8 (c.toNat:Int)∧((∃n,od (s.drop (a+1))=some (c,n)∧ae.get b=eY s ((a+1+n:Nat):Int) 0∧a+1+n≤s.length)∨(od (s.drop (a+1))=none∧ae.get b=eY s ((a+1:Nat):Int) 252)):=by
          cases wE:od (s.drop (a+1)) with
          | none=>rw [wE] at aq;exact ⟨0,aq.1,.inr ⟨rfl,aq.2⟩⟩
          | some q=>rw [wE] at aq;exact ⟨q.1,aq.1,.inl ⟨q.2,rfl,aq.2⟩⟩
         subst aI
         obtain ⟨v3,aG,an,az,aN,bM,dL,eP⟩:=step ae (hm.trans k9) p1 j9 c
         have JJ:du (h.next+1) aG 1 v3 (e9.length+1) (gE (e9++[c])):=by rw [List.length_append] at az;exact az
         have zD:aG.get (al h.next)=.a1 [.int .i64 0,.int .i64 0,.int .i64 0,.str []] 0 false:=by rw [eP,pQ]
         unfold eY at Cz
         rcases Cz with ⟨n,wE,y8,hle⟩ | ⟨wE,y8⟩
         · simp +contextual only [an,bE,bT,aH,y8,dL,bX,cX,↓ak,ax,simprocAttr]
           rw [wE] at bF
           simp only at bF
           refine ⟨⟨a+1+n,0,e9++[c],rfl,hle,by omega,by simp;omega,zD,aN,bM,az,.inl ⟨rfl,?_⟩⟩,by omega⟩
           rw [bF,List.drop_drop,Option.map_map]
           congr 1
           funext q
           simp only [Function.comp,List.append_assoc,List.singleton_append,Prod.mk.injEq,true_and]
           omega
         · simp +contextual only [an,bE,bT,aH,y8,dL,bX,cX,↓ak,ax,simprocAttr]
           rw [wE] at bF
           exact ⟨⟨a+1,252,e9++[c],rfl,by omega,by omega,by simp;omega,zD,aN,bM,az,.inr ⟨rfl,bF⟩⟩,by omega⟩
       rw [if_neg bI] at bF
       by_cases c3:s[a]<32∨s[a]=127
       · rw [if_pos c3] at bF
         have h4:(decide (s[a]<32)||decide (s[a]=127))=true:=by simpa using c3
         simp +contextual only [bE,bT,cg,aH,fL,bo,bX,cX,f0,f1,b4,j5,GN,Ni,PV,bu,bI,h4,List.getElem?_eq_getElem aL,Int.toNat_natCast,↓ak,ax,simprocAttr]
         exact ⟨⟨a,252,e9,rfl,bz,pT,w9,hm.self _,k_,dO.mod ((Mod.refl (fun q=>q=b) aa).self _) (xk dO),.inr ⟨rfl,bF⟩⟩,by omega⟩
       · rw [if_neg c3] at bF
         have h4:(decide (s[a]<32)||decide (s[a]=127))=false:=by simpa using c3
         obtain ⟨v3,aG,an,az,aN,bM,dL,eP⟩:=step (aa.set b (.a1 [.str s,.int .i64 ((a+1:Nat):Int),.int .i64 0] 0 false)) (hm.self _) (by rw [mF];exact Nat.le_refl _) (dO.mod ((Mod.refl (fun q=>q=b) aa).self _) (xk dO)) s[a]
         simp only [mF,c4,bX,cX,if_true,if_false] at an dL eP
         simp +contextual only [an,bE,bT,cg,aH,fL,bo,bX,cX,f0,f1,b4,j5,GN,Ni,PV,bu,bI,h4,dL,List.getElem?_eq_getElem aL,Int.toNat_natCast,↓ak,ax,simprocAttr]
         refine ⟨⟨a+1,0,e9++[s[a]],rfl,by omega,by omega,by simp;omega,by rw [eP,bo],aN,bM,az,.inl ⟨rfl,?_⟩⟩,by omega⟩
         rw [bF,Option.map_map]
         congr 1
         funext q
         simp only [Function.comp,List.append_assoc,List.singleton_append,Prod.mk.injEq,true_and]
         omega
   · simp +contextual only [bE,bT,cg,aH,bo,bX,cX,↓ak,ax,simprocAttr]
     exact fin _ _ bF hm aH
def II:List UInt8:=[32,97,110,100,32,98,101,103,105,110,32,101,108,115,101,32,101,110,100,32,101,120,99,101,112,116,105,111,110,32,102,97,108,115,101,32,102,117,110,32,105,102,32,105,110,32,108,101,116,32,109,97,116,99,104,32,109,111,100,32,111,102,32,114,97,105,115,101,32,114,101,99,32,116,104,101,110,32,116,114,117,101,32,116,114,121,32,116,121,112,101,32,119,105,116,104,32]
def r2:List (List UInt8)→List UInt8
 | []=>[32]
 | w::L=>32::(w++r2 L)
theorem aa5:r2 sq=II:=by decide
theorem aa4 (L:List (List UInt8)):∃r,r2 L=32::r:=by cases L<;>exact ⟨_,rfl⟩
theorem index_ge (sub:List UInt8):∀l:List UInt8,-1≤Lib.index l sub
 | []=>by simp only [Lib.index];split<;>decide
 | b::l=>by
   have:=index_ge sub l
   simp only [Lib.index]
   split
   · decide
   · split<;>omega
theorem Ps (sub:List UInt8) (b:UInt8) (l:List UInt8):(0≤Lib.index (b::l) sub)↔(sub.isPrefixOf (b::l)=true∨0≤Lib.index l sub):=by
 have:=index_ge sub l
 simp only [Lib.index]
 split
 · rename_i h;simp [h]
 · rename_i h
   split
   · rename_i ae
     have:Lib.index l sub=-1:=by simpa using ae
     simp [h,this]
   · rename_i ae
     have aG:¬Lib.index l sub=-1:=by simpa using ae
     simp only [h,Bool.false_eq_true,false_or]
     omega
theorem Pv (x:List UInt8) (r:List UInt8):∀w:List UInt8,(32:UInt8) ∉ w→((0≤Lib.index (w++r) (32::x))↔0≤Lib.index r (32::x))
 | [],_=>Iff.rfl
 | b::w,h=>by
   rw [List.cons_append,Ps,Pv x r w (fun q=>h (List.mem_cons_of_mem _ q))]
   have ag:((32:UInt8) == b)=false:=by rw [beq_eq_false_iff_ne];rintro rfl;exact h (List.mem_cons_self ..)
   simp [List.isPrefixOf,ag]
theorem Rf (r:List UInt8):∀(t w:List UInt8),(32:UInt8) ∉ t→(32:UInt8) ∉ w→((t++[32]).isPrefixOf (w++32::r)=true↔t=w)
 | [],[],_,_=>by simp [List.isPrefixOf]
 | [],b::w,_,h=>by
   have ag:((32:UInt8) == b)=false:=by rw [beq_eq_false_iff_ne];rintro rfl;exact h (List.mem_cons_self ..)
   simp [List.isPrefixOf,ag]
 | a::t,[],h,_=>by
   have ag:(a == (32:UInt8))=false:=by rw [beq_eq_false_iff_ne];rintro rfl;exact h (List.mem_cons_self ..)
   simp [List.isPrefixOf,ag]
 | a::t,b::w,h,aa=>by
   have bk:=Rf r t w (fun q=>h (List.mem_cons_of_mem _ q)) (fun q=>aa (List.mem_cons_of_mem _ q))
   simp only [List.cons_append,List.isPrefixOf,Bool.and_eq_true,beq_iff_eq,bk,List.cons.injEq]
theorem Pt (t:List UInt8) (aF:(32:UInt8) ∉ t):∀L:List (List UInt8),(∀w ∈ L,(32:UInt8) ∉ w)→((0≤Lib.index (r2 L) (32::(t++[32])))↔t ∈ L)
 | [],_=>by
   cases t<;>simp [r2,Lib.index,List.isPrefixOf]
 | w::L,h=>by
   have bk:=Pt t aF L (fun x aq=>h x (List.mem_cons_of_mem _ aq))
   have hw:=h w (List.mem_cons_self ..)
   obtain ⟨r,aJ⟩:=aa4 L
   simp only [r2]
   rw [Ps,Pv _ _ _ hw,bk,List.mem_cons]
   have:(32::(t++[32])).isPrefixOf (32::(w++r2 L))=(t++[32]).isPrefixOf (w++r2 L):=by simp [List.isPrefixOf]
   rw [this,aJ,Rf r t w aF hw]
theorem ZY (t:List UInt8) (aF:(32:UInt8) ∉ t):Lib.contains II (32::(t++[32]))=ny t:=by
 have:=Pt t aF sq (by decide)
 rw [aa5] at this
 unfold Lib.contains ny
 rw [Bool.eq_iff_iff,decide_eq_true_eq,this]
 simp
theorem ag3 {l:List UInt8}:(32:UInt8) ∉ l.takeWhile e4:=fun h=>by
 have:=SP _ h
 revert this
 decide
theorem C5 (s:List UInt8) (a0:Nat) (k:Int) (b:aP) (h:af) (ag:h.get b=eY s a0 0) (bb:a0≤s.length) (aQ:s.length≤100000) (gn:Old h b):
 bB Tryz.prog 144 [.ptr b 0,.int .i64 k] h (m' s a0 b h (jo k (s.drop a0))):=by
 refine WU rfl (cL ?_)
 unfold Fx
 have bX:(b=al h.next)=False:=z6 gn (Nat.le_refl _)
 have cX:(al h.next=b)=False:=by rw [←bX];exact propext eq_comm
 simp +contextual only [ag,bX,cX,↓ak,ax,simprocAttr]
 have aq:Ext h (h.new (.a1 [.int .i64 0,.int .i64 0,.int .i64 0,.str []] 0 false)):=(Ext.refl h).new _
 refine bY (R7 s a0 0 b 158 sr _ (by rw [aq.get _ gn,ag]) bb aQ (by decide) (fun c h=>agN c h)) ?_
 rintro x ab ⟨rfl,hm,aH⟩
 have jC:(fun c:UInt8=>sr (c.toNat:Int))=e4:=rfl
 rw [jC] at aH ⊢
 have uh:Mod (fun q=>q=b) h ab:=(aq.mod _).trans hm
 have g1:ab.get (al h.next)=.a1 [.int .i64 0,.int .i64 0,.int .i64 0,.str []] 0 false:=by
  rw [hm.get _ (eI (by rw [eU];omega)) (by rw [cX];exact id)]
  simp only [↓ak,ax,simprocAttr]
 have hlen:=SQ e4 s a0
 have abM:(32:UInt8) ∉ (s.drop a0).takeWhile e4:=ag3
 unfold eY at aH
 have ou:jo k (s.drop a0)=if k=3∧(s.drop a0).takeWhile e4=[95] then .ok (7,0,(s.drop a0).takeWhile e4,((s.drop a0).takeWhile e4).length) else if k=3∧ny ((s.drop a0).takeWhile e4) then .ok (6,0,(s.drop a0).takeWhile e4,((s.drop a0).takeWhile e4).length) else if 64 < ((s.drop a0).takeWhile e4).length then .error 255 else .ok (k,0,(s.drop a0).takeWhile e4,((s.drop a0).takeWhile e4).length):=rfl
 rw [ou]
 generalize (s.drop a0).takeWhile e4=t at *
 have Dc:∀(c6:Int),m' s a0 b h (.ok (c6,0,t,t.length)) (.agg [.int .i64 c6,.int .i64 0,.int .i64 0,.str t]) (ab.set (al h.next) (.a1 [.int .i64 c6,.int .i64 0,.int .i64 0,.str t] 0 false)):=by
  intro c6
  refine ⟨uh.fresh (Nat.le_refl _) _,_,_,_,rfl,rfl,rfl,rfl,?_,by show a0+t.length≤s.length;omega⟩
  rw [c4,if_neg (by rw [cX];exact id),aH]
  rfl
 have tail:(64<t.length→m' s a0 b h (.error 255) (.agg [.int .i64 k,.int .i64 0,.int .i64 0,.str t]) ((ab.set b (.a1 [.str s,.int .i64 ((a0+t.length:Nat):Int),.int .i64 255] 0 false)).set (al h.next) (.a1 [.int .i64 k,.int .i64 0,.int .i64 0,.str t] 0 false))):=by
  intro ai
  refine ⟨(uh.self _).fresh (Nat.le_refl _) _,_,_,_,rfl,by decide,((a0+t.length:Nat):Int),?_⟩
  simp only [eY,bX,cX,↓ak,ax,simprocAttr]
 by_cases aE:k=3
 · subst aE
   by_cases hu:t=[95]
   · simp +contextual only [g1,aH,bX,cX,hu,true_and,↓ak,ax,simprocAttr]
     subst hu
     exact Dc 7
   · have t1:(1+t.length≤top)=True:=eq_true (by unfold top;omega)
     have t2:(t.length+1+1≤top)=True:=eq_true (by unfold top;omega)
     simp only [top] at t1 t2
     simp +contextual only [g1,aH,bX,cX,hu,true_and,List.length_append,t1,t2,↓ak,ax,simprocAttr]
     refine fq (ZW II (32::(t++[32])) (by decide) _) ?_
     rw [ZY t abM]
     cases HH:ny t with
     | true=>
       simp +contextual only [g1,aH,bX,cX,hu,true_and,and_false,HH,List.length_append,t1,t2,↓ak,ax,simprocAttr]
       exact Dc 6
     | false=>
       by_cases ai:64<t.length
       · have gm:(64:Int) < (t.length:Int):=by omega
         simp +contextual only [g1,aH,bX,cX,hu,ai,gm,true_and,and_false,HH,List.length_append,t1,t2,Bool.false_eq_true,↓ak,ax,simprocAttr]
         exact tail ai
       · have gm:¬(64:Int) < (t.length:Int):=by omega
         simp +contextual only [g1,aH,bX,cX,hu,ai,gm,true_and,and_false,HH,List.length_append,t1,t2,Bool.false_eq_true,↓ak,ax,simprocAttr]
         exact Dc 3
 · by_cases ai:64<t.length
   · have gm:(64:Int) < (t.length:Int):=by omega
     simp +contextual only [g1,aH,bX,cX,aE,ai,gm,false_and,↓ak,ax,simprocAttr]
     exact tail ai
   · have gm:¬(64:Int) < (t.length:Int):=by omega
     simp +contextual only [g1,aH,bX,cX,aE,ai,gm,false_and,↓ak,ax,simprocAttr]
     exact Dc k
def xE:List V:=iF.map V.str
theorem ajG (h:af):bB Tryz.prog 146 [] h fun x aa=>x=.slice (al h.next) 0 17 17∧aa=h.new (.a1 xE 0 false):=by
 refine W0 rfl (cL ?_)
 unfold Fz
 simp +contextual only [↓ak,ax,simprocAttr]
 rfl
theorem ajE {i:Nat} (aC:i<17):xE[i]? =some (.str (iF[i]'aC)):=by
 unfold xE
 rw [List.getElem?_map,List.getElem?_eq_getElem (show i<iF.length from aC)]
 rfl
theorem aa2 (p:List UInt8→Bool) {i:Nat} (aC:i<17):(iF.drop i).find? p=if p (iF[i]'aC) then some (iF[i]'aC) else (iF.drop (i+1)).find? p:=by
 rw [List.drop_eq_getElem_cons (show i<iF.length from aC),List.find?_cons]
 cases p iF[i]<;>rfl
theorem m'.store {s:List UInt8} {p:Nat} {b:aP} {h:af} {z bZ:cb} {res:rQ} {x:V} {ab:af} (w:m' s p b (h.new z) res x ab) (gn:Old h b):m' s p b h res x (ab.set (al h.next) bZ):=by
 have cX:¬(al h.next=b):=by
  intro q
  have:dG b<h.next:=gn
  rw [←q,cK] at this
  omega
 obtain ⟨hm,k,n,t,aq,aJ⟩:=w
 refine ⟨((((Ext.refl h).new z).mod _).trans hm).fresh (Nat.le_refl _) _,k,n,t,aq,?_⟩
 cases res with
 | ok q=>simpa only [c4,if_neg cX] using aJ
 | error e=>simpa only [c4,if_neg cX] using aJ
theorem aho (s:List UInt8) (a0:Nat) (b:aP) (h:af) (ag:h.get b=eY s a0 0) (bb:a0<s.length) (aQ:s.length≤100000) (gn:Old h b):
 bB Tryz.prog 127 [.ptr b 0] h (m' s a0 b h (gA (s.drop a0))):=by
 refine Wu rfl (cL ?_)
 unfold Fq
 have bX:(b=al h.next)=False:=z6 gn (Nat.le_refl _)
 have cX:(al h.next=b)=False:=by rw [←bX];exact propext eq_comm
 have hZ:=ag
 unfold eY at ag
 have f0:(0≤(a0:Int))=True:=eq_true (by omega)
 have f1:((a0:Int) < (s.length:Int))=True:=eq_true (by omega)
 have aq:Ext h (h.new (.a1 [.int .i64 0,.int .i64 0,.int .i64 0,.str []] 0 false)):=(Ext.refl h).new _
 have wM:Old (h.new (.a1 [.int .i64 0,.int .i64 0,.int .i64 0,.str []] 0 false)) b:=aq.b1 gn
 have y0:(h.new (.a1 [.int .i64 0,.int .i64 0,.int .i64 0,.str []] 0 false)).get b=eY s a0 0:=by rw [aq.get _ gn,hZ]
 have wg:∀{res:rQ} {x:V} {ab:af},m' s a0 b (h.new (.a1 [.int .i64 0,.int .i64 0,.int .i64 0,.str []] 0 false)) res x ab→ab.get (al h.next)=.a1 [.int .i64 0,.int .i64 0,.int .i64 0,.str []] 0 false:=by
  intro res x ab w
  rw [w.mod.get _ (eI (by rw [eU];omega)) (by rw [cX];exact id)]
  simp only [↓ak,ax,simprocAttr]
 have aZ:=drop_cons bb
 rw [aZ]
 have dg:lN ((s[a0]).toNat:Int)=e2 s[a0]:=rfl
 have j5:(((s[a0]).toNat:Int)=34)=(s[a0]=34):=u' _ 34 (by omega)
 have r0:(((s[a0]).toNat:Int)=95)=(s[a0]=95):=u' _ 95 (by omega)
 have vV:(((s[a0]).toNat:Int)=39)=(s[a0]=39):=u' _ 39 (by omega)
 simp +contextual only [ag,bX,cX,f0,f1,List.getElem?_eq_getElem bb,Int.toNat_natCast,↓ak,ax,simprocAttr]
 refine fq (vS _ _) ?_
 rw [dg]
 cases ab:e2 s[a0] with
 | true=>
   have dS:gA (s[a0]::s.drop (a0+1))=xl (s.drop a0):=by rw [aZ];simp only [gA,ab,if_true]
   rw [dS]
   simp +contextual only [ag,bX,cX,f0,f1,List.getElem?_eq_getElem bb,Int.toNat_natCast,↓ak,ax,simprocAttr]
   refine bY (ahz s a0 b _ y0 bb aQ wM ab) ?_
   rintro x ah w
   have g1:=wg w
   obtain ⟨k,n,t,rfl,_⟩:=w.res
   simp +contextual only [g1,ag,bX,cX,f0,f1,↓ak,ax,simprocAttr]
   exact w.store gn
 | false=>
   by_cases ae:s[a0]=34
   · have dS:gA (s[a0]::s.drop (a0+1))=rk (s.drop (a0+1)):=by simp only [gA];rw [if_neg (by rw [ab];exact Bool.false_ne_true),if_pos ae]
     rw [dS]
     replace ae:=eq_true ae
     simp +contextual only [ag,bX,cX,f0,f1,j5,ae,List.getElem?_eq_getElem bb,Int.toNat_natCast,↓ak,ax,simprocAttr]
     refine bY (akj s a0 b _ y0 bb aQ wM) ?_
     rintro x ah w
     have g1:=wg w
     obtain ⟨k,n,t,rfl,_⟩:=w.res
     simp +contextual only [g1,ag,bX,cX,f0,f1,↓ak,ax,simprocAttr]
     exact w.store gn
   simp +contextual only [ag,bX,cX,f0,f1,j5,ae,List.getElem?_eq_getElem bb,Int.toNat_natCast,↓ak,ax,simprocAttr]
   refine fq (DS _ _) ?_
   by_cases aG:(gC ((s[a0]).toNat:Int)||decide (s[a0]=95))=true
   · have dS:gA (s[a0]::s.drop (a0+1))=jo 3 (s.drop a0):=by rw [aZ];simp only [gA,ab,ae,aG,Bool.false_eq_true,if_false,if_true]
     rw [dS]
     have fin:ps Tryz.prog 144 [.ptr b 0,.int .i64 3] (some 33) none [] [] (fun _=>.bad) h (fun _ _ _=>True)→True:=fun _=>trivial
     cases zu:gC ((s[a0]).toNat:Int) with
     | true=>
       simp +contextual only [ag,bX,cX,f0,f1,j5,ae,zu,List.getElem?_eq_getElem bb,Int.toNat_natCast,↓ak,ax,simprocAttr]
       refine bY (C5 s a0 3 b _ y0 (by omega) aQ wM) ?_
       rintro x ah w
       have g1:=wg w
       obtain ⟨k,n,t,rfl,_⟩:=w.res
       simp +contextual only [g1,ag,bX,cX,f0,f1,↓ak,ax,simprocAttr]
       exact w.store gn
     | false=>
       rw [zu,Bool.false_or,decide_eq_true_eq] at aG
       replace aG:=eq_true aG
       simp +contextual only [ag,bX,cX,f0,f1,j5,r0,ae,aG,zu,List.getElem?_eq_getElem bb,Int.toNat_natCast,↓ak,ax,simprocAttr]
       refine bY (C5 s a0 3 b _ y0 (by omega) aQ wM) ?_
       rintro x ah w
       have g1:=wg w
       obtain ⟨k,n,t,rfl,_⟩:=w.res
       simp +contextual only [g1,ag,bX,cX,f0,f1,↓ak,ax,simprocAttr]
       exact w.store gn
   · have wh:=aG
     rw [Bool.not_eq_true,Bool.or_eq_false_iff,decide_eq_false_iff_not] at wh
     obtain ⟨abO,abP⟩:=wh
     simp +contextual only [ag,bX,cX,f0,f1,j5,r0,ae,abO,abP,List.getElem?_eq_getElem bb,Int.toNat_natCast,↓ak,ax,simprocAttr]
     refine fq (N6 _ _) ?_
     cases ba:lQ ((s[a0]).toNat:Int) with
     | true=>
       have dS:gA (s[a0]::s.drop (a0+1))=jo 4 (s.drop a0):=by rw [aZ];simp only [gA,ab,ae,aG,ba,Bool.false_eq_true,if_false,if_true]
       rw [dS]
       simp +contextual only [ag,bX,cX,f0,f1,List.getElem?_eq_getElem bb,Int.toNat_natCast,↓ak,ax,simprocAttr]
       refine bY (C5 s a0 4 b _ y0 (by omega) aQ wM) ?_
       rintro x ah w
       have g1:=wg w
       obtain ⟨k,n,t,rfl,_⟩:=w.res
       simp +contextual only [g1,ag,bX,cX,f0,f1,↓ak,ax,simprocAttr]
       exact w.store gn
     | false=>
       have b3:IntKind.i64.wrap ((a0:Int)+1)=((a0+1:Nat):Int):=by rw [wrap_i64 (by omega) (by omega)];rfl
       have f2:(0≤((a0+1:Nat):Int))=True:=eq_true (by omega)
       by_cases cz:s[a0]=39∧k5 (s.drop (a0+1))
       · have dS:gA (s[a0]::s.drop (a0+1))=(jo 5 (s.drop (a0+1))).map fun q=>(q.1,q.2.1,q.2.2.1,q.2.2.2+1):=by simp only [gA];rw [if_neg (by rw [ab];exact Bool.false_ne_true),if_neg ae,if_neg aG,if_neg (by rw [ba];exact Bool.false_ne_true),if_pos cz]
         rw [dS]
         obtain ⟨Ca,Cb⟩:=cz
         replace Ca:=eq_true Ca
         have aL:a0+1<s.length:=by
          by_cases q:a0+1<s.length
          · exact q
          · rw [List.drop_eq_nil_of_le (by omega)] at Cb
            cases Cb
         rw [drop_cons aL] at Cb
         have f3:(((a0+1:Nat):Int) < (s.length:Int))=True:=eq_true (by omega)
         simp +contextual (maxSteps:=1000000) only [ag,bX,cX,f0,f1,f2,f3,b3,j5,r0,vV,ae,Ca,List.getElem?_eq_getElem bb,List.getElem?_eq_getElem aL,Int.toNat_natCast,↓ak,ax,simprocAttr]
         refine fq (DS _ _) ?_
         rw [show gC ((s[a0+1]).toNat:Int)=true from Cb]
         simp +contextual (maxSteps:=1000000) only [ag,bX,cX,f0,f1,f2,f3,b3,j5,r0,vV,ae,Ca,List.getElem?_eq_getElem bb,List.getElem?_eq_getElem aL,Int.toNat_natCast,↓ak,ax,simprocAttr]
         have OP:Mod (fun q=>q=b) (h.new (.a1 [.int .i64 0,.int .i64 0,.int .i64 0,.str []] 0 false)) ((h.new (.a1 [.int .i64 0,.int .i64 0,.int .i64 0,.str []] 0 false)).set b (.a1 [.str s,.int .i64 ((a0+1:Nat):Int),.int .i64 0] 0 false)):=(Mod.refl _ _).self _
         refine bY (C5 s (a0+1) 5 b _ (by rw [c4,if_pos rfl];rfl) (by omega) aQ (OP.b1 wM)) ?_
         rintro x ah w
         have ao:m' s a0 b (h.new (.a1 [.int .i64 0,.int .i64 0,.int .i64 0,.str []] 0 false)) ((jo 5 (s.drop (a0+1))).map fun q=>(q.1,q.2.1,q.2.2.1,q.2.2.2+1)) x ah:=by
          obtain ⟨akW,k,n,t,ak6,wr⟩:=w
          refine ⟨OP.trans akW,k,n,t,ak6,?_⟩
          cases aU:jo 5 (s.drop (a0+1)) with
          | error e=>rw [aU] at wr;exact wr
          | ok q=>
            rw [aU] at wr
            obtain ⟨bl,bT,cg,c7,c1⟩:=wr
            refine ⟨bl,bT,cg,?_,?_⟩
            · rw [c7]
              show eY s ((a0+1+q.2.2.2:Nat):Int) 0=eY s ((a0 + (q.2.2.2+1):Nat):Int) 0
              rw [show a0+1+q.2.2.2=a0 + (q.2.2.2+1) from by omega]
            · show a0 + (q.2.2.2+1)≤s.length
              omega
         have g1:=wg ao
         obtain ⟨k,n,t,rfl,_⟩:=ao.res
         simp +contextual only [g1,ag,bX,cX,f0,f1,↓ak,ax,simprocAttr]
         exact ao.store gn
       · have dS:gA (s[a0]::s.drop (a0+1))=xD (s.drop a0):=by rw [aZ];simp only [gA];rw [if_neg (by rw [ab];exact Bool.false_ne_true),if_neg ae,if_neg aG,if_neg (by rw [ba];exact Bool.false_ne_true),if_neg cz]
         rw [dS]
         have acf:((s[a0]=39)=False)∨(((s[a0]=39)=True)∧¬a0+1<s.length)∨(((s[a0]=39)=True)∧∃aL:a0+1<s.length,gC ((s[a0+1]).toNat:Int)=false):=by
          by_cases q:s[a0]=39
          · by_cases aL:a0+1<s.length
            · refine .inr (.inr ⟨eq_true q,aL,?_⟩)
              cases aA:gC ((s[a0+1]).toNat:Int) with
              | false=>rfl
              | true=>exact absurd ⟨q,by rw [drop_cons aL];exact aA⟩ cz
            · exact .inr (.inl ⟨eq_true q,aL⟩)
          · exact .inl (eq_false q)
         have two:∀t ∈ iF,t.length≤2:=by decide
         have qD:((17:Nat):Int)=17:=rfl
         rcases acf with an | ⟨an,az⟩ | ⟨an,aL,az⟩
         case' neg.inl=>
          simp +contextual (maxSteps:=1000000) only [ag,bX,cX,f0,f1,f2,b3,j5,r0,vV,ae,an,List.getElem?_eq_getElem bb,Int.toNat_natCast,↓ak,ax,simprocAttr]
         case' neg.inr.inl=>
          have f3:(((a0+1:Nat):Int) < (s.length:Int))=False:=eq_false (by omega)
          simp +contextual (maxSteps:=1000000) only [ag,bX,cX,f0,f1,f2,f3,b3,j5,r0,vV,ae,an,List.getElem?_eq_getElem bb,Int.toNat_natCast,↓ak,ax,simprocAttr]
         case' neg.inr.inr=>
          have f3:(((a0+1:Nat):Int) < (s.length:Int))=True:=eq_true (by omega)
          simp +contextual (maxSteps:=1000000) only [ag,bX,cX,f0,f1,f2,f3,b3,j5,r0,vV,ae,an,List.getElem?_eq_getElem bb,List.getElem?_eq_getElem aL,Int.toNat_natCast,↓ak,ax,simprocAttr]
          refine fq (DS _ _) ?_
          rw [az]
          simp +contextual (maxSteps:=1000000) only [ag,bX,cX,f0,f1,f2,f3,b3,j5,r0,vV,ae,an,List.getElem?_eq_getElem bb,List.getElem?_eq_getElem aL,Int.toNat_natCast,↓ak,ax,simprocAttr]
         all_goals
          refine bY (ajG _) ?_
          rintro x ah ⟨rfl,rfl⟩
          simp +contextual only [↓ak,ax,simprocAttr]
          refine fG (fun r aa=>r 0=.ptr b 0∧r 2=.ptr (al h.next) 0∧r 77=.slice (al (h.next+1)) 0 17 17∧r 78=.int .i64 17∧∃i:Nat,i≤17∧r 79=.int .i64 i∧aa=(h.new (.a1 [.int .i64 0,.int .i64 0,.int .i64 0,.str []] 0 false)).new (.a1 xE 0 false)∧
           iF.find? (·.isPrefixOf (s.drop a0))=(iF.drop i).find? (·.isPrefixOf (s.drop a0))) (fun r aa=>17 - (r 79).toN) ?_ ?_
          · exact ⟨by simp only [↓ak,ax,simprocAttr],by simp only [↓ak,ax,simprocAttr],by simp only [↓ak,ax,simprocAttr],by simp only [qD,↓ak,ax,simprocAttr],0,by omega,by simp only [↓ak,ax,simprocAttr]<;>rfl,rfl,rfl⟩
          · rintro r aa ⟨bE,bT,Dy,Dz,i,aC,DA,rfl,sa⟩
            unfold Mj
            have OS:Old ((h.new (.a1 [.int .i64 0,.int .i64 0,.int .i64 0,.str []] 0 false)).new (.a1 xE 0 false)) b:=(aq.new _).b1 gn
            have t':((h.new (.a1 [.int .i64 0,.int .i64 0,.int .i64 0,.str []] 0 false)).new (.a1 xE 0 false)).get b=.a1 [.str s,.int .i64 a0,.int .i64 0] 0 false:=by rw [(aq.new _).get _ gn,ag]
            have z1:(b=al (h.next+1))=False:=z6 gn (by omega)
            have Br:(al (h.next+1)=b)=False:=by rw [←z1];exact propext eq_comm
            by_cases iQ:i<17
            · have g0:((i:Int)<17)=True:=eq_true (by omega)
              have g1:(0≤(i:Int))=True:=eq_true (by omega)
              rw [aa2 _ iQ] at sa
              have hlen:=two _ (List.getElem_mem (h:=(show i<iF.length from iQ)))
              simp +contextual only [qD,bE,bT,Dy,Dz,DA,g0,g1,bX,cX,z1,Br,Int.toNat_natCast,Nat.mul_one,ajE iQ,↓ak,ax,simprocAttr]
              refine fq (He s _ (a0:Int) [.int .i64 0] b 0 false _ t' (by omega) (by omega)) ?_
              rw [Int.toNat_natCast]
              cases pM:(iF[i]'iQ).isPrefixOf (s.drop a0) with
              | true=>
                rw [pM,if_pos rfl] at sa
                have h8:(iF[i]'iQ).length≤s.length-a0:=by
                 rw [List.isPrefixOf_iff_prefix] at pM
                 have:=pM.length_le
                 rwa [List.length_drop] at this
                have kk:IntKind.i64.wrap ((a0:Int) + ((iF[i]'iQ).length:Int))=((a0 + (iF[i]'iQ).length:Nat):Int):=by rw [wrap_i64 (by omega) (by omega)];rfl
                simp +contextual only [qD,bE,bT,Dy,Dz,DA,g0,g1,kk,bX,cX,z1,Br,ag,↓ak,ax,simprocAttr]
                unfold xD
                rw [sa]
                refine ⟨(((aq.new _).mod _).self _).fresh (Nat.le_refl _) _,_,_,_,rfl,rfl,rfl,rfl,?_,by show a0 + (iF[i]'iQ).length≤s.length;omega⟩
                simp only [eY,bX,cX,↓ak,ax,simprocAttr]
              | false=>
                rw [pM,if_neg Bool.false_ne_true] at sa
                have kk:IntKind.i64.wrap ((i:Int)+1)=((i+1:Nat):Int):=by rw [wrap_i64 (by omega) (by omega)];rfl
                simp +contextual only [qD,bE,bT,Dy,Dz,DA,g0,g1,kk,bX,cX,z1,Br,ag,↓ak,ax,simprocAttr]
                exact ⟨⟨i+1,by omega,rfl,sa⟩,by omega⟩
            · obtain rfl:i=17:=by omega
              have da:iF.find? (·.isPrefixOf (s.drop a0))=none:=by rw [sa];rfl
              have g0:((17:Int)<17)=False:=eq_false (by omega)
              simp +contextual only [qD,bE,bT,Dy,Dz,DA,g0,t',bX,cX,z1,Br,ag,↓ak,ax,simprocAttr]
              unfold xD
              rw [da]
              refine ⟨(((aq.new _).mod _).self _).fresh (Nat.le_refl _) _,_,_,_,rfl,by decide,(a0:Int),?_⟩
              simp only [eY,bX,cX,↓ak,ax,simprocAttr]
theorem N0 (s:List UInt8) (i:Nat):(ByteArray.mk ⟨s⟩).get! i=(s[i]?).getD 0:=by
 show (Array.mk s)[i]! =_
 simp
 rfl
theorem aaf (s:List UInt8) (a:Nat):Lib.decodeGo ⟨⟨s.drop a⟩⟩=if a<s.length then decodeL s a else (65533,0):=by
 unfold Lib.decodeGo decodeL
 have bo:(ByteArray.mk ⟨s.drop a⟩).size=s.length-a:=by
  show (s.drop a).length=_
  rw [List.length_drop]
 have pQ:(ByteArray.mk ⟨s⟩).size=s.length:=rfl
 by_cases bq:a<s.length
 · rw [if_pos bq,if_neg (by rw [bo];omega),Lib.decode_at,Lib.decode_at,bo,pQ]
   simp only [N0,List.getElem?_drop,Nat.add_zero,Nat.sub_zero,Nat.zero_add]
 · rw [if_neg bq,if_pos (by rw [bo];omega)]
theorem ahm {h:af} {b:aP} {s:List UInt8} {a:Nat} (aH:h.get b=.iter s a):
 uS (.ptr b 0) h=if a<s.length then .val (.tuple [.bool true,.int .i64 a,.int .i32 (decodeL s a).1]) (h.set b (.iter s (a + (decodeL s a).2))) else .val (.tuple [.bool false]) h:=by
 unfold uS
 simp only [V.h',aH]
 rw [show Nat.beq 0 0=true from rfl]
 simp only [cond_true]
 by_cases bq:a<s.length
 · rw [if_pos bq,show Nat.blt a s.length=true from by rw [Nat.blt_eq];exact bq]
   rfl
 · rw [if_neg bq,show Nat.blt a s.length=false from by rw [←Bool.not_eq_true,Nat.blt_eq];exact bq]
   rfl
def aep (s:List UInt8):cb→Nat
 | .iter _ a=>s.length-a
 | _=>0
theorem aad (s:List UInt8) (a:Nat):1≤(decodeL s a).2:=by
 unfold decodeL
 rw [Lib.decode_at]
 unfold Lib.decodeN
 repeat' split
 all_goals simp
theorem ai_ (s:List UInt8) (aQ:s.length≤100000) (h:af):bB Tryz.prog 123 [.str s] h fun x aa=>x=.int .i64 (sM s:Nat)∧Ext h aa:=by
 refine Wi rfl (cL ?_)
 unfold Fl
 simp +contextual only [↓ak,ax,simprocAttr]
 refine fG (fun r aa=>r 0=.str s∧r 8=.ptr (al h.next) 0∧Ext h aa∧∃a,aa.get (al h.next)=.iter s a∧sM s=p3 s a) (fun r aa=>aep s (aa.get (al h.next))) ?_ ?_
 · exact ⟨by simp only [↓ak,ax,simprocAttr],by simp only [↓ak,ax,simprocAttr],(Ext.refl h).new _,0,by simp only [↓ak,ax,simprocAttr],rfl⟩
 · rintro r aa ⟨bE,jT,aq,a,aH,bq⟩
   unfold Mh
   have k_:=ahm aH
   by_cases aL:a<s.length
   · rw [if_pos aL] at k_
     have ah:=aad s a
     by_cases aI:(decodeL s a).1=65533
     · have oj:(((decodeL s a).1:Int)=65533)=True:=eq_true (by omega)
       have f0:(0≤(a:Int))=True:=eq_true (by omega)
       have f1:((a:Int)≤(s.length:Int))=True:=eq_true (by omega)
       simp +contextual only [bE,jT,k_,oj,f0,f1,Int.toNat_natCast,↓ak,ax,simprocAttr]
       refine fq (aae _ _) ?_
       rw [aaf,if_pos aL]
       by_cases hw:(decodeL s a).2=1
       · have Iq:(((decodeL s a).2:Int)=1)=True:=eq_true (by omega)
         have tU:lM s a=0:=by unfold lM;rw [if_pos (Prod.ext aI hw)]
         rw [ai' aL tU] at bq
         simp +contextual only [bE,jT,k_,oj,Iq,f0,f1,Int.toNat_natCast,↓ak,ax,simprocAttr]
         rw [bq]
         exact ⟨rfl,aq.set (Nat.le_refl _) _⟩
       · have Iq:(((decodeL s a).2:Int)=1)=False:=eq_false (by omega)
         have tU:lM s a=(decodeL s a).2:=by unfold lM;rw [if_neg (fun q=>hw (congrArg Prod.snd q))]
         rw [J1 aL (by rw [tU];omega),tU] at bq
         simp +contextual only [bE,jT,k_,oj,Iq,f0,f1,Int.toNat_natCast,↓ak,ax,simprocAttr]
         refine ⟨⟨aq.set (Nat.le_refl _) _,_,rfl,bq⟩,?_⟩
         rw [aH]
         show s.length - (a + (decodeL s a).2)<s.length-a
         omega
     · have oj:(((decodeL s a).1:Int)=65533)=False:=eq_false (by omega)
       have tU:lM s a=(decodeL s a).2:=by unfold lM;rw [if_neg (fun q=>aI (congrArg Prod.fst q))]
       rw [J1 aL (by rw [tU];omega),tU] at bq
       simp +contextual only [bE,jT,k_,oj,Int.toNat_natCast,↓ak,ax,simprocAttr]
       refine ⟨⟨aq.set (Nat.le_refl _) _,_,rfl,bq⟩,?_⟩
       rw [aH]
       show s.length - (a + (decodeL s a).2)<s.length-a
       omega
   · rw [if_neg aL] at k_
     rw [RZ (by omega)] at bq
     simp +contextual only [bE,jT,k_,Int.toNat_natCast,↓ak,ax,simprocAttr]
     rw [bq]
     exact ⟨rfl,aq⟩
def ch.enc (w:ch):List V:=[.int .i64 w.kind,.int .i64 w.num,.int .i64 w.pos,.str w.text]
def oW:List ch→List V
 | []=>[]
 | w::ws=>w.enc++oW ws
theorem Tf:∀a b:List ch,oW (a++b)=oW a++oW b
 | [],b=>rfl
 | w::a,b=>by simp only [oW,List.cons_append,Tf a b,List.append_assoc]
def sH (ws:List ch):Except (Int × Nat) (List ch)→Except (Int × Nat) (List ch)
 | .ok b4=>.ok (ws++b4)
 | .error e=>.error e
theorem aiu (ws:List ch) (w:ch) (r:Except (Int × Nat) (List ch)):sH ws (yM w r)=sH (ws++[w]) r:=by
 cases r with
 | ok b4=>simp [sH,yM]
 | error e=>rfl
theorem aiv (r:Except (Int × Nat) (List ch)):sH [] r=r:=by cases r<;>rfl
def TW (s:List UInt8) (h:af) (x:V) (aa:af):Prop:=Ext h aa∧match mC s with
 | .ok ws=>∃v,x=.tuple [v,.agg [.int .i64 0,.int .i64 0]]∧du h.next aa 4 v ws.length (oW ws)
 | .error e=>x=.tuple [.b6,.agg [.int .i64 e.1,.int .i64 e.2]]
theorem L8 (c:UInt8):(0≤Lib.indexByte [9,10,13,32] c)=(blank c=true):=by
 have bb:∀d:UInt8,(d == c)=decide (c=d):=fun d=>by
  by_cases q:c=d
  · subst q;simp
  · have ej:¬d=c:=fun e=>q e.symm
    simp [q,ej]
 simp only [Lib.indexByte,bb,blank]
 by_cases ab:c=9
 · subst ab;decide
 · by_cases ae:c=10
   · subst ae;decide
   · by_cases aG:c=13
     · subst aG;decide
     · by_cases ba:c=32
       · subst ba;decide
       · simp [ab,ae,aG,ba]
theorem agP (s:List UInt8) (h:af):bB Tryz.prog 104 [.str s] h (TW s h):=by
 refine V2 rfl (cL ?_)
 unfold Ff
 by_cases OF:(65536:Int) < (s.length:Int)
 · simp +contextual only [OF,↓ak,ax,simprocAttr]
   refine ⟨((Ext.refl h).new _).set (Nat.le_refl _) _,?_⟩
   unfold mC
   rw [if_pos (by omega)]
   rfl
 simp +contextual only [OF,↓ak,ax,simprocAttr]
 refine bY (ai_ s (by omega) _) ?_
 rintro x ab ⟨rfl,Ir⟩
 have aq:Ext h (h.new (.a1 [.int .i64 0,.int .i64 0] 0 false)):=(Ext.refl h).new _
 have w0:=aq.trans Ir
 have g1:ab.get (al h.next)=.a1 [.int .i64 0,.int .i64 0] 0 false:=by
  rw [Ir.get _ (eI (by rw [eU];omega))]
  simp only [↓ak,ax,simprocAttr]
 have uT:h.next+1≤ab.next:=Ir.next
 have cA:(al ab.next=al h.next)=False:=by rw [q_];exact eq_false (by omega)
 have cp:(al h.next=al ab.next)=False:=by rw [q_];exact eq_false (by omega)
 have mD:(ab.next=h.next)=False:=eq_false (by omega)
 have mE:(h.next=ab.next)=False:=eq_false (by omega)
 have hlen:¬65536<s.length:=by omega
 by_cases aJ:sM s<s.length
 · have qW:((sM s:Int) < (s.length:Int))=True:=eq_true (by omega)
   simp +contextual only [qW,g1,cA,cp,mD,mE,↓ak,ax,simprocAttr]
   refine ⟨w0.set (Nat.le_refl _) _,?_⟩
   unfold mC
   rw [if_neg hlen,if_pos aJ]
 have qW:((sM s:Int) < (s.length:Int))=False:=eq_false (by omega)
 have kA:mC s=pX s 0:=by unfold mC;rw [if_neg hlen,if_neg aJ]
 simp +contextual only [qW,g1,cA,cp,mD,mE,↓ak,ax,simprocAttr]
 have adU:Ext h (ab.new (.a1 [.str s,.int .i64 0,.int .i64 0] 0 false)):=w0.new _
 refine fG (fun r aa=>r 0=.str s∧r 3=.ptr (al h.next) 0∧r 5=.ptr (al ab.next) 0∧∃(a:Nat) (ws:List ch) (v:V),r 6=v∧aa.get (al ab.next)=.a1 [.str s,.int .i64 a,.int .i64 0] 0 false∧a≤s.length∧ws.length≤a∧
  aa.get (al h.next)=.a1 [.int .i64 0,.int .i64 0] 0 false∧Ext h aa∧ab.next+1≤aa.next∧du (ab.next+1) aa 4 v ws.length (oW ws)∧mC s=sH ws (pX (s.drop a) a))
  (fun r aa=>s.length - ((iw (aa.get (al ab.next)) 1).getD .bad).toN) ?_ ?_
 · refine ⟨by simp only [↓ak,ax,simprocAttr],by simp only [↓ak,ax,simprocAttr],by simp only [↓ak,ax,simprocAttr],0,[],.b6,by simp only [↓ak,ax,simprocAttr],by simp only [↓ak,ax,simprocAttr]<;>rfl,by omega,by simp,by simp only [g1,cA,mD,cp,mE,↓ak,ax,simprocAttr],adU,?_,⟨rfl,rfl⟩,?_⟩
   · rw [eU];exact Nat.le_refl _
   · rw [kA,List.drop_zero,aiv]
 · rintro r aa ⟨bE,cg,c1,a,ws,v,eQ,aH,bz,kw,bo,CH,k_,dO,bF⟩
   unfold Mf
   have gn:Old aa (al ab.next):=eI (by omega)
   by_cases fL:(s.length:Int)≤(a:Int)
   · have bq:a=s.length:=by omega
     have Cv:mC s=.ok ws:=by
      rw [bF,bq,List.drop_length]
      show Except.ok (ws++[])=_
      rw [List.append_nil]
     simp +contextual only [bE,cg,c1,eQ,aH,bo,fL,cA,cp,mD,mE,↓ak,ax,simprocAttr]
     refine ⟨CH.set (Nat.le_refl _) _,?_⟩
     rw [Cv]
     refine ⟨v,rfl,?_⟩
     have:=dO.mod ((Mod.refl (fun q=>q=al h.next) aa).self (.a1 [.int .i64 0,.int .i64 0] 0 false)) (fun q aA e=>by
      have ae:=dO.base aA
      rw [show q=al h.next from e,cK] at ae
      omega)
     exact this.mono (by omega)
   · have aL:a<s.length:=by omega
     rw [drop_cons aL,Qd,←drop_cons aL] at bF
     have f0:(0≤(a:Int))=True:=eq_true (by omega)
     have f1:((a:Int) < (s.length:Int))=True:=eq_true (by omega)
     have b3:IntKind.i64.wrap ((a:Int)+1)=((a+1:Nat):Int):=by rw [wrap_i64 (by omega) (by omega)];rfl
     simp +contextual only [bE,cg,c1,eQ,aH,bo,fL,cA,cp,mD,mE,f0,f1,List.getElem?_eq_getElem aL,Int.toNat_natCast,↓ak,ax,simprocAttr]
     refine fq (Pq _ _ _) ?_
     rw [S1]
     by_cases Ci:blank s[a]=true
     · have Hj:(0≤Lib.indexByte [9,10,13,32] s[a])=True:=by rw [L8,Ci];exact eq_self _
       rw [if_pos Ci] at bF
       simp +contextual only [Hj,b3,bE,cg,c1,eQ,aH,bo,fL,cA,cp,mD,mE,f0,f1,List.getElem?_eq_getElem aL,Int.toNat_natCast,↓ak,ax,simprocAttr]
       refine ⟨⟨a+1,ws,rfl,by omega,by omega,CH.set (by omega) _,k_,?_,bF⟩,by omega⟩
       exact dO.mod ((Mod.refl (fun q=>q=al ab.next) aa).self _) (fun q aA e=>by
        have ae:=dO.base aA
        rw [show q=al ab.next from e,cK] at ae
        omega)
     · have Hj:(0≤Lib.indexByte [9,10,13,32] s[a])=False:=by rw [L8];exact eq_false Ci
       rw [if_neg Ci] at bF
       simp +contextual only [Hj,b3,bE,cg,c1,eQ,aH,bo,fL,cA,cp,mD,mE,f0,f1,List.getElem?_eq_getElem aL,Int.toNat_natCast,↓ak,ax,simprocAttr]
       have zn:=He s [40,42] (a:Int) [.int .i64 0] (al ab.next) 0 false aa aH (by omega) (by omega)
       rw [Int.toNat_natCast] at zn
       refine fq zn ?_
       cases pM:([40,42]:List UInt8).isPrefixOf (s.drop a) with
       | true=>
         rw [pM,if_pos rfl] at bF
         simp +contextual only [b3,bE,cg,c1,eQ,aH,bo,fL,cA,cp,mD,mE,f0,f1,List.getElem?_eq_getElem aL,Int.toNat_natCast,↓ak,ax,simprocAttr]
         refine bY (ahx s a 0 (al ab.next) aa aH bz (by omega) gn) ?_
         rintro x ae ⟨rfl,hm,aU⟩
         have pQ:ae.get (al h.next)=.a1 [.int .i64 0,.int .i64 0] 0 false:=by rw [hm.get _ (eI (by omega)) (by rw [cp];exact id),bo]
         have CF:Ext h ae:=CH.ke hm (fun b ag=>by rw [show b=al ab.next from ag,cK];omega)
         have p1:=hm.next
         have j9:=dO.mod hm (fun q aA e=>by
          have ae:=dO.base aA
          rw [show q=al ab.next from e,cK] at ae
          omega)
         cases HX:hO (s.drop a) 0 with
         | some n=>
           rw [HX] at aU bF
           obtain ⟨g2,hle⟩:=aU
           have zm:=C_ HX
           unfold eY at g2
           simp +contextual only [b3,bE,cg,c1,eQ,g2,aH,pQ,fL,cA,cp,mD,mE,f0,f1,List.getElem?_eq_getElem aL,Int.toNat_natCast,↓ak,ax,simprocAttr]
           refine ⟨⟨a+n,ws,rfl,hle,by omega,CF,by omega,j9,?_⟩,by omega⟩
           rw [bF]
           simp only [List.drop_drop]
         | none=>
           rw [HX] at aU bF
           unfold eY at aU
           simp +contextual only [b3,bE,cg,c1,eQ,aU,aH,pQ,fL,cA,cp,mD,mE,f0,f1,List.getElem?_eq_getElem aL,Int.toNat_natCast,↓ak,ax,simprocAttr]
           refine ⟨CF.set (Nat.le_refl _) _,?_⟩
           rw [bF]
           rfl
       | false=>
         rw [pM,if_neg Bool.false_ne_true] at bF
         simp +contextual only [b3,bE,cg,c1,eQ,aH,bo,fL,cA,cp,mD,mE,f0,f1,List.getElem?_eq_getElem aL,Int.toNat_natCast,↓ak,ax,simprocAttr]
         refine bY (aho s a (al ab.next) aa aH aL (by omega) gn) ?_
         rintro x ae w
         obtain ⟨hm,k,n,t,rfl,wQ⟩:=w
         have pQ:ae.get (al h.next)=.a1 [.int .i64 0,.int .i64 0] 0 false:=by rw [hm.get _ (eI (by omega)) (by rw [cp];exact id),bo]
         have CF:Ext h ae:=CH.ke hm (fun b ag=>by rw [show b=al ab.next from ag,cK];omega)
         have p1:=hm.next
         have j9:=dO.mod hm (fun q aA e=>by
          have ae:=dO.base aA
          rw [show q=al ab.next from e,cK] at ae
          omega)
         have m0:(al ae.next=al h.next)=False:=by rw [q_];exact eq_false (by omega)
         have m1:(al ae.next=al ab.next)=False:=by rw [q_];exact eq_false (by omega)
         have Qm:(ae.next=h.next)=False:=eq_false (by omega)
         have Qp:(ae.next=ab.next)=False:=eq_false (by omega)
         have CG:Ext ae (((ae.new (.a1 [.int .i64 0,.int .i64 0,.int .i64 0,.str []] 0 false)).set (al ae.next) (.a1 [.int .i64 k,.int .i64 n,.int .i64 0,.str t] 0 false)).set (al ae.next) (.a1 [.int .i64 k,.int .i64 n,.int .i64 a,.str t] 0 false)):=(((Ext.refl ae).new _).set (Nat.le_refl _) _).set (Nat.le_refl _) _
         obtain ⟨v3,aG,an,az,aN,bM,dL⟩:=yx (cs:=[.int .i64 k,.int .i64 n,.int .i64 a,.str t]) (by omega) (j9.ext CG) (by simp only [mF,eU];omega) (by unfold top;omega) rfl rfl
         simp only [mF,eU] at an bM
         have Pe:Ext h aG:=(CF.trans CG).ke aN (fun b ag=>Nat.le_trans (by omega) (j9.base ag))
         have zD:aG.get (al h.next)=.a1 [.int .i64 0,.int .i64 0] 0 false:=by
          rw [aN.get _ (eI (by simp only [mF,eU];omega)) (fun aA=>by have:=j9.base aA;rw [cK] at this;omega),CG.get _ (eI (by omega)),pQ]
         have lT:aG.get (al ab.next)=ae.get (al ab.next):=by
          rw [aN.get _ (eI (by simp only [mF,eU];omega)) (fun aA=>by have:=j9.base aA;rw [cK] at this;omega),CG.get _ (eI (by omega))]
         cases k_:gA (s.drop a) with
         | ok q=>
           have zm:=I8 k_
           rw [k_] at wQ bF
           obtain ⟨rfl,rfl,rfl,g2,hle⟩:=wQ
           unfold eY at g2
           rw [g2] at lT
           simp +contextual only [an,m0,m1,Qm,Qp,b3,bE,cg,c1,eQ,g2,lT,aH,pQ,fL,cA,cp,mD,mE,f0,f1,List.getElem?_eq_getElem aL,Int.toNat_natCast,↓ak,ax,simprocAttr]
           refine ⟨⟨a+q.2.2.2,ws++[⟨q.1,q.2.1,a,q.2.2.1⟩],rfl,hle,by simp;omega,zD,Pe,by omega,?_,?_⟩,by omega⟩
           · rw [List.length_append,Tf]
             exact az
           · rw [bF,aiu]
             simp only [List.drop_drop]
         | error e=>
           rw [k_] at wQ bF
           obtain ⟨he,bm,g2⟩:=wQ
           unfold eY at g2
           rw [g2] at lT
           simp +contextual only [he,an,m0,m1,Qm,Qp,b3,bE,cg,c1,eQ,g2,lT,zD,aH,pQ,fL,cA,cp,mD,mE,f0,f1,List.getElem?_eq_getElem aL,Int.toNat_natCast,↓ak,ax,simprocAttr]
           refine ⟨Pe.set (Nat.le_refl _) _,?_⟩
           rw [bF]
           rfl
def DY (L:List (List UInt8)):List V:=L.map V.str
theorem PS (h:af):bB Tryz.prog 108 [] h fun x aa=>x=.slice (al h.next) 0 20 20∧aa=h.new (.a1 (DY sq) 0 false):=by
 refine Wc rfl (cL ?_)
 unfold Fj
 simp +contextual only [↓ak,ax,simprocAttr]
 rfl
theorem SK {L:List (List UInt8)} {i:Nat} (aC:i<L.length):(DY L)[i]? =some (.str L[i]):=by
 unfold DY
 rw [List.getElem?_map,List.getElem?_eq_getElem aC]
 rfl
theorem aau {t:List UInt8} {L:List (List UInt8)} {i:Nat} (aC:i<L.length):(L.drop i).contains t=(decide (L[i]=t)||(L.drop (i+1)).contains t):=by
 rw [List.drop_eq_getElem_cons aC,List.contains_cons]
 congr 1
 rw [Bool.eq_iff_iff]
 simp
 exact eq_comm
theorem Pp (t:List UInt8) (L:List (List UInt8)) (b:aP) (cap:Nat) (h:af) (ei:L.length≤100000) (aH:h.get b=.a1 (DY L) 0 false):
 fh Tryz.prog 107 [.str t,.slice b 0 L.length cap] h (.bool (L.contains t)) h:=by
 refine mJ (V_ rfl (cL ?_))
 unfold Fi
 simp +contextual only [↓ak,ax,simprocAttr]
 refine fG (fun r aa=>aa=h∧r 0=.str t∧r 1=.slice b 0 L.length cap∧∃i:Nat,r 5=.int .i64 i∧i≤L.length∧L.contains t=(L.drop i).contains t) (fun r aa=>L.length - (r 5).toN) ?_ ?_
 · exact ⟨rfl,by simp only [↓ak,ax,simprocAttr],by simp only [↓ak,ax,simprocAttr],0,by simp only [↓ak,ax,simprocAttr]<;>rfl,by omega,rfl⟩
 · rintro r aa ⟨rfl,bE,bl,i,c1,aC,bF⟩
   unfold Mg
   by_cases aL:i<L.length
   · have g0:((i:Int) < (L.length:Int))=True:=eq_true (by omega)
     have g1:(0≤(i:Int))=True:=eq_true (by omega)
     rw [aau aL] at bF
     by_cases he:L[i]=t
     · simp +contextual only [bE,bl,c1,g0,g1,aH,he,Int.toNat_natCast,Nat.mul_one,SK aL,↓ak,ax,simprocAttr]
       rw [bF]
       simp [he]
     · have w:IntKind.i64.wrap ((i:Int)+1)=((i+1:Nat):Int):=by rw [wrap_i64 (by omega) (by omega)];rfl
       simp +contextual only [bE,bl,c1,g0,g1,aH,he,w,Int.toNat_natCast,Nat.mul_one,SK aL,↓ak,ax,simprocAttr]
       refine ⟨⟨i+1,rfl,aL,?_⟩,by omega⟩
       rw [bF]
       simp [he]
   · have g0:((i:Int) < (L.length:Int))=False:=eq_false (by omega)
     rw [List.drop_eq_nil_of_le (by omega)] at bF
     rw [bF]
     simp +contextual only [bE,bl,c1,g0,↓ak,ax,simprocAttr]
     rfl
def y7:List UInt8→Bool
 | d::_=>lQ d.toNat
 | []=>false
def iB (k:Int) (s:List UInt8):Bool:=
 decide (s≠[])&&decide (s.length≤64)&&s.all e4&&(if k=3 then (k5 s||s.head? == some 95)&&!decide (s=[95])&&!ny s else if k=4 then y7 s else k5 s)
def Qc (c:Int):Bool:=l_ c 97 122||l_ c 65 90||l_ c 48 57||decide (c=95)||decide (c=39)
theorem agM (c:UInt8):Qc (c.toNat:Int)=e4 c:=by
 unfold Qc e4 sr l_ lN gC lQ
 generalize (c.toNat:Int)=x
 cases decide (97≤x)<;>cases decide (x≤122)<;>cases decide (65≤x)<;>cases decide (x≤90)<;>cases decide (48≤x)<;>cases decide (x≤57)<;>cases decide (x=95)<;>cases decide (x=39)<;>rfl
theorem acu {s:List UInt8} {c:UInt8} {r:List UInt8} (h:s=c::r):k5 s=gC c.toNat:=by rw [h];rfl
theorem ai0 (k:Int) (s:List UInt8) (aQ:s.length≤17179869184) (aE:k=3∨k=4∨k=5) (h:af):bB Tryz.prog 89 [.int .i64 k,.str s] h fun x aa=>x=.bool (iB k s)∧Ext h aa:=by
 refine Y3 rfl (cL ?_)
 unfold Gm
 by_cases ov:s=[]
 · subst ov
   simp +contextual only [↓ak,ax,simprocAttr]
   exact ⟨rfl,Ext.refl _⟩
 obtain ⟨c,r,zv⟩:=List.exists_cons_of_ne_nil ov
 have cS:(s=([]:List UInt8))=False:=eq_false ov
 have lf:s[0]? =some c:=by rw [zv];rfl
 by_cases hlen:(64:Int) < (s.length:Int)
 · have aU:iB k s=false:=by
    unfold iB
    rw [decide_eq_false (show ¬s.length≤64 by omega)]
    simp
   have HK:=eq_true hlen
   simp +contextual only [cS,HK,aU,↓ak,ax,simprocAttr]
   exact Ext.refl _
 have HK:=eq_false hlen
 simp +contextual only [cS,HK,↓ak,ax,simprocAttr]
 refine fG (fun r aa=>aa=h∧r 0=.int .i64 k∧r 1=.str s∧∃i:Nat,r 5=.int .i64 i∧i≤s.length∧s.all e4=(s.drop i).all e4) (fun r aa=>s.length - (r 5).toN) ?_ ?_
 · exact ⟨rfl,by simp only [↓ak,ax,simprocAttr],by simp only [↓ak,ax,simprocAttr],0,by simp only [↓ak,ax,simprocAttr]<;>rfl,by omega,rfl⟩
 · rintro R aa ⟨rfl,bE,bl,i,c1,aC,bF⟩
   unfold MC
   by_cases aL:i<s.length
   · have g0:((i:Int) < (s.length:Int))=True:=eq_true (by omega)
     have g1:(0≤(i:Int))=True:=eq_true (by omega)
     rw [List.drop_eq_getElem_cons aL,List.all_cons] at bF
     have w:IntKind.i64.wrap ((i:Int)+1)=((i+1:Nat):Int):=by rw [wrap_i64 (by omega) (by omega)];rfl
     simp +contextual only [bE,bl,c1,g0,g1,List.getElem?_eq_getElem aL,Int.toNat_natCast,↓ak,ax,simprocAttr]
     refine fq (TV _ _) ?_
     rw [show (l_ (s[i].toNat:Int) 97 122||l_ (s[i].toNat:Int) 65 90||l_ (s[i].toNat:Int) 48 57||decide ((s[i].toNat:Int)=95)||decide ((s[i].toNat:Int)=39))=e4 s[i] from agM _]
     cases ai:e4 s[i] with
     | true=>
       simp +contextual only [bE,bl,c1,w,↓ak,ax,simprocAttr]
       exact ⟨⟨i+1,rfl,aL,by rw [bF,ai,Bool.true_and]⟩,by omega⟩
     | false=>
       have aU:iB k s=false:=by
        unfold iB
        rw [bF,ai]
        simp
       simp +contextual only [aU,↓ak,ax,simprocAttr]
       exact Ext.refl _
   · have g0:((i:Int) < (s.length:Int))=False:=eq_false (by omega)
     rw [List.drop_eq_nil_of_le (by omega)] at bF
     have d_:s.all e4=true:=by rw [bF];rfl
     have f1:((0:Int) < (s.length:Int))=True:=eq_true (by rw [zv];simp only [List.length_cons];omega)
     have aU:iB k s=(if k=3 then (k5 s||s.head? == some 95)&&!decide (s=[95])&&!ny s else if k=4 then y7 s else k5 s):=by
      unfold iB
      rw [d_,decide_eq_true (show s.length≤64 by omega),decide_eq_true (show s≠[] from ov)]
      simp
     rw [aU]
     have ag:(k5 s||s.head? == some 95)=(gC c.toNat||decide (c=95)):=by
      rw [zv]
      show (gC c.toNat||(some c == some 95))=_
      congr 1
     have adC:k5 s=gC c.toNat:=acu zv
     have acK:y7 s=lQ c.toNat:=by rw [zv];rfl
     rw [ag]
     have hu:((c.toNat:Int)=95)=(c=95):=u' c 95 (by omega)
     rcases aE with rfl | rfl | rfl
     · simp +contextual only [bE,bl,c1,g0,f1,lf,Int.toNat_zero,if_true,↓ak,ax,simprocAttr]
       refine fq (xN _ _ _ _) ?_
       rw [show l_ (c.toNat:Int) 97 122=gC (c.toNat:Int) from rfl]
       cases my:gC (c.toNat:Int) with
       | false=>
         by_cases N':c=95
         · have oe:=eq_true N'
           by_cases ab:s=[95]
           · have fE:=eq_true ab
             simp +contextual only [bE,bl,my,hu,oe,fE,f1,lf,Int.toNat_zero,↓ak,ax,simprocAttr]
             exact Ext.refl _
           · have fE:=eq_false ab
             simp +contextual only [bE,bl,my,hu,oe,fE,f1,lf,Int.toNat_zero,↓ak,ax,simprocAttr]
             refine bY (PS _) ?_
             rintro x ab ⟨rfl,rfl⟩
             simp +contextual only [bE,bl,my,hu,oe,fE,f1,lf,↓ak,ax,simprocAttr]
             refine fq (Pp s sq _ 20 _ (by decide) (by rw [ku])) ?_
             have HG:sq.contains s=ny s:=rfl
             rw [HG]
             simp +contextual only [bE,bl,my,hu,oe,fE,↓ak,ax,simprocAttr]
             exact (Ext.refl _).new _
         · have oe:=eq_false N'
           simp +contextual only [bE,bl,my,hu,oe,f1,lf,Int.toNat_zero,↓ak,ax,simprocAttr]
           exact Ext.refl _
       | true=>
         have oe:True=True:=rfl
         by_cases ab:s=[95]
         · have fE:=eq_true ab
           simp +contextual only [bE,bl,my,hu,oe,fE,f1,lf,Int.toNat_zero,↓ak,ax,simprocAttr]
           exact Ext.refl _
         · have fE:=eq_false ab
           simp +contextual only [bE,bl,my,hu,oe,fE,f1,lf,Int.toNat_zero,↓ak,ax,simprocAttr]
           refine bY (PS _) ?_
           rintro x ab ⟨rfl,rfl⟩
           simp +contextual only [bE,bl,my,hu,oe,fE,f1,lf,↓ak,ax,simprocAttr]
           refine fq (Pp s sq _ 20 _ (by decide) (by rw [ku])) ?_
           have HG:sq.contains s=ny s:=rfl
           rw [HG]
           simp +contextual only [bE,bl,my,hu,oe,fE,↓ak,ax,simprocAttr]
           exact (Ext.refl _).new _
     · simp +contextual only [bE,bl,c1,g0,f1,lf,Int.toNat_zero,if_true,if_false,↓ak,ax,simprocAttr]
       refine fq (xN _ _ _ _) ?_
       rw [acK]
       simp +contextual only [↓ak,ax,simprocAttr]
       exact ⟨rfl,Ext.refl _⟩
     · simp +contextual only [bE,bl,c1,g0,f1,lf,Int.toNat_zero,if_true,if_false,↓ak,ax,simprocAttr]
       refine fq (xN _ _ _ _) ?_
       rw [adC]
       simp +contextual only [↓ak,ax,simprocAttr]
       exact ⟨rfl,Ext.refl _⟩
theorem Vr {s:List UInt8} (h:∀c ∈ s,c.toNat<128):sM s=s.length:=by
 have aI:∀a,a<s.length→lM s a=1:=by
  intro a bq
  have aZ:decodeL s a=((s[a]).toNat,1):=by
   unfold decodeL
   rw [Lib.decode_at]
   simp only [N0,List.getElem?_eq_getElem bq,Option.getD_some]
   unfold Lib.decodeN
   rw [if_pos (h _ (List.getElem_mem bq))]
  unfold lM
  rw [aZ,if_neg (by
   have:=h _ (List.getElem_mem bq)
   simp only [Prod.mk.injEq,and_true]
   omega)]
 have:∀n a,s.length-a=n→a≤s.length→p3 s a=s.length:=by
  intro n
  induction n with
  | zero=>intro a ab ae;exact RZ (by omega)
  | succ n bk=>
    intro a ab ae
    have aL:a<s.length:=by omega
    rw [J1 aL (by rw [aI a aL];decide),aI a aL]
    exact bk _ (by omega) (by omega)
 exact this s.length 0 (by omega) (by omega)
theorem agO {s:List UInt8} (h:∀c ∈ s,c.toNat<128):mC s=if 65536<s.length then .error (3,0) else pX s 0:=by
 unfold mC
 rw [Vr h,if_neg (Nat.lt_irrefl _)]
theorem ag4 {c:UInt8} (h:e4 c=true):blank c=false∧c≠40:=by
 constructor
 · cases ag:blank c with
   | false=>rfl
   | true=>
     unfold blank at ag
     simp only [Bool.or_eq_true,decide_eq_true_eq] at ag
     rcases ag with ((rfl | rfl) | rfl) | rfl<;>exact absurd h (by decide)
 · rintro rfl
   exact absurd h (by decide)
theorem ahr {c:UInt8} (h:c≠40) (r:List UInt8):([40,42]:List UInt8).isPrefixOf (c::r)=false:=by
 have:((40:UInt8) == c)=false:=by rw [beq_eq_false_iff_ne];exact fun q=>h q.symm
 simp [List.isPrefixOf,this]
theorem Su {c:UInt8} (h:gC c.toNat=true):e2 c=false∧c≠34:=by
 unfold gC at h
 simp only [Bool.and_eq_true,decide_eq_true_eq] at h
 refine ⟨?_,by rintro rfl;exact absurd h (by decide)⟩
 unfold e2 lN
 simp only [Bool.and_eq_false_iff,decide_eq_false_iff_not]
 omega
theorem abK {c:UInt8} (h:lQ c.toNat=true):e2 c=false∧c≠34∧gC c.toNat=false∧c≠95:=by
 unfold lQ at h
 simp only [Bool.and_eq_true,decide_eq_true_eq] at h
 refine ⟨?_,by rintro rfl;exact absurd h (by decide),?_,by rintro rfl;exact absurd h (by decide)⟩
 · unfold e2 lN
   simp only [Bool.and_eq_false_iff,decide_eq_false_iff_not]
   omega
 · unfold gC
   simp only [Bool.and_eq_false_iff,decide_eq_false_iff_not]
   omega
theorem QD {k:Int} {s:List UInt8} (h:iB k s=true):s≠[]∧s.length≤64∧s.all e4=true∧(if k=3 then (k5 s||s.head? == some 95)&&!decide (s=[95])&&!ny s else if k=4 then y7 s else k5 s)=true:=by
 unfold iB at h
 rw [Bool.and_eq_true,Bool.and_eq_true,Bool.and_eq_true,decide_eq_true_eq,decide_eq_true_eq] at h
 exact ⟨h.1.1.1,h.1.1.2,h.1.2,h.2⟩
theorem ahp {c:UInt8} {t:List UInt8} (h:gC c.toNat=true∨c=95):gA (c::t)=jo 3 (c::t):=by
 have aZ:e2 c=false:=h.elim (fun q=>(Su q).1) (fun q=>by rw [q];decide)
 have abN:c≠34:=h.elim (fun q=>(Su q).2) (fun q=>by rw [q];decide)
 have aQ:(gC c.toNat||decide (c=95))=true:=by simpa using h
 simp only [gA,aZ,aQ,if_neg abN,Bool.false_eq_true,if_false,if_true]
theorem Vq {c:UInt8} (h:e4 c=true):c.toNat<128:=by
 unfold e4 sr lN gC lQ at h
 simp only [Bool.or_eq_true,Bool.and_eq_true,decide_eq_true_eq] at h
 omega
theorem S0 {p:UInt8→Bool}:∀s:List UInt8,s.all p=true→s.takeWhile p=s
 | [],_=>rfl
 | c::s,h=>by
   rw [List.all_cons,Bool.and_eq_true] at h
   rw [List.takeWhile_cons,h.1,if_pos rfl,S0 s h.2]
theorem LP (p:UInt8→Bool):∀s:List UInt8,(s.takeWhile p).all p=true
 | []=>rfl
 | c::s=>by
   rw [List.takeWhile_cons]
   split
   · rename_i h;rw [List.all_cons,h,LP p s];rfl
   · rfl
theorem I4 {k:Int} {c:UInt8} {r:List UInt8} {q:Int × Int × List UInt8 × Nat} (aE:(k=3∧(gC c.toNat=true∨c=95))∨(k=4∧lQ c.toNat=true)∨(k=5∧gC c.toNat=true)) (h:jo k (c::r)=.ok q) (aA:q.1=3∨q.1=4∨q.1=5):
 q.1=k∧iB k q.2.2.1=true:=by
 have ai:e4 c=true:=by
  rcases aE with ⟨_,q | q⟩ | ⟨_,q⟩ | ⟨_,q⟩
  · exact Kd q
  · exact S4 q
  · exact N5 q
  · exact Kd q
 have aF:(c::r).takeWhile e4=c::r.takeWhile e4:=by rw [List.takeWhile_cons,if_pos ai]
 have bq:=LP e4 (c::r)
 rw [aF] at bq
 unfold jo at h
 simp only [aF] at h
 generalize r.takeWhile e4=t at *
 split at h
 · cases h;simp at aA
 · rename_i adn
   split at h
   · cases h;simp at aA
   · rename_i wP
     split at h
     · cases h
     · rename_i hlen
       cases h
       refine ⟨rfl,?_⟩
       have j_:(if k=3 then (k5 (c::t)||(c::t).head? == some 95)&&!decide (c::t=[95])&&!ny (c::t) else if k=4 then y7 (c::t) else k5 (c::t))=true:=by
        rcases aE with ⟨rfl,z⟩ | ⟨rfl,z⟩ | ⟨rfl,z⟩
        · rw [if_pos rfl]
          have ab:(k5 (c::t)||(c::t).head? == some 95)=true:=by
           rcases z with z | z
           · show (gC c.toNat||_)=true
             rw [z];rfl
           · subst z;simp
          rw [ab,decide_eq_false (fun z=>adn ⟨rfl,z⟩),Bool.eq_false_iff.2 (fun z=>wP ⟨rfl,z⟩)]
          rfl
        · exact z
        · exact z
       show iB k (c::t)=true
       unfold iB
       rw [j_,bq,decide_eq_true (show c::t≠[] by simp),decide_eq_true (show (c::t).length≤64 by omega)]
       rfl
theorem ahk {r:List UInt8} {q:Int × Int × List UInt8 × Nat} (h:gA r=.ok q) (aA:q.1=3∨q.1=4∨q.1=5):iB q.1 q.2.2.1=true:=by
 match r,h with
 | c::r,h=>
   simp only [gA] at h
   split at h
   · unfold xl at h
     simp only at h
     split at h
     · cases h
     · cases h;simp at aA
   · split at h
     · unfold rk at h
       split at h
       · cases h
       · split at h
         · cases h
         · cases h;simp at aA
     · split at h
       · rename_i aQ
         have:=I4 (.inl ⟨rfl,by simpa using aQ⟩) h aA
         rw [this.1];exact this.2
       · split at h
         · rename_i aQ
           have:=I4 (.inr (.inl ⟨rfl,aQ⟩)) h aA
           rw [this.1];exact this.2
         · split at h
           · rename_i aQ
             cases aU:jo 5 r with
             | error e=>rw [aU] at h;cases h
             | ok ej=>
               rw [aU] at h
               cases h
               obtain ⟨d,t,rfl⟩:∃d t,r=d::t:=by
                cases r with
                | nil=>simp [k5] at aQ
                | cons d t=>exact ⟨d,t,rfl⟩
               have:=I4 (.inr (.inr ⟨rfl,aQ.2⟩)) aU aA
               show iB ej.1 ej.2.2.1=true
               rw [this.1];exact this.2
           · unfold xD at h
             split at h
             · cases h;simp at aA
             · cases h
theorem CV:∀(f:Nat) (r:List UInt8) (p:Nat) (ws:List ch),mB f r p=.ok ws→∀w ∈ ws,w.kind=3∨w.kind=4∨w.kind=5→iB w.kind w.text=true
 | 0,r,p,ws,h,w,hw,_=>by simp only [mB,Except.ok.injEq] at h;subst h;cases hw
 | f+1,[],p,ws,h,w,hw,_=>by simp only [mB,Except.ok.injEq] at h;subst h;cases hw
 | f+1,c::r,p,ws,h,w,hw,aE=>by
   simp only [mB] at h
   split at h
   · exact CV f _ _ ws h w hw aE
   · split at h
     · split at h
       · cases h
       · exact CV f _ _ ws h w hw aE
     · split at h
       · cases h
       · rename_i q aU
         cases aJ:mB f ((c::r).drop q.2.2.2) (p+q.2.2.2) with
         | error aK=>rw [aJ] at h;cases h
         | ok b4=>
           rw [aJ] at h
           simp only [yM,Except.ok.injEq] at h
           subst h
           rcases List.mem_cons.1 hw with rfl | hw
           · exact ahk aU aE
           · exact CV f _ _ b4 aJ w hw aE
theorem aiY {k:Int} {s:List UInt8} (aE:k=3∨k=4∨k=5) (h:iB k s=true):mC (if k=5 then 39::s else s)=.ok [⟨k,0,0,s⟩]:=by
 obtain ⟨g1,g2,g3,g4⟩:=QD h
 obtain ⟨c,t,rfl⟩:=List.exists_cons_of_ne_nil g1
 have ab':∀d ∈ (if k=5 then 39::c::t else c::t),d.toNat<128:=by
  intro d aZ
  have ab:∀d ∈ c::t,d.toNat<128:=fun d aZ=>Vq (List.all_eq_true.1 g3 d aZ)
  split at aZ
  · rcases List.mem_cons.1 aZ with rfl | aZ
    · decide
    · exact ab d aZ
  · exact ab d aZ
 rw [agO ab',if_neg (by split<;>simp only [List.length_cons] at g2 ⊢<;>omega)]
 have ai:e4 c=true:=by rw [List.all_cons,Bool.and_eq_true] at g3;exact g3.1
 obtain ⟨cC,ck⟩:=ag4 ai
 have rd:∀j:Int,(j=3→c::t≠[95]∧ny (c::t)=false)→jo j (c::t)=.ok (j,0,c::t,(c::t).length):=by
  intro j bK
  unfold jo
  simp only [S0 _ g3]
  rw [if_neg (fun q=>(bK q.1).1 q.2),if_neg (fun q=>by rw [(bK q.1).2] at q;simp at q),if_neg (by omega)]
 have fin:∀(d:UInt8) (u:List UInt8) (q:Int × Int × List UInt8 × Nat),blank d=false→d≠40→gA (d::u)=.ok q→q.2.2.2=(d::u).length→pX (d::u) 0=.ok [⟨q.1,q.2.1,0,q.2.2.1⟩]:=by
  intro d u q aK aS bn b2
  rw [Qd,aK,if_neg Bool.false_ne_true,ahr aS,if_neg Bool.false_ne_true,bn]
  simp only [b2,List.drop_length]
  rfl
 rcases aE with rfl | rfl | rfl
 · rw [if_neg (by decide)]
   rw [if_pos rfl] at g4
   simp only [Bool.and_eq_true,Bool.not_eq_true',decide_eq_false_iff_not,Bool.or_eq_true,beq_iff_eq] at g4
   have bf:gC c.toNat=true∨c=95:=g4.1.1.imp id (fun q=>Option.some.inj q)
   exact fin c t _ cC ck (by rw [ahp bf];exact rd 3 (fun _=>⟨g4.1.2,g4.2⟩)) rfl
 · rw [if_neg (by decide)]
   rw [if_neg (by decide),if_pos rfl] at g4
   have aH:lQ c.toNat=true:=g4
   obtain ⟨cp,gq,n3,n4⟩:=abK aH
   refine fin c t (4,0,c::t,(c::t).length) cC ck ?_ rfl
   simp only [gA,cp,n3,aH,if_neg gq,Bool.false_eq_true,if_false,if_true,Bool.false_or,decide_eq_true_eq,if_neg n4]
   exact rd 4 (fun q=>absurd q (by decide))
 · rw [if_pos rfl]
   rw [if_neg (by decide),if_neg (by decide)] at g4
   refine fin 39 (c::t) (5,0,c::t,(c::t).length+1) (by decide) (by decide) ?_ rfl
   simp only [gA]
   rw [if_neg (by decide),if_neg (by decide),if_neg (by decide),if_neg (by decide),if_pos ⟨trivial,g4⟩,rd 5 (fun q=>absurd q (by decide))]
   rfl
theorem aah (t:aB):t.deep=h_ t.l+1:=by cases t;simp only [aB.deep,aB.l]
theorem size_eq (t:aB):t.size=1+c9 t.l:=by cases t;simp only [aB.size,aB.l]
theorem Q6:∀l m:List aB,h_ (l++m)=max (h_ l) (h_ m)
 | [],m=>by simp [h_]
 | t::l,m=>by rw [List.cons_append,h_,h_,Q6 l m,Nat.max_assoc]
theorem JF:∀l m:List aB,c9 (l++m)=c9 l+c9 m
 | [],m=>by simp [c9]
 | t::l,m=>by rw [List.cons_append,c9,c9,JF l m,Nat.add_assoc]
theorem take_one {l:List aB} {i:Nat} (h:i<l.length):l.take (i+1)=l.take i++[l[i]]:=by rw [List.take_succ_eq_append_getElem h]
theorem aim {l:List aB} {i:Nat} (h:i<l.length):h_ (l.take (i+1))=max (h_ (l.take i)) l[i].deep:=by rw [take_one h,Q6,h_,h_,Nat.max_zero]
theorem Dv {l:List aB} {i:Nat} (h:i<l.length):c9 (l.take (i+1))=c9 (l.take i)+l[i].size:=by rw [take_one h,JF,c9,c9,Nat.add_zero]
mutual
theorem M3:∀t:aB,t.deep≤t.size
 | .mk k n s l=>by rw [aB.deep,aB.size];have:=Dm l;omega
theorem Dm:∀l:List aB,h_ l≤c9 l
 | []=>Nat.le_refl _
 | t::l=>by rw [h_,c9];have:=M3 t;have:=Dm l;omega
end
theorem xw (l:List aB) (i:Nat):c9 (l.take i)≤c9 l:=by
 have:=JF (l.take i) (l.drop i)
 rw [List.take_append_drop] at this
 omega
theorem JG {l:List aB} {i:Nat} (aC:i<l.length):c9 l[i].l<c9 l:=by
 have ab:=xv (List.getElem_mem aC)
 have ae:=size_eq l[i]
 omega
theorem Qu (a b:Nat):(if (a:Int) < (b:Int) then (b:Int) else (a:Int))=((max a b:Nat):Int):=by
 by_cases h:(a:Int) < (b:Int)
 · rw [if_pos h,Nat.max_eq_right (by omega)]
 · rw [if_neg h,Nat.max_eq_left (by omega)]
mutual
def aB.pred:Nat→aB→List (Nat × aB)
 | d,.mk k n s l=>(d,.mk k n s l)::hR (d+1) l
def hR:Nat→List aB→List (Nat × aB)
 | _,[]=>[]
 | d,t::l=>t.pred d++hR d l
end
theorem air (d:Nat) (t:aB):t.pred d=(d,t)::hR (d+1) t.l:=by cases t;simp only [aB.pred,aB.l]
theorem JA (d:Nat):∀l m:List aB,hR d (l++m)=hR d l++hR d m
 | [],m=>rfl
 | t::l,m=>by rw [List.cons_append,hR,hR,JA d l m,List.append_assoc]
theorem ait (d:Nat) (t:aB):hR d [t]=t.pred d:=by rw [hR,hR,List.append_nil]
mutual
theorem Dt:∀(d:Nat) (t:aB),(t.pred d).map Prod.snd=t.pre
 | d,.mk k n s l=>by rw [aB.pred,aB.pre,List.map_cons,JB (d+1) l]
theorem JB:∀(d:Nat) (l:List aB),(hR d l).map Prod.snd=jQ l
 | _,[]=>rfl
 | d,t::l=>by rw [hR,jQ,List.map_append,Dt d t,JB d l]
end
theorem Rh (d:Nat) (t:aB):(t.pred d).length=t.size:=by
 rw [←Jy,←Dt d t,List.length_map]
theorem ais (d:Nat) (l:List aB):(hR d l).length=c9 l:=by
 rw [←Du,←JB d l,List.length_map]
def maxD (l:List (Nat × aB)):Nat:=l.foldl (fun m x=>max m x.1) 0
theorem foldl_max (l:List (Nat × aB)) (m:Nat):l.foldl (fun m x=>max m x.1) m=max m (maxD l):=by
 unfold maxD
 induction l generalizing m with
 | nil=>simp
 | cons x l bk=>rw [List.foldl_cons,List.foldl_cons,bk,bk (max 0 x.1)];omega
theorem I1 (l m:List (Nat × aB)):maxD (l++m)=max (maxD l) (maxD m):=by
 conv=>lhs;unfold maxD
 rw [List.foldl_append,foldl_max]
 rfl
theorem Qt (x:Nat × aB) (l:List (Nat × aB)):maxD (x::l)=max x.1 (maxD l):=by
 have:=I1 [x] l
 rw [List.singleton_append] at this
 rw [this]
 congr 1
mutual
theorem Ri:∀(d:Nat) (t:aB),maxD (t.pred d)+1=d+t.deep
 | d,.mk k n s l=>by
   rw [aB.pred,aB.deep,Qt]
   have:=Rj (d+1) l
   simp only
   split at this
   · rename_i q;subst q;simp only [hR,h_];unfold maxD;simp
   · omega
theorem Rj:∀(d:Nat) (l:List aB),if l=[] then maxD (hR d l)=0 else maxD (hR d l)+1=d+h_ l
 | _,[]=>by simp [hR,maxD]
 | d,t::l=>by
   rw [if_neg (by simp),hR,I1,h_]
   have ab:=Ri d t
   have ae:=Rj d l
   split at ae
   · rename_i q;subst q;rw [ae];simp only [h_];omega
   · omega
end
def iM:List UInt8:=[45,62]
def nO:List UInt8:=[42]
def aB.own (t:aB):Bool:=
 if t.k=1 then decide (0≤t.n)&&decide (t.n≤1048575)&&decide (t.s=[])&&decide (t.l.length=0)
 else if t.k=2 then (if t.s=iM∨t.s=nO then decide (t.n=0)&&decide (t.l.length=2) else decide (t.n=0)&&decide (t.l.length≤64)&&iB 3 t.s)
 else false
mutual
def aB.shape:aB→Bool
 | .mk k n s l=>(aB.mk k n s l).own&&ic l
def ic:List aB→Bool
 | []=>true
 | t::l=>t.shape&&ic l
end
theorem p4 (t:aB):t.shape=(t.own&&ic t.l):=by cases t;rw [aB.shape];rfl
theorem Kb:∀l:List aB,ic l=l.all aB.shape
 | []=>rfl
 | t::l=>by rw [ic,List.all_cons,Kb l]
mutual
theorem Sl:∀t:aB,t.shape=t.pre.all aB.own
 | .mk k n s l=>by rw [aB.shape,aB.pre,List.all_cons,Sn l]
theorem Sn:∀l:List aB,ic l=(jQ l).all aB.own
 | []=>rfl
 | t::l=>by rw [ic,jQ,List.all_append,Sl t,Sn l]
end
def aB.check (t:aB):Int:=if t.shape then (if t.size≤4096∧t.deep≤200 then 0 else 3) else 2
mutual
def aB.same:aB→aB→Bool
 | .mk k n s l,.mk bt iA fA cR=>decide (k=bt)&&decide (n=iA)&&decide (s=fA)&&i' l cR
def i':List aB→List aB→Bool
 | [],[]=>true
 | t::l,u::m=>t.same u&&i' l m
 | [],_::_=>false
 | _::_,[]=>false
end
theorem Sf (t u:aB):t.same u=(decide (t.k=u.k)&&decide (t.n=u.n)&&decide (t.s=u.s)&&i' t.l u.l):=by
 cases t;cases u;rw [aB.same];rfl
theorem JE:∀{l m:List aB},i' l m=true→l.length=m.length
 | [],[],_=>rfl
 | t::l,u::m,h=>by
   rw [i',Bool.and_eq_true] at h
   rw [List.length_cons,List.length_cons,JE h.2]
 | [],_::_,h=>by rw [i'] at h;cases h
 | _::_,[],h=>by rw [i'] at h;cases h
theorem JD:∀{l m:List aB} {i:Nat} (ab:i<l.length) (ae:i<m.length),i' (l.drop i) (m.drop i)=(l[i].same m[i]&&i' (l.drop (i+1)) (m.drop (i+1)))
 | t::l,u::m,0,_,_=>by simp only [List.drop_zero,List.drop_succ_cons,i',List.getElem_cons_zero]
 | t::l,u::m,i+1,ab,ae=>by
   simp only [List.drop_succ_cons,List.getElem_cons_succ]
   exact JD (by simpa using ab) (by simpa using ae)
def e0 (out:List Int) (t:aB):List Int:=if t.k=1∧¬t.n ∈ out then out++[t.n] else out
def aB.u_ (t:aB) (out:List Int):List Int:=t.pre.foldl e0 out
def oV (l:List aB) (out:List Int):List Int:=(jQ l).foldl e0 out
def aB.vars (t:aB):List Int:=t.u_ []
theorem akK (t:aB) (out:List Int):t.u_ out=oV t.l (e0 out t):=by
 unfold aB.u_ oV
 rw [aiq,List.foldl_cons]
theorem akL (l m:List aB) (out:List Int):oV (l++m) out=oV m (oV l out):=by
 unfold oV
 rw [Rk,List.foldl_append]
theorem akM (t:aB) (out:List Int):oV [t] out=t.u_ out:=by
 unfold oV aB.u_
 rw [jQ,jQ,List.append_nil]
theorem LN (out:List Int) (t:aB):(e0 out t).length≤out.length+1:=by unfold e0;split<;>simp
theorem B1:∀(l:List aB) (out:List Int),(l.foldl e0 out).length≤out.length+l.length
 | [],out=>by simp
 | t::l,out=>by
   rw [List.foldl_cons,List.length_cons]
   have:=B1 l (e0 out t)
   have:=LN out t
   omega
theorem Kv (t:aB):t.vars.length≤t.size:=by
 have:=B1 t.pre []
 rw [Jy] at this
 simpa [aB.vars,aB.u_] using this
end Go.Proofs.YthemdhlheglhoaaGreatDoor
