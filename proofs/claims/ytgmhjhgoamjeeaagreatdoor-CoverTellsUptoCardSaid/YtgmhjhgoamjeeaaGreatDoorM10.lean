/- The chapter's functions, walked by the abstract machine: plain lemmas, no condition. Printed by a program from longer texts: names made short. -/
import Derived.Test.YtgmhjhgoamjeeaaGreatDoorM8
import Derived.Test.YtgmhjhgoamjeeaaGreatDoorM9
import Derived.Test.YtgmhjhgoamjeeaaGreatDoorM6
import Derived.Shelf.Unicode.Decode
import Derived.Shelf.Unicode.DecodeSlow
import Derived.Shelf.Unicode.DecodeAny
import Derived.Shelf.Strconv.Atoi
import Derived.Shelf.Pu.ParseUintPublic10
import Derived.Lib.LaidU8T
set_option linter.unusedSectionVars false
set_option linter.unusedSimpArgs false
set_option linter.unusedVariables false
set_option maxHeartbeats 64000000
noncomputable section
namespace Go.Proofs.YtgmhjhgoamjeeaaGreatDoor
section
open Go a7
theorem acy:Extern.findNext Tryz.f128=none:=by kernel_rfl
theorem acx:(Extern.find Tryz.f128)=some Extern.BytealgIndexByte.indexByte:=by kernel_rfl
theorem af6 (s:List UInt8) (c:Int) (h:ag):e4 Tryz.prog 128 [.str s,.int .u8 c] h (.int .i64 (Lib.indexByte s c.toNat.toUInt8)) h:=
 af9 (by decide) Tryz.func128 (by kernel_rfl) (by kernel_rfl) acy acx s c h
theorem af5 (s:List UInt8) (c:Int) (h:ag):e4 Tryz.prog 118 [.str s,.int .u8 c] h (.int .i64 (Lib.indexByte s c.toNat.toUInt8)) h:=by refine oX (Zy.z rfl (cm ?_));unfold Oz;simp +contextual only [↓af,an,simprocAttr];refine gr (af6 _ _ _) ?_;simp +contextual only [↓af,an,simprocAttr]
theorem Tk (s:List UInt8) (c:Int) (h:ag):e4 Tryz.prog 113 [.str s,.int .u8 c] h (.int .i64 (Lib.indexByte s c.toNat.toUInt8)) h:=by refine oX (Zu.z rfl (cm ?_));unfold Ot;simp +contextual only [↓af,an,simprocAttr];refine gr (af5 _ _ _) ?_;simp +contextual only [↓af,an,simprocAttr]
end
section
open Go Go.Shelf
def Tryz.aiO:Go.Shelf.Ren:=⟨fun | 197=>117 | 260=>127 | n=>n,fun | 9=>9 | 21=>21 | 3=>3 | 4=>4 | 5=>5 | 105=>185 | 119=>196 | 0=>0 | 46=>160 | 139=>199 | 138=>198 | n=>n,fun | 3=>0 | 4=>1 | n=>n⟩
theorem Tryz.aiN:Go.Proofs.Lays.n197 Tryz.prog Tryz.aiO:={
 mixed:=by kernel_rfl,
 f197:=Tryz.func117.trans (congrArg some (by kernel_rfl)),
 f260:=Tryz.func127.trans (congrArg some (by kernel_rfl)),
 t0:=Tryz.underlying0,
 a0:=Tryz.isAgg0,
 z0:=Tryz.sizeOf0,
 v0:=Tryz.zeroValue0,
 t3:=Tryz.underlying3,
 a3:=Tryz.isAgg3,
 z3:=Tryz.sizeOf3,
 v3:=Tryz.zeroValue3,
 t4:=Tryz.underlying4,
 a4:=Tryz.isAgg4,
 z4:=Tryz.sizeOf4,
 v4:=Tryz.zeroValue4,
 t5:=Tryz.underlying5,
 a5:=Tryz.isAgg5,
 z5:=Tryz.sizeOf5,
 v5:=Tryz.zeroValue5,
 t9:=Tryz.underlying9,
 a9:=Tryz.isAgg9,
 z9:=Tryz.sizeOf9,
 v9:=Tryz.zeroValue9,
 t21:=Tryz.underlying21,
 a21:=Tryz.isAgg21,
 z21:=Tryz.sizeOf21,
 v21:=Tryz.zeroValue21,
 t46:=Tryz.underlying160,
 a46:=Tryz.isAgg160,
 z46:=Tryz.sizeOf160,
 v46:=Tryz.zeroValue160,
 t105:=Tryz.underlying185,
 a105:=Tryz.isAgg185,
 z105:=Tryz.sizeOf185,
 v105:=Tryz.zeroValue185,
 t119:=Tryz.underlying196,
 a119:=Tryz.isAgg196,
 z119:=Tryz.sizeOf196,
 t138:=Tryz.underlying198,
 a138:=Tryz.isAgg198,
 z138:=Tryz.sizeOf198,
 v138:=Tryz.zeroValue198,
 t139:=Tryz.underlying199,
 a139:=Tryz.isAgg199,
 z139:=Tryz.sizeOf199,
 v139:=Tryz.zeroValue199,
 g3:=by kernel_rfl,
 g4:=by kernel_rfl}
def Tryz.aiM:Go.Shelf.Ren:=⟨fun | 172=>137 | 244=>145 | 245=>136 | 247=>150 | 279=>141 | 280=>142 | 281=>143 | 282=>144 | 287=>135 | 316=>147 | 171=>149 | 205=>148 | 321=>139 | 322=>140 | 243=>154 | 246=>156 | 283=>157 | 284=>158 | 285=>159 | 286=>160 | 129=>162 | 317=>161 | 318=>163 | 319=>164 | 320=>165 | 337=>166 | 338=>167 | n=>n,fun | 9=>9 | 3=>3 | 75=>190 | 76=>201 | 4=>4 | 5=>5 | 167=>204 | 37=>194 | 0=>0 | 85=>214 | 2=>2 | 168=>206 | 53=>175 | 175=>191 | 46=>160 | 210=>211 | 127=>216 | 145=>219 | 143=>217 | 21=>21 | 171=>222 | 173=>225 | 212=>228 | 51=>172 | 20=>20 | 213=>229 | 232=>233 | 233=>234 | 80=>235 | n=>n,fun | 15=>3 | 16=>4 | 17=>5 | 18=>6 | 19=>7 | n=>n⟩
theorem Tryz.aiL:Go.Proofs.Lays.n172 Tryz.prog Tryz.aiM:={
 mixed:=by kernel_rfl,
 f129:=Tryz.func162.trans (congrArg some (by kernel_rfl)),
 f171:=Tryz.func149.trans (congrArg some (by kernel_rfl)),
 f172:=Tryz.func137.trans (congrArg some (by kernel_rfl)),
 f205:=Tryz.func148.trans (congrArg some (by kernel_rfl)),
 f243:=Tryz.func154.trans (congrArg some (by kernel_rfl)),
 f244:=Tryz.func145.trans (congrArg some (by kernel_rfl)),
 f245:=Tryz.func136.trans (congrArg some (by kernel_rfl)),
 f246:=Tryz.func156.trans (congrArg some (by kernel_rfl)),
 f247:=Tryz.func150.trans (congrArg some (by kernel_rfl)),
 f279:=Tryz.func141.trans (congrArg some (by kernel_rfl)),
 f280:=Tryz.func142.trans (congrArg some (by kernel_rfl)),
 f281:=Tryz.func143.trans (congrArg some (by kernel_rfl)),
 f282:=Tryz.func144.trans (congrArg some (by kernel_rfl)),
 f283:=Tryz.func157.trans (congrArg some (by kernel_rfl)),
 f284:=Tryz.func158.trans (congrArg some (by kernel_rfl)),
 f285:=Tryz.func159.trans (congrArg some (by kernel_rfl)),
 f286:=Tryz.func160.trans (congrArg some (by kernel_rfl)),
 f287:=Tryz.func135.trans (congrArg some (by kernel_rfl)),
 f316:=Tryz.func147.trans (congrArg some (by kernel_rfl)),
 f317:=Tryz.func161.trans (congrArg some (by kernel_rfl)),
 f318:=Tryz.func163.trans (congrArg some (by kernel_rfl)),
 f319:=Tryz.func164.trans (congrArg some (by kernel_rfl)),
 f320:=Tryz.func165.trans (congrArg some (by kernel_rfl)),
 f321:=Tryz.func139.trans (congrArg some (by kernel_rfl)),
 f322:=Tryz.func140.trans (congrArg some (by kernel_rfl)),
 f337:=Tryz.func166.trans (congrArg some (by kernel_rfl)),
 f338:=Tryz.func167.trans (congrArg some (by kernel_rfl)),
 t0:=Tryz.underlying0,
 a0:=Tryz.isAgg0,
 z0:=Tryz.sizeOf0,
 v0:=Tryz.zeroValue0,
 t2:=Tryz.underlying2,
 a2:=Tryz.isAgg2,
 z2:=Tryz.sizeOf2,
 v2:=Tryz.zeroValue2,
 t3:=Tryz.underlying3,
 a3:=Tryz.isAgg3,
 z3:=Tryz.sizeOf3,
 v3:=Tryz.zeroValue3,
 t4:=Tryz.underlying4,
 a4:=Tryz.isAgg4,
 z4:=Tryz.sizeOf4,
 v4:=Tryz.zeroValue4,
 t5:=Tryz.underlying5,
 a5:=Tryz.isAgg5,
 z5:=Tryz.sizeOf5,
 v5:=Tryz.zeroValue5,
 t9:=Tryz.underlying9,
 a9:=Tryz.isAgg9,
 z9:=Tryz.sizeOf9,
 v9:=Tryz.zeroValue9,
 t20:=Tryz.underlying20,
 a20:=Tryz.isAgg20,
 z20:=Tryz.sizeOf20,
 v20:=Tryz.zeroValue20,
 t21:=Tryz.underlying21,
 a21:=Tryz.isAgg21,
 z21:=Tryz.sizeOf21,
 v21:=Tryz.zeroValue21,
 t37:=Tryz.underlying194,
 a37:=Tryz.isAgg194,
 z37:=Tryz.sizeOf194,
 v37:=Tryz.zeroValue194,
 t46:=Tryz.underlying160,
 a46:=Tryz.isAgg160,
 z46:=Tryz.sizeOf160,
 v46:=Tryz.zeroValue160,
 t51:=Tryz.underlying172,
 a51:=Tryz.isAgg172,
 z51:=Tryz.sizeOf172,
 v51:=Tryz.zeroValue172,
 t53:=Tryz.underlying175,
 a53:=Tryz.isAgg175,
 z53:=Tryz.sizeOf175,
 v53:=Tryz.zeroValue175,
 t75:=Tryz.underlying190,
 a75:=Tryz.isAgg190,
 z75:=Tryz.sizeOf190,
 v75:=Tryz.zeroValue190,
 t76:=Tryz.underlying201,
 a76:=Tryz.isAgg201,
 z76:=Tryz.sizeOf201,
 v76:=Tryz.zeroValue201,
 t85:=Tryz.underlying214,
 a85:=Tryz.isAgg214,
 z85:=Tryz.sizeOf214,
 v85:=Tryz.zeroValue214,
 t127:=Tryz.underlying216,
 a127:=Tryz.isAgg216,
 z127:=Tryz.sizeOf216,
 v127:=Tryz.zeroValue216,
 t143:=Tryz.underlying217,
 a143:=Tryz.isAgg217,
 z143:=Tryz.sizeOf217,
 v143:=Tryz.zeroValue217,
 t145:=Tryz.underlying219,
 a145:=Tryz.isAgg219,
 z145:=Tryz.sizeOf219,
 v145:=Tryz.zeroValue219,
 t167:=Tryz.underlying204,
 a167:=Tryz.isAgg204,
 z167:=Tryz.sizeOf204,
 v167:=Tryz.zeroValue204,
 t168:=Tryz.underlying206,
 a168:=Tryz.isAgg206,
 z168:=Tryz.sizeOf206,
 v168:=Tryz.zeroValue206,
 t171:=Tryz.underlying222,
 a171:=Tryz.isAgg222,
 z171:=Tryz.sizeOf222,
 v171:=Tryz.zeroValue222,
 t173:=Tryz.underlying225,
 a173:=Tryz.isAgg225,
 z173:=Tryz.sizeOf225,
 v173:=Tryz.zeroValue225,
 t175:=Tryz.underlying191,
 a175:=Tryz.isAgg191,
 z175:=Tryz.sizeOf191,
 v175:=Tryz.zeroValue191,
 t210:=Tryz.underlying211,
 a210:=Tryz.isAgg211,
 z210:=Tryz.sizeOf211,
 v210:=Tryz.zeroValue211,
 t212:=Tryz.underlying228,
 a212:=Tryz.isAgg228,
 z212:=Tryz.sizeOf228,
 v212:=Tryz.zeroValue228,
 t213:=Tryz.underlying229,
 a213:=Tryz.isAgg229,
 z213:=Tryz.sizeOf229,
 t232:=Tryz.underlying233,
 a232:=Tryz.isAgg233,
 z232:=Tryz.sizeOf233,
 v232:=Tryz.zeroValue233,
 t233:=Tryz.underlying234,
 a233:=Tryz.isAgg234,
 z233:=Tryz.sizeOf234,
 v233:=Tryz.zeroValue234,
 g15:=by kernel_rfl,
 g16:=by kernel_rfl,
 g17:=by kernel_rfl,
 g18:=by kernel_rfl,
 g19:=by kernel_rfl}
def Tryz.KU:Go.Shelf.Ren:=⟨fun | 14=>130 | 16=>135 | 17=>136 | 19=>139 | 20=>140 | 21=>141 | 22=>142 | 23=>143 | 24=>144 | 25=>147 | 27=>149 | 26=>148 | 28=>154 | 29=>156 | 30=>157 | 31=>158 | 32=>159 | 33=>160 | 35=>162 | 34=>161 | 36=>163 | 37=>164 | 38=>165 | 39=>166 | 40=>167 | n=>n,fun | 9=>9 | 3=>3 | 22=>175 | 24=>190 | 25=>191 | 4=>4 | 34=>204 | 5=>5 | 36=>160 | 37=>194 | 0=>0 | 39=>206 | 21=>21 | 44=>211 | 47=>216 | 50=>219 | 48=>217 | 2=>2 | 52=>222 | 55=>225 | 59=>228 | 60=>172 | 20=>20 | 61=>229 | 65=>233 | 66=>234 | 67=>235 | n=>n,fun | 0=>3 | 1=>4 | 2=>5 | 3=>6 | 4=>7 | n=>n⟩
theorem Tryz.TE:Go.Proofs.LaysPu.n14 Tryz.prog Tryz.KU:={
 mixed:=by kernel_rfl,
 f14:=Tryz.func130.trans (congrArg some (by kernel_rfl)),
 f16:=Tryz.func135.trans (congrArg some (by kernel_rfl)),
 f17:=Tryz.func136.trans (congrArg some (by kernel_rfl)),
 f19:=Tryz.func139.trans (congrArg some (by kernel_rfl)),
 f20:=Tryz.func140.trans (congrArg some (by kernel_rfl)),
 f21:=Tryz.func141.trans (congrArg some (by kernel_rfl)),
 f22:=Tryz.func142.trans (congrArg some (by kernel_rfl)),
 f23:=Tryz.func143.trans (congrArg some (by kernel_rfl)),
 f24:=Tryz.func144.trans (congrArg some (by kernel_rfl)),
 f25:=Tryz.func147.trans (congrArg some (by kernel_rfl)),
 f26:=Tryz.func148.trans (congrArg some (by kernel_rfl)),
 f27:=Tryz.func149.trans (congrArg some (by kernel_rfl)),
 f28:=Tryz.func154.trans (congrArg some (by kernel_rfl)),
 f29:=Tryz.func156.trans (congrArg some (by kernel_rfl)),
 f30:=Tryz.func157.trans (congrArg some (by kernel_rfl)),
 f31:=Tryz.func158.trans (congrArg some (by kernel_rfl)),
 f32:=Tryz.func159.trans (congrArg some (by kernel_rfl)),
 f33:=Tryz.func160.trans (congrArg some (by kernel_rfl)),
 f34:=Tryz.func161.trans (congrArg some (by kernel_rfl)),
 f35:=Tryz.func162.trans (congrArg some (by kernel_rfl)),
 f36:=Tryz.func163.trans (congrArg some (by kernel_rfl)),
 f37:=Tryz.func164.trans (congrArg some (by kernel_rfl)),
 f38:=Tryz.func165.trans (congrArg some (by kernel_rfl)),
 f39:=Tryz.func166.trans (congrArg some (by kernel_rfl)),
 f40:=Tryz.func167.trans (congrArg some (by kernel_rfl)),
 t0:=Tryz.underlying0,
 a0:=Tryz.isAgg0,
 z0:=Tryz.sizeOf0,
 v0:=Tryz.zeroValue0,
 i0:=by kernel_rfl,
 t2:=Tryz.underlying2,
 a2:=Tryz.isAgg2,
 z2:=Tryz.sizeOf2,
 v2:=Tryz.zeroValue2,
 i2:=by kernel_rfl,
 t3:=Tryz.underlying3,
 a3:=Tryz.isAgg3,
 z3:=Tryz.sizeOf3,
 v3:=Tryz.zeroValue3,
 i3:=by kernel_rfl,
 t4:=Tryz.underlying4,
 a4:=Tryz.isAgg4,
 z4:=Tryz.sizeOf4,
 v4:=Tryz.zeroValue4,
 i4:=by kernel_rfl,
 t5:=Tryz.underlying5,
 a5:=Tryz.isAgg5,
 z5:=Tryz.sizeOf5,
 v5:=Tryz.zeroValue5,
 i5:=by kernel_rfl,
 t9:=Tryz.underlying9,
 a9:=Tryz.isAgg9,
 z9:=Tryz.sizeOf9,
 v9:=Tryz.zeroValue9,
 i9:=by kernel_rfl,
 t20:=Tryz.underlying20,
 a20:=Tryz.isAgg20,
 z20:=Tryz.sizeOf20,
 v20:=Tryz.zeroValue20,
 i20:=by kernel_rfl,
 t21:=Tryz.underlying21,
 a21:=Tryz.isAgg21,
 z21:=Tryz.sizeOf21,
 v21:=Tryz.zeroValue21,
 i21:=by kernel_rfl,
 t22:=Tryz.underlying175,
 a22:=Tryz.isAgg175,
 z22:=Tryz.sizeOf175,
 v22:=Tryz.zeroValue175,
 i22:=by kernel_rfl,
 t24:=Tryz.underlying190,
 a24:=Tryz.isAgg190,
 z24:=Tryz.sizeOf190,
 v24:=Tryz.zeroValue190,
 i24:=by kernel_rfl,
 t25:=Tryz.underlying191,
 a25:=Tryz.isAgg191,
 z25:=Tryz.sizeOf191,
 v25:=Tryz.zeroValue191,
 i25:=by kernel_rfl,
 t34:=Tryz.underlying204,
 a34:=Tryz.isAgg204,
 z34:=Tryz.sizeOf204,
 v34:=Tryz.zeroValue204,
 i34:=by kernel_rfl,
 c34:=by kernel_rfl,
 t36:=Tryz.underlying160,
 a36:=Tryz.isAgg160,
 z36:=Tryz.sizeOf160,
 v36:=Tryz.zeroValue160,
 i36:=by kernel_rfl,
 t37:=Tryz.underlying194,
 a37:=Tryz.isAgg194,
 z37:=Tryz.sizeOf194,
 v37:=Tryz.zeroValue194,
 i37:=by kernel_rfl,
 t39:=Tryz.underlying206,
 a39:=Tryz.isAgg206,
 z39:=Tryz.sizeOf206,
 v39:=Tryz.zeroValue206,
 i39:=by kernel_rfl,
 t44:=Tryz.underlying211,
 a44:=Tryz.isAgg211,
 z44:=Tryz.sizeOf211,
 v44:=Tryz.zeroValue211,
 i44:=by kernel_rfl,
 t47:=Tryz.underlying216,
 a47:=Tryz.isAgg216,
 z47:=Tryz.sizeOf216,
 v47:=Tryz.zeroValue216,
 i47:=by kernel_rfl,
 t48:=Tryz.underlying217,
 a48:=Tryz.isAgg217,
 z48:=Tryz.sizeOf217,
 v48:=Tryz.zeroValue217,
 i48:=by kernel_rfl,
 t50:=Tryz.underlying219,
 a50:=Tryz.isAgg219,
 z50:=Tryz.sizeOf219,
 v50:=Tryz.zeroValue219,
 i50:=by kernel_rfl,
 t52:=Tryz.underlying222,
 a52:=Tryz.isAgg222,
 z52:=Tryz.sizeOf222,
 v52:=Tryz.zeroValue222,
 i52:=by kernel_rfl,
 t55:=Tryz.underlying225,
 a55:=Tryz.isAgg225,
 z55:=Tryz.sizeOf225,
 v55:=Tryz.zeroValue225,
 i55:=by kernel_rfl,
 t59:=Tryz.underlying228,
 a59:=Tryz.isAgg228,
 z59:=Tryz.sizeOf228,
 v59:=Tryz.zeroValue228,
 i59:=by kernel_rfl,
 t60:=Tryz.underlying172,
 a60:=Tryz.isAgg172,
 z60:=Tryz.sizeOf172,
 v60:=Tryz.zeroValue172,
 i60:=by kernel_rfl,
 t61:=Tryz.underlying229,
 a61:=Tryz.isAgg229,
 z61:=Tryz.sizeOf229,
 t65:=Tryz.underlying233,
 a65:=Tryz.isAgg233,
 z65:=Tryz.sizeOf233,
 v65:=Tryz.zeroValue233,
 i65:=by kernel_rfl,
 t66:=Tryz.underlying234,
 a66:=Tryz.isAgg234,
 z66:=Tryz.sizeOf234,
 v66:=Tryz.zeroValue234,
 i66:=by kernel_rfl,
 t67:=Tryz.underlying235,
 a67:=Tryz.isAgg235,
 z67:=Tryz.sizeOf235,
 v67:=Tryz.zeroValue235,
 i67:=by kernel_rfl,
 g0:=by kernel_rfl,
 m0:=by kernel_rfl,
 g1:=by kernel_rfl,
 m1:=by kernel_rfl,
 g2:=by kernel_rfl,
 m2:=by kernel_rfl,
 g3:=by kernel_rfl,
 m3:=by kernel_rfl,
 g4:=by kernel_rfl,
 m4:=by kernel_rfl}
def Tryz.Cn:Go.Shelf.Ren:=⟨fun | 260=>127 | n=>n,fun | 9=>9 | 21=>21 | 3=>3 | 4=>4 | 5=>5 | 119=>196 | 0=>0 | 46=>160 | 139=>199 | 138=>198 | n=>n,fun | 3=>0 | 4=>1 | n=>n⟩
theorem Tryz.aiP:Go.Proofs.Lays.n260 Tryz.prog Tryz.Cn:={
 mixed:=by kernel_rfl,
 f260:=Tryz.func127.trans (congrArg some (by kernel_rfl)),
 t0:=Tryz.underlying0,
 a0:=Tryz.isAgg0,
 z0:=Tryz.sizeOf0,
 v0:=Tryz.zeroValue0,
 t3:=Tryz.underlying3,
 a3:=Tryz.isAgg3,
 z3:=Tryz.sizeOf3,
 v3:=Tryz.zeroValue3,
 t4:=Tryz.underlying4,
 a4:=Tryz.isAgg4,
 z4:=Tryz.sizeOf4,
 v4:=Tryz.zeroValue4,
 t5:=Tryz.underlying5,
 a5:=Tryz.isAgg5,
 z5:=Tryz.sizeOf5,
 v5:=Tryz.zeroValue5,
 t9:=Tryz.underlying9,
 a9:=Tryz.isAgg9,
 z9:=Tryz.sizeOf9,
 v9:=Tryz.zeroValue9,
 t21:=Tryz.underlying21,
 a21:=Tryz.isAgg21,
 z21:=Tryz.sizeOf21,
 v21:=Tryz.zeroValue21,
 t46:=Tryz.underlying160,
 a46:=Tryz.isAgg160,
 z46:=Tryz.sizeOf160,
 v46:=Tryz.zeroValue160,
 t119:=Tryz.underlying196,
 a119:=Tryz.isAgg196,
 z119:=Tryz.sizeOf196,
 t138:=Tryz.underlying198,
 a138:=Tryz.isAgg198,
 z138:=Tryz.sizeOf198,
 v138:=Tryz.zeroValue198,
 t139:=Tryz.underlying199,
 a139:=Tryz.isAgg199,
 z139:=Tryz.sizeOf199,
 v139:=Tryz.zeroValue199,
 g3:=by kernel_rfl,
 g4:=by kernel_rfl}
end
section
open Go a7 Go.RowKit
section
open Go.Shelf
theorem abE (s:ByteArray) (w:World) (dN:Lib.Utf8Tabs 0 1 w):
 Calls Tryz.prog 117 #[.string s] w fun e w'=>e=.returned (.tuple #[.int .i32 (Lib.decodeGo s).1,.int .i64 (Lib.decodeGo s).2])/\Below w.heap.size w w':=Any.utf8_DecodeRuneInString Tryz.aiN s w dN
theorem YU (s:ByteArray) (n:Int) (aw:s.size<=18) (h:Lib.atoi s.data.toList=some n) (w:World):
 Calls Tryz.prog 137 #[.string s] w fun e w'=>e=.returned (.tuple #[.int .i64 n,.nilIface])/\Below w.heap.size w w':=(Any.strconv_Atoi Tryz.aiL s n aw h w).mono fun e w' q=>⟨q.1,by obtain ⟨t,rfl⟩:=q.2;exact Lib.bytesWorld_below _ _ _⟩
theorem ak7 (s:ByteArray) (aeU:s.size<=9223372036854775806) (u:Nat) (h:Lib.parseUintB 64 s.data.toList=.ok u) (w:World):
 Calls Tryz.prog 130 #[.string s,.int .i64 10,.int .i64 64] w fun e w'=>e=.returned (.tuple #[.int .u64 u,.nilIface])/\Below w.heap.size w w':=(Any.strconv_ParseUint_10_at64_ok Tryz.TE s aeU u h w).mono fun e w' q=>⟨q.1,by
  rcases q.2 with rfl | rfl
  . exact Below.refl _ _
  . exact Lib.bytesWorld_below _ _ _⟩
theorem ak9 (s:ByteArray) (wT:s.size<=281474976710656) (h:Lib.parseUintB 64 s.data.toList=.range) (w:World) (he:xT w 4):
 Calls Tryz.prog 130 #[.string s,.int .i64 10,.int .i64 64] w fun e w'=>(∃p,e=.returned (.tuple #[.int .u64 18446744073709551615,.iface (Tryz.KU.t 39) p]))/\Below w.heap.size w w':=by
 obtain ⟨aT,aa,ae⟩:=he;refine (Any.strconv_ParseUint_10_at64_range Tryz.TE s wT h aT w aa ae).mono fun e w' q=>?_;obtain ⟨N,aM,_,_,e_⟩:=q;exact ⟨⟨_,aM⟩,e_⟩
end
theorem Cl {f:FuncId} (a6:Nat.beq f dy=false) {args:List V} {v:V} {h:ag} (hE:∃fn,Tryz.prog.funcs[f]? =some fn/\fn.body.isSome=true) (H:∀E xs w,HB w->bj E args xs->Calls Tryz.prog f xs.toArray w fun e w'=>∃x,e=.returned x/\Rel E v x/\Below w.heap.size w w'):e4 Tryz.prog f args h v h:=by refine ⟨fun e=>by subst e;simp at a6,.inl ⟨hE,fun aC E w xs ao s=>?_⟩⟩;refine (H E xs w (Lay.fc s.laid s.frame) ao).mono fun e w' q=>?_;obtain ⟨x,rfl,bz,ak⟩:=q;exact ⟨E,x,rfl,fun _ _ q=>q,bz,s.below ak⟩
theorem abC (s:List UInt8) (h:ag):e4 Tryz.prog 117 [.str s] h (.tuple [.int .i32 (Lib.decodeGo ⟨⟨s⟩⟩).1,.int .i64 (Lib.decodeGo ⟨⟨s⟩⟩).2]) h:=by refine Cl (by decide) ⟨_,Tryz.func117,by kernel_rfl⟩ fun E xs w aw ao=>?_;obtain ⟨y,cy,rfl,al,rfl⟩:=ao;simp only [Rel] at al;subst al;refine (abE ⟨⟨s⟩⟩ w aw.WS).mono fun e w' q=>?_;obtain ⟨rfl,ak⟩:=q;refine ⟨_,rfl,?_,ak⟩;simp only [Rel];exact ⟨_,rfl,_,_,rfl,rfl,_,_,rfl,rfl,rfl⟩
theorem abh (s sub:List UInt8) (aO:s.length<=100000) (h:ag):e4 Tryz.prog 134 [.str s,.str sub] h (.bool (Lib.contains s sub)) h:=by refine Cl (by decide) ⟨_,Tryz.func134,by kernel_rfl⟩ fun E xs w aw ao=>?_;obtain ⟨y,cy,rfl,al,z,vw,rfl,au,rfl⟩:=ao;simp only [Rel] at al au;subst al au;obtain ⟨m,hm⟩:=aw.maxLen;refine (Qy ⟨⟨s⟩⟩ ⟨⟨sub⟩⟩ m w (by show s.length<4294967281;omega) hm).mono fun e w' q=>?_;obtain ⟨rfl,rfl⟩:=q;refine ⟨_,rfl,?_,Below.refl _ _⟩;simp only [Rel]
theorem YT (s:List UInt8) (n:Int) (aw:s.length<=18) (h:Lib.atoi s=some n) (ai:ag):e4 Tryz.prog 137 [.str s] ai (.tuple [.int .i64 n,.nilIface]) ai:=by refine Cl (by decide) ⟨_,Tryz.func137,by kernel_rfl⟩ fun E xs w wS ao=>?_;obtain ⟨y,cy,rfl,al,rfl⟩:=ao;simp only [Rel] at al;subst al;refine (YU ⟨⟨s⟩⟩ n aw h w).mono fun e w' q=>?_;obtain ⟨rfl,ak⟩:=q;refine ⟨_,rfl,?_,ak⟩;simp only [Rel];exact ⟨_,rfl,_,_,rfl,rfl,_,_,rfl,rfl,rfl⟩
theorem ak6 (s:List UInt8) (u:Nat) (aw:s.length<=100000) (h:Lib.parseUintB 64 s=.ok u) (ai:ag):e4 Tryz.prog 130 [.str s,.int .i64 10,.int .i64 64] ai (.tuple [.int .u64 u,.nilIface]) ai:=by refine Cl (by decide) ⟨_,Tryz.func130,by kernel_rfl⟩ fun E xs w wS ao=>?_;obtain ⟨y,cy,rfl,al,z,vw,rfl,au,t,cM,rfl,aJ,rfl⟩:=ao;simp only [Rel] at al au aJ;subst al au aJ;refine (ak7 ⟨⟨s⟩⟩ (by show s.length<=9223372036854775806;omega) u h w).mono fun e w' q=>?_;obtain ⟨rfl,ak⟩:=q;refine ⟨_,rfl,?_,ak⟩;simp only [Rel];exact ⟨_,rfl,_,_,rfl,rfl,_,_,rfl,rfl,rfl⟩
def acd:TypeId:=Tryz.KU.t 39
theorem ak8 (s:List UInt8) (aw:s.length<=100000) (h:Lib.parseUintB 64 s=.range) (ai:ag):e4 Tryz.prog 130 [.str s,.int .i64 10,.int .i64 64] ai (.tuple [.int .u64 18446744073709551615,.iface acd .bad]) ai:=by refine Cl (by decide) ⟨_,Tryz.func130,by kernel_rfl⟩ fun E xs w wS ao=>?_;obtain ⟨y,cy,rfl,al,z,vw,rfl,au,t,cM,rfl,aJ,rfl⟩:=ao;simp only [Rel] at al au aJ;subst al au aJ;refine (ak9 ⟨⟨s⟩⟩ (by show s.length<=281474976710656;omega) h w wS.Rj).mono fun e w' q=>?_;obtain ⟨⟨p,rfl⟩,ak⟩:=q;refine ⟨_,rfl,?_,ak⟩;simp only [Rel];exact ⟨_,rfl,_,_,rfl,rfl,_,_,rfl,⟨p,rfl,trivial⟩,rfl⟩
end
section
open Go a7
def eT (s:List UInt8) (i:Nat):Nat:=if decodeL s i=(65533,1) then 0 else (decodeL s i).2
def tB:Nat->List UInt8->Nat->Nat
 | 0,s,_=>s.length
 | f+1,s,a=>if a<s.length then (if eT s a=0 then a else tB f s (a+eT s a)) else s.length
def sd (s:List UInt8) (a:Nat):Nat:=tB (s.length-a) s a
def vl (s:List UInt8):Nat:=sd s 0
theorem VV (s:List UInt8):∀(f g a:Nat),s.length-a<=f->s.length-a<=g->tB f s a=tB g s a
 | 0,g,a,aa,ae=>by
   cases g with
   | zero=>rfl
   | succ g=>simp only [tB];rw [aqa (by omega)]
 | f+1,0,a,aa,ae=>by simp only [tB];rw [aqa (by omega)]
 | f+1,g+1,a,aa,ae=>by
   simp only [tB];by_cases bp:a<s.length
   . rw [aqf bp,aqf bp];by_cases av:eT s a=0
     . rw [aqf av,aqf av]
     . rw [aqa av,aqa av];exact VV s f g _ (by omega) (by omega)
   . rw [aqa bp,aqa bp]
theorem VU {s:List UInt8} {a:Nat} (h:s.length<=a):sd s a=s.length:=by unfold sd;rw [show s.length-a=0 from by omega];rfl
theorem alZ {s:List UInt8} {a:Nat} (h:a<s.length) (av:eT s a=0):sd s a=a:=by unfold sd;rw [show s.length-a=s.length-a-1+1 from by omega,tB,aqf h,aqf av]
theorem L9 {s:List UInt8} {a:Nat} (h:a<s.length) (av:eT s a≠0):sd s a=sd s (a+eT s a):=by unfold sd;rw [show s.length-a=s.length-a-1+1 from by omega,tB,aqf h,aqa av];exact VV s _ _ _ (by omega) (by omega)
def fx (c:UInt8):Bool:=nF c.toNat
def fA (c:UInt8):Bool:=u1 c.toNat
def jQ (l:List UInt8):Nat:=l.foldl (fun n c=>10 * n + (c.toNat-48)) 0
abbrev uf:=Except Int (Int × Int × List UInt8 × Nat)
def zH (r:List UInt8):uf:=
 let t:=r.takeWhile fx
 if 2147483647<jQ t then .error 254 else .ok (1,(if 1073741823 < (jQ t:Int) then (jQ t:Int)-2147483648 else jQ t),[],t.length)
def qj:List UInt8->Option (UInt8 × Nat)
 | []=>none
 | c::r=>if c=110 then some (10,1) else if c=116 then some (9,1) else if c=34 then some (34,1) else if c=92 then some (92,1) else
   if 2<=r.length/\fx c/\fx (r[0]?.getD 0)/\fx (r[1]?.getD 0)/\jQ (c::r.take 2)<256 then some ((jQ (c::r.take 2)).toUInt8,3) else none
def xG:Nat->List UInt8->Option (List UInt8 × Nat)
 | 0,_=>none
 | _+1,[]=>none
 | f+1,c::r=>if c=34 then some ([],1) else if c=92 then (match qj r with
    | none=>none
    | some (b,n)=>(xG f (r.drop n)).map fun q=>(b::q.1,q.2+n+1))
   else if c<32\/c=127 then none else (xG f r).map fun q=>(c::q.1,q.2+1)
def q3 (r:List UInt8):Option (List UInt8 × Nat):=xG r.length r
def tJ (r:List UInt8):uf:=
 match q3 r with
 | none=>.error 252
 | some (b,n)=>if 4096<b.length then .error 255 else .ok (2,0,b,n+1)
def uZ:List (List UInt8):=[[97,110,100],[98,101,103,105,110],[101,108,115,101],[101,110,100],[101,120,99,101,112,116,105,111,110],[102,97,108,115,101],[102,117,110],[105,102],[105,110],[108,101,116],[109,97,116,99,104],[109,111,100],[111,102],[114,97,105,115,101],[114,101,99],[116,104,101,110],[116,114,117,101],[116,114,121],[116,121,112,101],[119,105,116,104]]
def j8:List (List UInt8):=[[59,59],[58,61],[45,62],[60,61],[59],[40],[41],[44],[61],[60],[43],[45],[42],[47],[124],[33],[95]]
def pI (t:List UInt8):Bool:=uZ.contains t
def kG (kind:Int) (r:List UInt8):uf:=
 let t:=r.takeWhile fA
 if kind=3/\t=[95] then .ok (7,0,t,t.length) else if kind=3/\pI t then .ok (6,0,t,t.length) else if 64<t.length then .error 255 else .ok (kind,0,t,t.length)
def Ab (r:List UInt8):uf:=
 match j8.find? (·.isPrefixOf r) with
 | some t=>.ok (7,0,t,t.length)
 | none=>.error 251
def mT:List UInt8->Bool
 | d::_=>hJ d.toNat
 | []=>false
def gY:List UInt8->uf
 | []=>.error 0
 | c::r=>if fx c then zH (c::r) else if c=34 then tJ r else if hJ c.toNat||c=95 then kG 3 (c::r) else if nN c.toNat then kG 4 (c::r) else
   if c=39/\mT r then (kG 5 r).map fun q=>(q.1,q.2.1,q.2.2.1,q.2.2.2+1) else Ab (c::r)
structure cc where
 kind:Int
 num:Int
 pos:Nat
 text:List UInt8
deriving DecidableEq
def blank (c:UInt8):Bool:=c=9||c=10||c=13||c=32
def Be (w:cc):Except (Int × Nat) (List cc)->Except (Int × Nat) (List cc)
 | .ok ws=>.ok (w::ws)
 | .error e=>.error e
def nZ:Nat->List UInt8->Nat->Except (Int × Nat) (List cc)
 | 0,_,_=>.ok []
 | _+1,[],_=>.ok []
 | f+1,c::r,p=>if blank c then nZ f r (p+1) else if ([40,42]:List UInt8).isPrefixOf (c::r) then (match iZ (c::r) 0 with
    | none=>.error (253,p)
    | some n=>nZ f ((c::r).drop n) (p+n))
   else match gY (c::r) with
    | .error e=>.error (e,p)
    | .ok q=>Be ⟨q.1,q.2.1,p,q.2.2.1⟩ (nZ f ((c::r).drop q.2.2.2) (p+q.2.2.2))
def r2 (r:List UInt8) (p:Nat):Except (Int × Nat) (List cc):=nZ r.length r p
def l0 (s:List UInt8):Except (Int × Nat) (List cc):=
 if 65536<s.length then .error (3,0) else if vl s<s.length then .error (250,vl s) else r2 s 0
theorem ME {p:UInt8->Bool} {c:UInt8} {r:List UInt8} (h:p c=true):1<=((c::r).takeWhile p).length:=by simp only [arI,h,aqB,aqb];omega
theorem amE {t:List UInt8} (h:t ∈ j8):1<=t.length:=by revert t;decide
theorem Mk {c:UInt8} (h:hJ c.toNat=true):fA c=true:=by unfold fA u1;rw [h];simp
theorem RT {c:UInt8} (h:nN c.toNat=true):fA c=true:=by unfold fA u1;rw [h];simp
theorem WL {c:UInt8} (h:c=95):fA c=true:=by subst h;decide
theorem Uq {k:Int} {r:List UInt8} {q:Int × Int × List UInt8 × Nat} (h:kG k r=.ok q):q.2.2.2=(r.takeWhile fA).length:=by
 unfold kG at h;simp only at h
 split at h
 . cases h;rfl
 . split at h
   . cases h;rfl
   . split at h
     . cases h
     . cases h;rfl
theorem Ld {r:List UInt8} {q:Int × Int × List UInt8 × Nat} (h:gY r=.ok q):1<=q.2.2.2:=by
 match r,h with
 | c::r,h=>
   simp only [gY] at h
   split at h
   . rename_i aq;unfold zH at h;simp only at h
     split at h
     . cases h
     . cases h;exact ME aq
   . split at h
     . unfold tJ at h
       split at h
       . cases h
       . split at h
         . cases h
         . cases h;simp only;omega
     . split at h
       . rename_i aO;rw [Uq h];simp only [arp,aqg] at aO;exact ME (aO.elim Mk WL)
       . split at h
         . rename_i aO;rw [Uq h];exact ME (RT aO)
         . split at h
           . cases aW:kG 5 r with
             | error e=>rw [aW] at h;cases h
             | ok fi=>rw [aW] at h;cases h;simp only;omega
           . unfold Ab at h
             split at h
             . rename_i t aK;cases h;exact amE (List.mem_of_find?_eq_some aK)
             . cases h
theorem Gc:∀{r:List UInt8} {d:Int} {n:Nat},iZ r d=some n->2<=n
 | [],d,n,h=>by simp [iZ] at h
 | [_],d,n,h=>by simp [iZ] at h
 | x::y::r,d,n,h=>by
   rw [iZ] at h
   split at h
   . cases ar:iZ r (d+1) with
     | none=>rw [ar] at h;cases h
     | some m=>rw [ar] at h;cases h;simp only;omega
   . split at h
     . split at h
       . cases h;omega
       . cases ar:iZ r (d-1) with
         | none=>rw [ar] at h;cases h
         | some m=>rw [ar] at h;cases h;simp only;omega
     . cases ar:iZ (y::r) d with
       | none=>rw [ar] at h;cases h
       | some m=>rw [ar] at h;cases h;have:=Gc ar;simp only;omega
theorem Cr:∀(f g:Nat) (r:List UInt8) (p:Nat),r.length<=f->r.length<=g->nZ f r p=nZ g r p
 | 0,g,r,p,aa,ae=>by have:r=[]:=arW.1 (by omega);subst this;cases g<;>rfl
 | f+1,0,r,p,aa,ae=>by have:r=[]:=arW.1 (by omega);subst this;rfl
 | f+1,g+1,[],p,aa,ae=>rfl
 | f+1,g+1,c::r,p,aa,ae=>by
   simp only [aqb] at aa ae;simp only [nZ]
   split
   . exact Cr f g _ _ (by omega) (by omega)
   . split
     . split
       . rfl
       . rename_i n aW;have:=Gc aW;exact Cr f g _ _ (by rw [aqG,aqb];omega) (by rw [aqG,aqb];omega)
     . split
       . rfl
       . rename_i q ar;have:=Ld ar;rw [Cr f g _ _ (by rw [aqG,aqb];omega) (by rw [aqG,aqb];omega)]
theorem T0 (c:UInt8) (r:List UInt8) (p:Nat):r2 (c::r) p=if blank c then r2 r (p+1) else if ([40,42]:List UInt8).isPrefixOf (c::r) then (match iZ (c::r) 0 with
 | none=>.error (253,p)
 | some n=>r2 ((c::r).drop n) (p+n))
 else match gY (c::r) with
  | .error e=>.error (e,p)
  | .ok q=>Be ⟨q.1,q.2.1,p,q.2.2.1⟩ (r2 ((c::r).drop q.2.2.2) (p+q.2.2.2)):=by
 unfold r2;simp only [aqb,nZ]
 split
 . rfl
 . split
   . split
     . rfl
     . rename_i n aW;have:=Gc aW;exact Cr _ _ _ _ (by rw [aqG,aqb];omega) (ap7 _)
   . split
     . rfl
     . rename_i q ar;have:=Ld ar;rw [Cr _ _ _ _ (by rw [aqG,aqb];omega) (ap7 _)]
theorem MG:∀(f g:Nat) (r:List UInt8),r.length<=f->r.length<=g->xG f r=xG g r
 | 0,g,r,aa,ae=>by have:r=[]:=arW.1 (by omega);subst this;cases g<;>rfl
 | f+1,0,r,aa,ae=>by have:r=[]:=arW.1 (by omega);subst this;rfl
 | f+1,g+1,[],aa,ae=>rfl
 | f+1,g+1,c::r,aa,ae=>by
   simp only [aqb] at aa ae;simp only [xG]
   split
   . rfl
   . split
     . split
       . rfl
       . rw [MG f g _ (by rw [aqG];omega) (by rw [aqG];omega)]
     . split
       . rfl
       . rw [MG f g _ (by omega) (by omega)]
theorem ani:q3 []=none:=rfl
theorem anh (c:UInt8) (r:List UInt8):q3 (c::r)=if c=34 then some ([],1) else if c=92 then (match qj r with
 | none=>none
 | some (b,n)=>(q3 (r.drop n)).map fun q=>(b::q.1,q.2+n+1))
 else if c<32\/c=127 then none else (q3 r).map fun q=>(c::q.1,q.2+1):=by
 unfold q3;simp only [aqb,xG]
 split
 . rfl
 . split
   . split
     . rfl
     . rw [MG _ _ _ (by rw [aqG];omega) (ap7 _)]
   . rfl
theorem RG:∀(l:List UInt8) (a:Nat),a<=l.foldl (fun n c=>10 * n + (c.toNat-48)) a
 | [],a=>ap7 _
 | c::l,a=>by simp only [List.foldl_cons];exact aqK (by omega) (RG l _)
def lN (a:Nat) (l:List UInt8):Nat:=l.foldl (fun n c=>10 * n + (c.toNat-48)) a
theorem acK (a:Nat) (c:UInt8) (l:List UInt8):lN a (c::l)=lN (10 * a + (c.toNat-48)) l:=by unfold lN;rw [List.foldl_cons]
theorem ak5 (M:Nat) (c':M<18446744073709551620) (l:List UInt8):∀(a:Nat),(∀c ∈ l,fx c=true)->(lN a l<=M->Lib.parseUintM M a l=.ok (lN a l))/\(a<=M->¬lN a l<=M->Lib.parseUintM M a l=.range):=by
 induction l with
 | nil=>
   intro a _;refine ⟨fun _=>?_,fun aa ae=>absurd aa ae⟩;simp only [Lib.parseUintM,lN,List.foldl_nil]
 | cons c l af0=>
   intro a h;have av:=h c (aqy ..);simp only [fx,nF,ap2,aqg] at av;have E7:48<=c.toNat/\c.toNat<=57:=by omega
   have bd:=af0 (10 * a + (c.toNat-48)) (fun x ao=>h x (aqs _ ao));have hm:10 * a + (c.toNat-48)<=lN (10 * a + (c.toNat-48)) l:=RG l (10 * a + (c.toNat-48));simp only [Lib.parseUintM,E7,and_self,aqB];rw [Nat.mul_comm a 10,acK];have nO:10 * a<=10 * a + (c.toNat-48):=Nat.le_add_right _ _;generalize 10 * a + (c.toNat-48)=A at bd hm nO ⊢;refine ⟨fun aN=>?_,fun bp kd=>?_⟩
   . rw [aqa (by omega),aqa (by omega)];exact bd.1 aN
   . by_cases aa:1844674407370955162<=a
     . rw [aqf aa]
     . rw [aqa aa];by_cases ae:M<A
       . rw [aqf ae]
       . rw [aqa ae];exact bd.2 (by omega) kd
theorem ak4 (l:List UInt8) (h:∀c ∈ l,fx c=true) (aw:l≠[]):(jQ l<=18446744073709551615->Lib.parseUintB 64 l=.ok (jQ l))/\(¬jQ l<=18446744073709551615->Lib.parseUintB 64 l=.range):=by unfold Lib.parseUintB;rw [aqa aw,show (2 ^ 64-1:Nat)=18446744073709551615 from by decide];have:=ak5 18446744073709551615 (by omega) l 0 h;exact ⟨this.1,this.2 (arj _)⟩
structure pc (s:List UInt8) (p:Nat) (b:aQ) (h:ag) (res:uf) (x:V) (ab:ag):Prop where
 mod:Mod (fun q=>q=b) h ab
 res:∃k n t,x=.agg [.int .i64 k,.int .i64 n,.int .i64 0,.str t]/\match res with
  | .ok q=>k=q.1/\n=q.2.1/\t=q.2.2.1/\ab.get b=fs s ((p+q.2.2.2:Nat):Int) 0/\p+q.2.2.2<=s.length
  | .error e=>e≠0/\∃bn:Int,ab.get b=fs s bn e
theorem Lb {P:Program}:(eK.lL true 5).run P .nilIface .nilIface=some (.bool false):=rfl
theorem ajO {P:Program} (T:TypeId) (x:V):(eK.lL true 5).run P (.iface T x) .nilIface=some (.bool true):=rfl
theorem WA {p:UInt8->Bool} {l:List UInt8}:∀c ∈ l.takeWhile p,p c=true:=fun c av=>by
 induction l with
 | nil=>simp at av
 | cons x l bd=>
   simp only [arI] at av
   split at av
   . rename_i ao;rcases aql.1 av with rfl | av
     . exact ao
     . exact bd av
   . simp at av
theorem WB (p:UInt8->Bool) (s:List UInt8) (a:Nat):((s.drop a).takeWhile p).length<=s.length-a:=by have:=WC p (s.drop a);rwa [aqG] at this
theorem aj4 (s:List UInt8) (a0:Nat) (b:aQ) (h:ag) (ak:h.get b=fs s a0 0) (a1:a0<s.length) (aO:s.length<=100000) (gv:Old h b) (aq:fx s[a0]=true):
 cr Tryz.prog 121 [.ptr b 0] h (pc s a0 b h (zH (s.drop a0))):=by
 refine ZB.z rfl (cm ?_);unfold OC;have dh:(b=aG h.next)=False:=CA gv (ap7 _);have c6:(aG h.next=b)=False:=by rw [<-dh];exact propext eq_comm
 simp +contextual only [ak,dh,c6,↓af,an,simprocAttr];have ao:Ext h (h.new (.bU [.int .i64 0,.int .i64 0,.int .i64 0,.str []] 0 false)):=(Ext.refl h).new _;refine bF (V2 s a0 0 b 120 nF _ (by rw [ao.get _ gv,ak]) (by omega) aO (by decide) (fun c h=>yl c h)) ?_;rintro x aa ⟨rfl,hm,aL⟩;have kW:(fun c:UInt8=>nF (c.toNat:Int))=fx:=rfl;rw [kW] at aL ⊢;have wW:Mod (fun q=>q=b) h aa:=(ao.mod _).trans hm;have g1:aa.get (aG h.next)=.bU [.int .i64 0,.int .i64 0,.int .i64 0,.str []] 0 false:=by rw [hm.get _ (iJ (by rw [ir];omega)) (by rw [c6];exact id)];simp only [↓af,an,simprocAttr]
 have cK:(s.drop a0).takeWhile fx≠[]:=by rw [drop_cons a1,arI,aq];simp
 have hlen:=WB fx s a0;have ai:=ak4 ((s.drop a0).takeWhile fx) WA cK;unfold fs at aL;have wX:zH (s.drop a0)=if 2147483647<jQ ((s.drop a0).takeWhile fx) then .error 254 else .ok (1,(if 1073741823 < (jQ ((s.drop a0).takeWhile fx):Int) then (jQ ((s.drop a0).takeWhile fx):Int)-2147483648 else jQ ((s.drop a0).takeWhile fx)),[],((s.drop a0).takeWhile fx).length):=rfl;rw [wX];generalize (s.drop a0).takeWhile fx=t at *;simp +contextual only [↓af,an,simprocAttr];by_cases Bx:jQ t<=18446744073709551615
 . refine gr (ak6 t (jQ t) (by omega) (ai.1 Bx) aa) ?_;generalize jQ t=u at *;by_cases Jd:(2147483647:Int) < (u:Int)
   . have yG:2147483647<u:=by omega
     simp +contextual only [Lb,Jd,g1,aL,dh,c6,↓af,an,simprocAttr];refine ⟨(wW.set (fun _=>rfl) _).set (fun q=>absurd (show ck (aG h.next)<h.next from q) (by rw [dx];omega)) _,?_⟩;rw [aqf yG];refine ⟨_,_,_,rfl,by decide,((a0+t.length:Nat):Int),?_⟩;simp only [fs,dh,c6,↓af,an,simprocAttr]
   . have yG:¬2147483647<u:=by omega
     have bT:IntKind.i64.wrap (u:Int)=(u:Int):=wrap_i64 (by omega) (by omega);have bN:IntKind.i64.wrap ((u:Int)-2147483648)=(u:Int)-2147483648:=wrap_i64 (by omega) (by omega);by_cases R1:(1073741823:Int) < (u:Int)
     . simp +contextual only [Lb,Jd,yG,R1,g1,aL,dh,c6,bT,bN,↓af,an,simprocAttr];refine ⟨(wW.set (fun q=>absurd (show ck (aG h.next)<h.next from q) (by rw [dx];omega)) _),?_⟩;refine ⟨_,_,_,rfl,rfl,rfl,rfl,?_,by show a0+t.length<=s.length;omega⟩;simp only [fs,aL,dh,c6,↓af,an,simprocAttr]
     . simp +contextual only [Lb,Jd,yG,R1,g1,aL,dh,c6,bT,bN,↓af,an,simprocAttr];refine ⟨(wW.set (fun q=>absurd (show ck (aG h.next)<h.next from q) (by rw [dx];omega)) _),?_⟩;refine ⟨_,_,_,rfl,rfl,rfl,rfl,?_,by show a0+t.length<=s.length;omega⟩;simp only [fs,aL,dh,c6,↓af,an,simprocAttr]
 . refine gr (ak8 t (by omega) (ai.2 Bx) aa) ?_;have yG:2147483647<jQ t:=by omega
   rw [aqf yG];simp +contextual only [ajO,g1,aL,dh,c6,↓af,an,simprocAttr];refine ⟨(wW.set (fun _=>rfl) _).set (fun q=>absurd (show ck (aG h.next)<h.next from q) (by rw [dx];omega)) _,?_⟩;refine ⟨_,_,_,rfl,by decide,((a0+t.length:Nat):Int),?_⟩;simp only [fs,dh,c6,↓af,an,simprocAttr]
theorem WI (c:UInt8):((c.toNat:Int)).toNat.toUInt8=c:=by rw [aqc];simp
theorem xI (c:UInt8) (n:Nat) (aW:n<256):((c.toNat:Int)=(n:Int))=(c=n.toUInt8):=by
 apply propext;constructor
 . intro q;have:c.toNat=n:=by omega
   rw [<-ash,this];simp;omega
 . intro q;subst q;simp;omega
theorem acf (c:UInt8):Lib.indexByte [110,116,34,92] c=if c=110 then 0 else if c=116 then 1 else if c=34 then 2 else if c=92 then 3 else -1:=by
 simp only [Lib.indexByte,arO];by_cases aa:c=110
 . subst aa;decide
 . by_cases ae:c=116
   . subst ae;decide
   . by_cases aM:c=34
     . subst aM;decide
     . by_cases bw:c=92
       . subst bw;decide
       . have ax:¬(110:UInt8)=c:=fun q=>aa q.symm;have aH:¬(116:UInt8)=c:=fun q=>ae q.symm;have bA:¬(34:UInt8)=c:=fun q=>aM q.symm;have b5:¬(92:UInt8)=c:=fun q=>bw q.symm;simp only [aa,ae,aM,bw,ax,aH,bA,b5,aqD];rfl
theorem IA {c:UInt8} (h:fx c=true):Lib.digitVal c=some (c.toNat-48):=by unfold Lib.digitVal;unfold fx nF at h;simp only [ap2,aqg] at h;rw [aqf (by omega)]
theorem YS {a b c:UInt8} (aa:fx a=true) (ae:fx b=true) (aM:fx c=true):Lib.atoi [a,b,c]=some ((jQ [a,b,c]:Nat):Int):=by
 have bp:=aa;unfold fx nF at bp;simp only [ap2,aqg] at bp;have cg:(a == 45)=false:=by rw [arw];rintro rfl;revert bp;decide
 have dv:(a == 43)=false:=by rw [arw];rintro rfl;revert bp;decide
 simp [Lib.atoi,cg,dv,Lib.decNat,Lib.decFrom,IA aa,IA ae,IA aM,jQ];omega
theorem acg (s:List UInt8) (a0:Nat) (b:aQ) (h:ag) (ak:h.get b=fs s a0 0) (a1:a0<s.length) (aO:s.length<=100000) (gv:Old h b):
 cr Tryz.prog 132 [.ptr b 0] h fun x ab=>Mod (fun q=>q=b) h ab/\match qj (s.drop (a0+1)) with
  | some (c,n)=>x=.int .u8 (c.toNat:Int)/\ab.get b=fs s ((a0+1+n:Nat):Int) 0/\a0+1+n<=s.length
  | none=>x=.int .u8 0/\ab.get b=fs s ((a0+1:Nat):Int) 252:=by
 refine ZJ.z rfl (cm ?_);unfold OM;unfold fs at ak ⊢;have bT:IntKind.i64.wrap ((a0:Int)+1)=((a0+1:Nat):Int):=by rw [wrap_i64 (by omega) (by omega)];rfl
 have f0:(0<=((a0+1:Nat):Int))=True:=aqh (by omega);have f1:(((a0+1:Nat):Int)<=(s.length:Int))=True:=aqh (by omega);have wR:(s.drop (a0+1)).length=s.length - (a0+1):=aqG;have z0:((0:Int)<=0)=True:=aqh (by omega);have mD:∀v,a7.Mod (fun q=>q=b) h ((h.set b v)):=fun v=>(Mod.refl (fun q=>q=b) h).set (fun _=>rfl) _;cases cT:s.drop (a0+1) with
 | nil=>
   simp +contextual only [ak,bT,f0,f1,aqc,cT,aqN,Int.natCast_zero,↓af,an,simprocAttr];refine ⟨(mD _).set (fun _=>rfl) _,?_⟩;simp only [qj,ej,aqB,asb]
 | cons c r=>
   rw [cT] at wR;rw [aqb] at wR;have cA:(c::r=[])=False:=ap_ (by simp);have f2:((0:Int) < ((r.length+1:Nat):Int))=True:=aqh (by omega);simp +contextual only [ak,bT,f0,f1,f2,cA,aqc,cT,Int.reduceToNat,z0,↓af,an,simprocAttr];refine gr (Tk _ _ _) ?_;rw [WI,acf];have bN:IntKind.i64.wrap (((a0+1:Nat):Int)+1)=((a0+2:Nat):Int):=by rw [wrap_i64 (by omega) (by omega)];omega
   by_cases bW:c=110
   . subst bW;simp +contextual only [ak,bT,bN,f0,f1,f2,cA,aqc,cT,Int.reduceToNat,z0,aqb,aqN,Nat.reduceAdd,Int.reduceLT,aq4,↓af,an,simprocAttr];refine ⟨(mD _).set (fun _=>rfl) _,rfl,?_⟩;simp only [ej,aqB];refine ⟨trivial,by omega⟩
   by_cases b6:c=116
   . subst b6;simp +contextual only [ak,bT,bN,f0,f1,f2,cA,aqc,cT,Int.reduceToNat,z0,aqb,aqN,Nat.reduceAdd,Int.reduceLT,aq4,bW,↓af,an,simprocAttr];refine ⟨(mD _).set (fun _=>rfl) _,rfl,?_⟩;simp only [ej,aqB];refine ⟨trivial,by omega⟩
   by_cases c3:c=34
   . subst c3;simp +contextual only [ak,bT,bN,f0,f1,f2,cA,aqc,cT,Int.reduceToNat,z0,aqb,aqN,Nat.reduceAdd,Int.reduceLT,aq4,bW,b6,↓af,an,simprocAttr];refine ⟨(mD _).set (fun _=>rfl) _,rfl,?_⟩;simp only [ej,aqB];refine ⟨trivial,by omega⟩
   by_cases fU:c=92
   . subst fU;simp +contextual only [ak,bT,bN,f0,f1,f2,cA,aqc,cT,Int.reduceToNat,z0,aqb,aqN,Nat.reduceAdd,Int.reduceLT,aq4,bW,b6,c3,↓af,an,simprocAttr];refine ⟨(mD _).set (fun _=>rfl) _,rfl,?_⟩;simp only [ej,aqB];refine ⟨trivial,by omega⟩
   match r,cT,wR,f2,cA with
   | [],cT,wR,f2,cA=>
     simp +contextual only [ak,bT,bN,f0,f1,f2,cA,aqc,cT,Int.reduceToNat,z0,aqb,aqN,Nat.reduceAdd,Int.reduceLT,aq4,bW,b6,c3,fU,↓af,an,simprocAttr];refine ⟨(mD _).set (fun _=>rfl) _,?_⟩;simp [qj,bW,b6,c3,fU,ej]
   | [_],cT,wR,f2,cA=>
     simp +contextual only [ak,bT,bN,f0,f1,f2,cA,aqc,cT,Int.reduceToNat,z0,aqb,aqN,Nat.reduceAdd,Int.reduceLT,aq4,bW,b6,c3,fU,↓af,an,simprocAttr];refine ⟨(mD _).set (fun _=>rfl) _,?_⟩;simp [qj,bW,b6,c3,fU,ej]
   | d1::d2::bb,cT,wR,f2,cA=>
     simp only [aqb] at wR;have g3:((3:Int)<=((bb.length+3:Nat):Int))=True:=aqh (by omega);have g2:((2:Int) < ((bb.length+3:Nat):Int))=True:=aqh (by omega);have g1:((1:Int) < ((bb.length+3:Nat):Int))=True:=aqh (by omega);have g0:((0:Int) < ((bb.length+3:Nat):Int))=True:=aqh (by omega);have em:qj (c::d1::d2::bb)=if fx c/\fx d1/\fx d2/\jQ [c,d1,d2]<256 then some ((jQ [c,d1,d2]).toUInt8,3) else none:=by simp [qj,bW,b6,c3,fU]
     rw [em];simp +contextual only [ak,bT,bN,f0,f1,g0,g1,g2,g3,cA,aqc,cT,Int.reduceToNat,z0,aqb,aqN,Nat.reduceAdd,Int.reduceLT,aq4,bW,b6,c3,fU,↓af,an,simprocAttr];refine gr (yl _ _) ?_;have dg:∀x:UInt8,nF (x.toNat:Int)=fx x:=fun _=>rfl;simp only [dg];cases ad6:fx c with
     | false=>
       simp +contextual only [ak,bT,bN,f0,f1,g0,g1,g2,g3,cA,aqc,cT,Int.reduceToNat,z0,aqb,aqN,Nat.reduceAdd,Int.reduceLT,aq4,bW,b6,c3,fU,asu,aqd,↓af,an,simprocAttr];exact (mD _).set (fun _=>rfl) _
     | true=>
       simp +contextual only [ak,bT,bN,f0,f1,g0,g1,g2,g3,cA,aqc,cT,Int.reduceToNat,z0,aqb,aqN,Nat.reduceAdd,Int.reduceLT,aq4,bW,b6,c3,fU,↓af,an,simprocAttr];refine gr (yl _ _) ?_;simp only [dg];cases E8:fx d1 with
       | false=>
         simp +contextual only [ak,bT,bN,f0,f1,g0,g1,g2,g3,cA,aqc,cT,Int.reduceToNat,z0,aqb,aqN,Nat.reduceAdd,Int.reduceLT,aq4,bW,b6,c3,fU,asu,asy,aqd,↓af,an,simprocAttr];exact (mD _).set (fun _=>rfl) _
       | true=>
         simp +contextual only [ak,bT,bN,f0,f1,g0,g1,g2,g3,cA,aqc,cT,Int.reduceToNat,z0,aqb,aqN,Nat.reduceAdd,Int.reduceLT,aq4,bW,b6,c3,fU,↓af,an,simprocAttr];refine gr (yl _ _) ?_;simp only [dg];cases E9:fx d2 with
         | false=>
           simp +contextual only [ak,bT,bN,f0,f1,g0,g1,g2,g3,cA,aqc,cT,Int.reduceToNat,z0,aqb,aqN,Nat.reduceAdd,Int.reduceLT,aq4,bW,b6,c3,fU,asu,asy,aqd,↓af,an,simprocAttr];exact (mD _).set (fun _=>rfl) _
         | true=>
           have z3:((0:Int)<=3)=True:=aqh (by omega);simp +contextual only [ak,bT,bN,f0,f1,g0,g1,g2,g3,z3,cA,aqc,cT,Int.reduceToNat,z0,aqb,aqN,Nat.reduceAdd,Int.reduceLT,aq4,bW,b6,c3,fU,↓af,an,simprocAttr];refine gr (YT [c,d1,d2] _ (by simp) (YS ad6 E8 E9) _) ?_;have ly:IntKind.i64.wrap (((a0+1:Nat):Int)+3)=((a0+4:Nat):Int):=by rw [wrap_i64 (by omega) (by omega)];omega
           generalize bz:jQ [c,d1,d2]=v;by_cases S5:(v:Int)<256
           . have ic:IntKind.u8.wrap (v:Int)=((v.toUInt8).toNat:Int):=by
              simp [IntKind.wrap,IntKind.bits,IntKind.signed]
             have Ks:v<256:=by omega
             simp +contextual only [ak,bT,bN,ly,ic,f0,f1,g0,g1,g2,g3,cA,S5,Ks,aqc,cT,Int.reduceToNat,z0,aqb,aqN,Nat.reduceAdd,Int.reduceLT,aq4,bW,b6,c3,fU,and_self,asb,↓af,an,simprocAttr];refine ⟨(mD _).set (fun _=>rfl) _,?_⟩
             first | omega | (refine ⟨?_,by omega⟩;simp [ej]) | skip
           . have Ks:¬v<256:=by omega
             simp +contextual only [ak,bT,bN,ly,f0,f1,g0,g1,g2,g3,cA,S5,Ks,aqc,cT,Int.reduceToNat,z0,aqb,aqN,Nat.reduceAdd,Int.reduceLT,aq4,bW,b6,c3,fU,asy,↓af,an,simprocAttr];exact (mD _).set (fun _=>rfl) _
theorem anB (c:UInt8) (n:Nat) (aW:n<256):((c.toNat:Int) < (n:Int))=(c<n.toUInt8):=by
 apply propext;rw [UInt8.lt_iff_toNat_lt];have:(n.toUInt8).toNat=n:=by simp;omega
 rw [this];omega
theorem anj (s:List UInt8) (a0:Nat) (b:aQ) (h:ag) (ak:h.get b=fs s a0 0) (a1:a0<s.length) (aO:s.length<=100000) (gv:Old h b):
 cr Tryz.prog 122 [.ptr b 0] h (pc s a0 b h (tJ (s.drop (a0+1)))):=by
 refine ZC.z rfl (cm ?_);unfold OD;have dh:(b=aG h.next)=False:=CA gv (ap7 _);have c6:(aG h.next=b)=False:=by rw [<-dh];exact propext eq_comm
 have bT:IntKind.i64.wrap ((a0:Int)+1)=((a0+1:Nat):Int):=by rw [wrap_i64 (by omega) (by omega)];rfl
 unfold fs at ak;simp +contextual only [ak,dh,c6,bT,↓af,an,simprocAttr];have zG:∀{v:V} {ab:ag} {n:Nat} {us:List V},ec (h.next+1) ab 1 v n us->∀q,v.a' q->¬(fun q=>q=b) q:=by
  intro v ab n us h6 q ar he;have aa:=h6.base ar;rw [show q=b from he] at aa;have ae:ck b<h.next:=gv
  omega
 have Y_:∀{v:V} {ab:ag} {n:Nat} {us:List V},ec (h.next+1) ab 1 v n us->∀i,i<h.next+1->¬v.a' (aG i):=by intro v ab n us h6 i aB ar;have aa:=h6.base ar;rw [dx] at aa;omega
 refine ek (fun r ab=>r 0=.ptr b 0/\r 2=.ptr (aG h.next) 0/\∃(a:Nat) (e:Int) (ff:List UInt8) (v:V),r 3=v/\ab.get b=.bU [.str s,.int .i64 a,.int .i64 e] 0 false/\a<=s.length/\a0+1<=a/\ff.length<=a/\
  ab.get (aG h.next)=.bU [.int .i64 0,.int .i64 0,.int .i64 0,.str []] 0 false/\Mod (fun q=>q=b) h ab/\h.next+1<=ab.next/\ec (h.next+1) ab 1 v ff.length (iQ ff)/\
  ((e=0/\q3 (s.drop (a0+1))=(q3 (s.drop a)).map fun q=>(ff++q.1,q.2 + (a - (a0+1))))\/(e=252/\q3 (s.drop (a0+1))=none)))
  (fun r ab=>(s.length - ((gX (ab.get b) 1).getD .bad).toN) + (252 - ((gX (ab.get b) 2).getD .bad).toN)) ?_ ?_
 . refine ⟨by simp only [dh,c6,↓af,an,simprocAttr],by simp only [dh,c6,↓af,an,simprocAttr],a0+1,0,[],.bL,by simp only [dh,c6,↓af,an,simprocAttr],by simp only [dh,c6,↓af,an,simprocAttr],by omega,by omega,by simp,by simp only [dh,c6,↓af,an,simprocAttr],?_,?_,⟨rfl,rfl⟩,.inl ⟨rfl,?_⟩⟩
   . exact (((Ext.refl h).new _).mod (fun q=>q=b)).self _
   . rw [oT,ir];exact ap7 _
   . rw [ar6];cases q3 (s.drop (a0+1))<;>rfl
 . rintro r ab ⟨aU,b',a,e,ff,v,bP,aL,cd,nX,hH,bl,hm,mX,h6,bx⟩;unfold OE;have SK:Old ab b:=hm.bY gv;have fin:∀(ae:ag) (bn:Int),q3 (s.drop (a0+1))=none->Mod (fun q=>q=b) h ae->ae.get b=.bU [.str s,.int .i64 bn,.int .i64 252] 0 false->
    pc s a0 b h (tJ (s.drop (a0+1))) (.agg [.int .i64 0,.int .i64 0,.int .i64 0,.str []]) (ae.set (aG h.next) (.bU [.int .i64 0,.int .i64 0,.int .i64 0,.str []] 0 false)):=by
    intro ae bn aW kg wK;unfold tJ;rw [aW];refine ⟨kg.set (fun q=>absurd (show ck (aG h.next)<h.next from q) (by rw [dx];omega)) _,_,_,_,rfl,by decide,bn,?_⟩;rw [ej,aqa (by rw [c6];exact id),wK];rfl
   have step:∀(ae:ag),Mod (fun q=>q=b) h ae->ab.next<=ae.next->ec (h.next+1) ae 1 v ff.length (iQ ff)->∀(c:UInt8),∃v3 aM,lF 1 v (.slice (aG ae.next) 0 1 1) (ae.new (.bU [.int .u8 (c.toNat:Int)] 0 false))=.val v3 aM/\ec (h.next+1) aM 1 v3 (ff++[c]).length (iQ (ff++[c]))/\Mod (fun q=>q=b) h aM/\h.next+1<=aM.next/\aM.get b=ae.get b/\aM.get (aG h.next)=ae.get (aG h.next):=by
    intro ae kg ao5 lP c;obtain ⟨v3,aM,al,au,aJ,bE,c1⟩:=AZ (cs:=[.int .u8 (c.toNat:Int)]) (by omega) lP (by omega) (by unfold top;omega) rfl rfl;refine ⟨v3,aM,al,by rw [aqi,N_];exact au,kg.anm aJ (fun q ar=>aqK (Nat.le_succ _) (lP.base ar)),by omega,?_,?_⟩
    . exact aJ.get _ (kg.bY gv) (fun ar=>zG lP _ ar rfl)
    . exact aJ.get _ (iJ (by omega)) (Y_ lP _ (by omega))
   rcases bx with ⟨rfl,bx⟩ | ⟨rfl,bx⟩
   . by_cases gF:(s.length:Int)<=(a:Int)
     . have bp:a=s.length:=by omega
       rw [bp,ase,ani] at bx;simp +contextual only [aU,b',bP,aL,gF,bl,dh,c6,↓af,an,simprocAttr];exact fin _ _ bx (hm.set (fun _=>rfl) _) (by rw [ej,aqf rfl])
     . have aN:a<s.length:=by omega
       rw [drop_cons aN,anh] at bx;have f0:(0<=(a:Int))=True:=aqh (by omega);have f1:((a:Int) < (s.length:Int))=True:=aqh (by omega);have bN:IntKind.i64.wrap ((a:Int)+1)=((a+1:Nat):Int):=by rw [wrap_i64 (by omega) (by omega)];rfl
       have lJ:(((s[a]).toNat:Int)=34)=(s[a]=34):=xI _ 34 (by omega);have II:(((s[a]).toNat:Int)=92)=(s[a]=92):=xI _ 92 (by omega);have Q3:(((s[a]).toNat:Int)=127)=(s[a]=127):=xI _ 127 (by omega);have TC:(((s[a]).toNat:Int)<32)=(s[a]<32):=anB _ 32 (by omega);by_cases bW:s[a]=34
       . rw [aqf bW] at bx;replace bW:(s[a]=34)=True:=aqh bW;simp only [arL,aq7] at bx;by_cases Bx:(4096:Int) < (ff.length:Int)
         . have lP:∀k cn,ec (h.next+1) ((ab.set b k).set b cn) 1 v ff.length (iQ ff):=fun k cn=>h6.mod (((Mod.refl (fun q=>q=b) ab).set (fun _=>rfl) _).set (fun _=>rfl) _) (zG h6);simp +contextual only [aU,b',bP,aL,gF,bl,dh,c6,f0,f1,bN,lJ,bW,h6.v.len,Bx,Qz (lP _ _),ap4 aN,aqc,↓af,an,simprocAttr];refine ⟨((hm.set (fun _=>rfl) _).set (fun _=>rfl) _).set (fun q=>absurd (show ck (aG h.next)<h.next from q) (by rw [dx];omega)) _,_,_,_,rfl,?_⟩;unfold tJ;rw [bx];simp only;rw [aqf (by omega)];refine ⟨by decide,((a+1:Nat):Int),?_⟩;simp only [fs,dh,c6,↓af,an,simprocAttr]
         . have lP:∀k,ec (h.next+1) (ab.set b k) 1 v ff.length (iQ ff):=fun k=>h6.mod ((Mod.refl (fun q=>q=b) ab).set (fun _=>rfl) _) (zG h6);simp +contextual only [aU,b',bP,aL,gF,bl,dh,c6,f0,f1,bN,lJ,bW,h6.v.len,Bx,Qz (lP _),ap4 aN,aqc,↓af,an,simprocAttr];refine ⟨(hm.set (fun _=>rfl) _).set (fun q=>absurd (show ck (aG h.next)<h.next from q) (by rw [dx];omega)) _,_,_,_,rfl,?_⟩;unfold tJ;rw [bx];simp only;rw [aqa (by omega)];refine ⟨rfl,rfl,rfl,?_,?_⟩
           . simp only [fs,dh,c6,↓af,an,simprocAttr];rw [show a0 + (1 + (a - (a0+1))+1)=a+1 from by omega]
           . simp only;omega
       rw [aqa bW] at bx;by_cases b6:s[a]=92
       . rw [aqf b6] at bx;replace b6:(s[a]=92)=True:=aqh b6;simp +contextual only [aU,b',bP,aL,gF,bl,dh,c6,f0,f1,bN,lJ,II,bW,b6,ap4 aN,aqc,↓af,an,simprocAttr];refine bF (acg s a b ab aL aN aO SK) ?_;rintro x ae ⟨kg,ao⟩;have lP:=h6.mod kg (zG h6);have rY:ae.get (aG h.next)=.bU [.int .i64 0,.int .i64 0,.int .i64 0,.str []] 0 false:=by
          rw [kg.get _ (iJ (by omega)) (by rw [c6];exact id),bl]
         have CC:=kg.next
         obtain ⟨c,av,zc⟩:∃c:UInt8,x=.int .u8 (c.toNat:Int)/\((∃n,qj (s.drop (a+1))=some (c,n)/\ae.get b=fs s ((a+1+n:Nat):Int) 0/\a+1+n<=s.length)\/(qj (s.drop (a+1))=none/\ae.get b=fs s ((a+1:Nat):Int) 252)):=by
          cases yT:qj (s.drop (a+1)) with
          | none=>rw [yT] at ao;exact ⟨0,ao.1,.inr ⟨rfl,ao.2⟩⟩
          | some q=>rw [yT] at ao;exact ⟨q.1,ao.1,.inl ⟨q.2,rfl,ao.2⟩⟩
         subst av;obtain ⟨v3,aM,al,au,aJ,bE,c1,eh⟩:=step ae (hm.trans kg) CC lP c;have Vy:ec (h.next+1) aM 1 v3 (ff.length+1) (iQ (ff++[c])):=by rw [aqi] at au;exact au
         have Cb:aM.get (aG h.next)=.bU [.int .i64 0,.int .i64 0,.int .i64 0,.str []] 0 false:=by rw [eh,rY]
         unfold fs at zc;rcases zc with ⟨n,yT,wK,hle⟩ | ⟨yT,wK⟩
         . simp +contextual only [al,aU,b',aL,wK,c1,dh,c6,↓af,an,simprocAttr];rw [yT] at bx;simp only at bx;refine ⟨⟨a+1+n,0,ff++[c],rfl,hle,by omega,by simp;omega,Cb,aJ,bE,au,.inl ⟨rfl,?_⟩⟩,by omega⟩;rw [bx,arn,asx];congr 1;funext q;simp only [Function.comp,arf,List.singleton_append,aq9,asb];omega
         . simp +contextual only [al,aU,b',aL,wK,c1,dh,c6,↓af,an,simprocAttr];rw [yT] at bx;exact ⟨⟨a+1,252,ff++[c],rfl,by omega,by omega,by simp;omega,Cb,aJ,bE,au,.inr ⟨rfl,bx⟩⟩,by omega⟩
       rw [aqa b6] at bx;by_cases c3:s[a]<32\/s[a]=127
       . rw [aqf c3] at bx;have qa:(decide (s[a]<32)||decide (s[a]=127))=true:=by simpa using c3
         simp +contextual only [aU,b',bP,aL,gF,bl,dh,c6,f0,f1,bN,lJ,II,Q3,TC,bW,b6,qa,ap4 aN,aqc,↓af,an,simprocAttr];exact ⟨⟨a,252,ff,rfl,cd,nX,hH,hm.self _,mX,h6.mod ((Mod.refl (fun q=>q=b) ab).self _) (zG h6),.inr ⟨rfl,bx⟩⟩,by omega⟩
       . rw [aqa c3] at bx;have qa:(decide (s[a]<32)||decide (s[a]=127))=false:=by simpa using c3
         obtain ⟨v3,aM,al,au,aJ,bE,c1,eh⟩:=step (ab.set b (.bU [.str s,.int .i64 ((a+1:Nat):Int),.int .i64 0] 0 false)) (hm.self _) (by rw [oT];exact ap7 _) (h6.mod ((Mod.refl (fun q=>q=b) ab).self _) (zG h6)) s[a];simp only [oT,ej,dh,c6,aqB,aqD] at al c1 eh;simp +contextual only [al,aU,b',bP,aL,gF,bl,dh,c6,f0,f1,bN,lJ,II,Q3,TC,bW,b6,qa,c1,ap4 aN,aqc,↓af,an,simprocAttr];refine ⟨⟨a+1,0,ff++[s[a]],rfl,by omega,by omega,by simp;omega,by rw [eh,bl],aJ,bE,au,.inl ⟨rfl,?_⟩⟩,by omega⟩;rw [bx,asx];congr 1;funext q;simp only [Function.comp,arf,List.singleton_append,aq9,asb];omega
   . simp +contextual only [aU,b',bP,aL,bl,dh,c6,↓af,an,simprocAttr];exact fin _ _ bx hm aL
def KR:List UInt8:=[32,97,110,100,32,98,101,103,105,110,32,101,108,115,101,32,101,110,100,32,101,120,99,101,112,116,105,111,110,32,102,97,108,115,101,32,102,117,110,32,105,102,32,105,110,32,108,101,116,32,109,97,116,99,104,32,109,111,100,32,111,102,32,114,97,105,115,101,32,114,101,99,32,116,104,101,110,32,116,114,117,101,32,116,114,121,32,116,121,112,101,32,119,105,116,104,32]
def uz:List (List UInt8)->List UInt8
 | []=>[32]
 | w::L=>32::(w++uz L)
theorem acE:uz uZ=KR:=by decide
theorem acD (L:List (List UInt8)):∃r,uz L=32::r:=by cases L<;>exact ⟨_,rfl⟩
theorem index_ge (sub:List UInt8):∀l:List UInt8,-1<=Lib.index l sub
 | []=>by simp only [Lib.index];split<;>decide
 | b::l=>by
   have:=index_ge sub l;simp only [Lib.index]
   split
   . decide
   . split<;>omega
theorem Tm (sub:List UInt8) (b:UInt8) (l:List UInt8):(0<=Lib.index (b::l) sub)↔(sub.isPrefixOf (b::l)=true\/0<=Lib.index l sub):=by
 have:=index_ge sub l;simp only [Lib.index]
 split
 . rename_i h;simp [h]
 . rename_i h
   split
   . rename_i ae;have:Lib.index l sub=-1:=by simpa using ae
     simp [h,this]
   . rename_i ae;have aM:¬Lib.index l sub=-1:=by simpa using ae
     simp only [h,aqd,false_or];omega
theorem To (x:List UInt8) (r:List UInt8):∀w:List UInt8,(32:UInt8) ∉ w->((0<=Lib.index (w++r) (32::x))↔0<=Lib.index r (32::x))
 | [],_=>Iff.rfl
 | b::w,h=>by
   rw [aqM,Tm,To x r w (fun q=>h (aqs _ q))];have ak:((32:UInt8) == b)=false:=by rw [arw];rintro rfl;exact h (aqy ..)
   simp [List.isPrefixOf,ak]
theorem Vk (r:List UInt8):∀(t w:List UInt8),(32:UInt8) ∉ t->(32:UInt8) ∉ w->((t++[32]).isPrefixOf (w++32::r)=true↔t=w)
 | [],[],_,_=>by simp [List.isPrefixOf]
 | [],b::w,_,h=>by
   have ak:((32:UInt8) == b)=false:=by rw [arw];rintro rfl;exact h (aqy ..)
   simp [List.isPrefixOf,ak]
 | a::t,[],h,_=>by
   have ak:(a == (32:UInt8))=false:=by rw [arw];rintro rfl;exact h (aqy ..)
   simp [List.isPrefixOf,ak]
 | a::t,b::w,h,ab=>by have bd:=Vk r t w (fun q=>h (aqs _ q)) (fun q=>ab (aqs _ q));simp only [aqM,List.isPrefixOf,ap2,arO,bd,arS]
theorem Tn (t:List UInt8) (aK:(32:UInt8) ∉ t):∀L:List (List UInt8),(∀w ∈ L,(32:UInt8) ∉ w)->((0<=Lib.index (uz L) (32::(t++[32])))↔t ∈ L)
 | [],_=>by cases t<;>simp [uz,Lib.index,List.isPrefixOf]
 | w::L,h=>by
   have bd:=Tn t aK L (fun x ao=>h x (aqs _ ao));have hw:=h w (aqy ..);obtain ⟨r,aD⟩:=acD L;simp only [uz];rw [Tm,To _ _ _ hw,bd,aql];have:(32::(t++[32])).isPrefixOf (32::(w++uz L))=(t++[32]).isPrefixOf (w++uz L):=by simp [List.isPrefixOf]
   rw [this,aD,Vk r t w aK hw]
theorem abi (t:List UInt8) (aK:(32:UInt8) ∉ t):Lib.contains KR (32::(t++[32]))=pI t:=by have:=Tn t aK uZ (by decide);rw [acE] at this;unfold Lib.contains pI;rw [aqX,aqg,this];simp
theorem ajn {l:List UInt8}:(32:UInt8) ∉ l.takeWhile fA:=fun h=>by have:=WA _ h;revert this;decide
theorem F6 (s:List UInt8) (a0:Nat) (k:Int) (b:aQ) (h:ag) (ak:h.get b=fs s a0 0) (a1:a0<=s.length) (aO:s.length<=100000) (gv:Old h b):
 cr Tryz.prog 124 [.ptr b 0,.int .i64 k] h (pc s a0 b h (kG k (s.drop a0))):=by
 refine ZE.z rfl (cm ?_);unfold OG;have dh:(b=aG h.next)=False:=CA gv (ap7 _);have c6:(aG h.next=b)=False:=by rw [<-dh];exact propext eq_comm
 simp +contextual only [ak,dh,c6,↓af,an,simprocAttr];have ao:Ext h (h.new (.bU [.int .i64 0,.int .i64 0,.int .i64 0,.str []] 0 false)):=(Ext.refl h).new _;refine bF (V2 s a0 0 b 133 u1 _ (by rw [ao.get _ gv,ak]) a1 aO (by decide) (fun c h=>ai_ c h)) ?_;rintro x aa ⟨rfl,hm,aL⟩;have kW:(fun c:UInt8=>u1 (c.toNat:Int))=fA:=rfl;rw [kW] at aL ⊢;have wW:Mod (fun q=>q=b) h aa:=(ao.mod _).trans hm;have g1:aa.get (aG h.next)=.bU [.int .i64 0,.int .i64 0,.int .i64 0,.str []] 0 false:=by rw [hm.get _ (iJ (by rw [ir];omega)) (by rw [c6];exact id)];simp only [↓af,an,simprocAttr]
 have hlen:=WB fA s a0;have adu:(32:UInt8) ∉ (s.drop a0).takeWhile fA:=ajn;unfold fs at aL;have wX:kG k (s.drop a0)=if k=3/\(s.drop a0).takeWhile fA=[95] then .ok (7,0,(s.drop a0).takeWhile fA,((s.drop a0).takeWhile fA).length) else if k=3/\pI ((s.drop a0).takeWhile fA) then .ok (6,0,(s.drop a0).takeWhile fA,((s.drop a0).takeWhile fA).length) else if 64 < ((s.drop a0).takeWhile fA).length then .error 255 else .ok (k,0,(s.drop a0).takeWhile fA,((s.drop a0).takeWhile fA).length):=rfl;rw [wX];generalize (s.drop a0).takeWhile fA=t at *;have Gd:∀(cN:Int),pc s a0 b h (.ok (cN,0,t,t.length)) (.agg [.int .i64 cN,.int .i64 0,.int .i64 0,.str t]) (aa.set (aG h.next) (.bU [.int .i64 cN,.int .i64 0,.int .i64 0,.str t] 0 false)):=by intro cN;refine ⟨wW.fresh (ap7 _) _,_,_,_,rfl,rfl,rfl,rfl,?_,by show a0+t.length<=s.length;omega⟩;rw [ej,aqa (by rw [c6];exact id),aL];rfl
 have tail:(64<t.length->pc s a0 b h (.error 255) (.agg [.int .i64 k,.int .i64 0,.int .i64 0,.str t]) ((aa.set b (.bU [.str s,.int .i64 ((a0+t.length:Nat):Int),.int .i64 255] 0 false)).set (aG h.next) (.bU [.int .i64 k,.int .i64 0,.int .i64 0,.str t] 0 false))):=by intro aw;refine ⟨(wW.self _).fresh (ap7 _) _,_,_,_,rfl,by decide,((a0+t.length:Nat):Int),?_⟩;simp only [fs,dh,c6,↓af,an,simprocAttr]
 by_cases aA:k=3
 . subst aA;by_cases hu:t=[95]
   . simp +contextual only [g1,aL,dh,c6,hu,asb,↓af,an,simprocAttr];subst hu;exact Gd 7
   . have t1:(1+t.length<=top)=True:=aqh (by unfold top;omega);have t2:(t.length+1+1<=top)=True:=aqh (by unfold top;omega);simp only [top] at t1 t2;simp +contextual only [g1,aL,dh,c6,hu,asb,aqi,t1,t2,↓af,an,simprocAttr];refine gr (abh KR (32::(t++[32])) (by decide) _) ?_;rw [abi t adu];cases JS:pI t with
     | true=>
       simp +contextual only [g1,aL,dh,c6,hu,asb,asy,JS,aqi,t1,t2,↓af,an,simprocAttr];exact Gd 6
     | false=>
       by_cases aw:64<t.length
       . have fm:(64:Int) < (t.length:Int):=by omega
         simp +contextual only [g1,aL,dh,c6,hu,aw,fm,asb,asy,JS,aqi,t1,t2,aqd,↓af,an,simprocAttr];exact tail aw
       . have fm:¬(64:Int) < (t.length:Int):=by omega
         simp +contextual only [g1,aL,dh,c6,hu,aw,fm,asb,asy,JS,aqi,t1,t2,aqd,↓af,an,simprocAttr];exact Gd 3
 . by_cases aw:64<t.length
   . have fm:(64:Int) < (t.length:Int):=by omega
     simp +contextual only [g1,aL,dh,c6,aA,aw,fm,asu,↓af,an,simprocAttr];exact tail aw
   . have fm:¬(64:Int) < (t.length:Int):=by omega
     simp +contextual only [g1,aL,dh,c6,aA,aw,fm,asu,↓af,an,simprocAttr];exact Gd k
def Ac:List V:=j8.map V.str
theorem amF (h:ag):cr Tryz.prog 126 [] h fun x ab=>x=.slice (aG h.next) 0 17 17/\ab=h.new (.bU Ac 0 false):=by refine ZG.z rfl (cm ?_);unfold OI;simp +contextual only [↓af,an,simprocAttr];rfl
theorem amD {i:Nat} (aB:i<17):Ac[i]? =some (.str (j8[i]'aB)):=by unfold Ac;rw [aq2,ap4 (show i<j8.length from aB)];rfl
theorem acB (p:List UInt8->Bool) {i:Nat} (aB:i<17):(j8.drop i).find? p=if p (j8[i]'aB) then some (j8[i]'aB) else (j8.drop (i+1)).find? p:=by rw [aqz (show i<j8.length from aB),List.find?_cons];cases p j8[i]<;>rfl
theorem pc.store {s:List UInt8} {p:Nat} {b:aQ} {h:ag} {z cn:b8} {res:uf} {x:V} {aa:ag} (w:pc s p b (h.new z) res x aa) (gv:Old h b):pc s p b h res x (aa.set (aG h.next) cn):=by
 have c6:¬(aG h.next=b):=by
  intro q;have:ck b<h.next:=gv
  rw [<-q,dx] at this;omega
 obtain ⟨hm,k,n,t,ao,aD⟩:=w;refine ⟨((((Ext.refl h).new z).mod _).trans hm).fresh (ap7 _) _,k,n,t,ao,?_⟩;cases res with
 | ok q=>simpa only [ej,aqa c6] using aD
 | error e=>simpa only [ej,aqa c6] using aD
theorem ajV (s:List UInt8) (a0:Nat) (b:aQ) (h:ag) (ak:h.get b=fs s a0 0) (a1:a0<s.length) (aO:s.length<=100000) (gv:Old h b):
 cr Tryz.prog 116 [.ptr b 0] h (pc s a0 b h (gY (s.drop a0))):=by
 refine Zx.z rfl (cm ?_);unfold Ox;have dh:(b=aG h.next)=False:=CA gv (ap7 _);have c6:(aG h.next=b)=False:=by rw [<-dh];exact propext eq_comm
 have jj:=ak;unfold fs at ak;have f0:(0<=(a0:Int))=True:=aqh (by omega);have f1:((a0:Int) < (s.length:Int))=True:=aqh (by omega);have ao:Ext h (h.new (.bU [.int .i64 0,.int .i64 0,.int .i64 0,.str []] 0 false)):=(Ext.refl h).new _;have y7:Old (h.new (.bU [.int .i64 0,.int .i64 0,.int .i64 0,.str []] 0 false)) b:=ao.bY gv;have Bz:(h.new (.bU [.int .i64 0,.int .i64 0,.int .i64 0,.str []] 0 false)).get b=fs s a0 0:=by rw [ao.get _ gv,jj]
 have yF:∀{res:uf} {x:V} {aa:ag},pc s a0 b (h.new (.bU [.int .i64 0,.int .i64 0,.int .i64 0,.str []] 0 false)) res x aa->aa.get (aG h.next)=.bU [.int .i64 0,.int .i64 0,.int .i64 0,.str []] 0 false:=by intro res x aa w;rw [w.mod.get _ (iJ (by rw [ir];omega)) (by rw [c6];exact id)];simp only [↓af,an,simprocAttr]
 have aq:=drop_cons a1;rw [aq];have dg:nF ((s[a0]).toNat:Int)=fx s[a0]:=rfl;have lJ:(((s[a0]).toNat:Int)=34)=(s[a0]=34):=xI _ 34 (by omega);have uv:(((s[a0]).toNat:Int)=95)=(s[a0]=95):=xI _ 95 (by omega);have yp:(((s[a0]).toNat:Int)=39)=(s[a0]=39):=xI _ 39 (by omega);simp +contextual only [ak,dh,c6,f0,f1,ap4 a1,aqc,↓af,an,simprocAttr];refine gr (yl _ _) ?_;rw [dg];cases aa:fx s[a0] with
 | true=>
   have dC:gY (s[a0]::s.drop (a0+1))=zH (s.drop a0):=by rw [aq];simp only [gY,aa,aqB]
   rw [dC];simp +contextual only [ak,dh,c6,f0,f1,ap4 a1,aqc,↓af,an,simprocAttr];refine bF (aj4 s a0 b _ Bz a1 aO y7 aa) ?_;rintro x ai w;have g1:=yF w;obtain ⟨k,n,t,rfl,_⟩:=w.res;simp +contextual only [g1,ak,dh,c6,f0,f1,↓af,an,simprocAttr];exact w.store gv
 | false=>
   by_cases ae:s[a0]=34
   . have dC:gY (s[a0]::s.drop (a0+1))=tJ (s.drop (a0+1)):=by simp only [gY];rw [aqa (by rw [aa];exact arE),aqf ae]
     rw [dC];replace ae:=aqh ae;simp +contextual only [ak,dh,c6,f0,f1,lJ,ae,ap4 a1,aqc,↓af,an,simprocAttr];refine bF (anj s a0 b _ Bz a1 aO y7) ?_;rintro x ai w;have g1:=yF w;obtain ⟨k,n,t,rfl,_⟩:=w.res;simp +contextual only [g1,ak,dh,c6,f0,f1,↓af,an,simprocAttr];exact w.store gv
   simp +contextual only [ak,dh,c6,f0,f1,lJ,ae,ap4 a1,aqc,↓af,an,simprocAttr];refine gr (GZ _ _) ?_;by_cases aM:(hJ ((s[a0]).toNat:Int)||decide (s[a0]=95))=true
   . have dC:gY (s[a0]::s.drop (a0+1))=kG 3 (s.drop a0):=by rw [aq];simp only [gY,aa,ae,aM,aqd,aqD,aqB]
     rw [dC];have fin:rr Tryz.prog 124 [.ptr b 0,.int .i64 3] (some 33) none [] [] (fun _=>.bad) h (fun _ _ _=>True)->True:=fun _=>trivial;cases Ko:hJ ((s[a0]).toNat:Int) with
     | true=>
       simp +contextual only [ak,dh,c6,f0,f1,lJ,ae,Ko,ap4 a1,aqc,↓af,an,simprocAttr];refine bF (F6 s a0 3 b _ Bz (by omega) aO y7) ?_;rintro x ai w;have g1:=yF w;obtain ⟨k,n,t,rfl,_⟩:=w.res;simp +contextual only [g1,ak,dh,c6,f0,f1,↓af,an,simprocAttr];exact w.store gv
     | false=>
       rw [Ko,arQ,aqg] at aM;replace aM:=aqh aM;simp +contextual only [ak,dh,c6,f0,f1,lJ,uv,ae,aM,Ko,ap4 a1,aqc,↓af,an,simprocAttr];refine bF (F6 s a0 3 b _ Bz (by omega) aO y7) ?_;rintro x ai w;have g1:=yF w;obtain ⟨k,n,t,rfl,_⟩:=w.res;simp +contextual only [g1,ak,dh,c6,f0,f1,↓af,an,simprocAttr];exact w.store gv
   . have R0:=aM;rw [aqF,asa,arh] at R0;obtain ⟨adw,adx⟩:=R0;simp +contextual only [ak,dh,c6,f0,f1,lJ,uv,ae,adw,adx,ap4 a1,aqc,↓af,an,simprocAttr];refine gr (RU _ _) ?_;cases bw:nN ((s[a0]).toNat:Int) with
     | true=>
       have dC:gY (s[a0]::s.drop (a0+1))=kG 4 (s.drop a0):=by rw [aq];simp only [gY,aa,ae,aM,bw,aqd,aqD,aqB]
       rw [dC];simp +contextual only [ak,dh,c6,f0,f1,ap4 a1,aqc,↓af,an,simprocAttr];refine bF (F6 s a0 4 b _ Bz (by omega) aO y7) ?_;rintro x ai w;have g1:=yF w;obtain ⟨k,n,t,rfl,_⟩:=w.res;simp +contextual only [g1,ak,dh,c6,f0,f1,↓af,an,simprocAttr];exact w.store gv
     | false=>
       have bT:IntKind.i64.wrap ((a0:Int)+1)=((a0+1:Nat):Int):=by rw [wrap_i64 (by omega) (by omega)];rfl
       have f2:(0<=((a0+1:Nat):Int))=True:=aqh (by omega);by_cases cw:s[a0]=39/\mT (s.drop (a0+1))
       . have dC:gY (s[a0]::s.drop (a0+1))=(kG 5 (s.drop (a0+1))).map fun q=>(q.1,q.2.1,q.2.2.1,q.2.2.2+1):=by simp only [gY];rw [aqa (by rw [aa];exact arE),aqa ae,aqa aM,aqa (by rw [bw];exact arE),aqf cw]
         rw [dC];obtain ⟨EY,EZ⟩:=cw;replace EY:=aqh EY;have aN:a0+1<s.length:=by
          by_cases q:a0+1<s.length
          . exact q
          . rw [aqR (by omega)] at EZ;cases EZ
         rw [drop_cons aN] at EZ;have f3:(((a0+1:Nat):Int) < (s.length:Int))=True:=aqh (by omega);simp +contextual (maxSteps:=1000000) only [ak,dh,c6,f0,f1,f2,f3,bT,lJ,uv,yp,ae,EY,ap4 a1,ap4 aN,aqc,↓af,an,simprocAttr];refine gr (GZ _ _) ?_;rw [show hJ ((s[a0+1]).toNat:Int)=true from EZ];simp +contextual (maxSteps:=1000000) only [ak,dh,c6,f0,f1,f2,f3,bT,lJ,uv,yp,ae,EY,ap4 a1,ap4 aN,aqc,↓af,an,simprocAttr];have SH:Mod (fun q=>q=b) (h.new (.bU [.int .i64 0,.int .i64 0,.int .i64 0,.str []] 0 false)) ((h.new (.bU [.int .i64 0,.int .i64 0,.int .i64 0,.str []] 0 false)).set b (.bU [.str s,.int .i64 ((a0+1:Nat):Int),.int .i64 0] 0 false)):=(Mod.refl _ _).self _;refine bF (F6 s (a0+1) 5 b _ (by rw [ej,aqf rfl];rfl) (by omega) aO (SH.bY y7)) ?_;rintro x ai w;have w':pc s a0 b (h.new (.bU [.int .i64 0,.int .i64 0,.int .i64 0,.str []] 0 false)) ((kG 5 (s.drop (a0+1))).map fun q=>(q.1,q.2.1,q.2.2.1,q.2.2.2+1)) x ai:=by
          obtain ⟨anU,k,n,t,an6,wr⟩:=w;refine ⟨SH.trans anU,k,n,t,an6,?_⟩;cases aW:kG 5 (s.drop (a0+1)) with
          | error e=>rw [aW] at wr;exact wr
          | ok q=>
            rw [aW] at wr;obtain ⟨a8,b',bP,d_,bS⟩:=wr;refine ⟨a8,b',bP,?_,?_⟩
            . rw [d_];show fs s ((a0+1+q.2.2.2:Nat):Int) 0=fs s ((a0 + (q.2.2.2+1):Nat):Int) 0;rw [show a0+1+q.2.2.2=a0 + (q.2.2.2+1) from by omega]
            . show a0 + (q.2.2.2+1)<=s.length;omega
         have g1:=yF w';obtain ⟨k,n,t,rfl,_⟩:=w'.res;simp +contextual only [g1,ak,dh,c6,f0,f1,↓af,an,simprocAttr];exact w'.store gv
       . have dC:gY (s[a0]::s.drop (a0+1))=Ab (s.drop a0):=by rw [aq];simp only [gY];rw [aqa (by rw [aa];exact arE),aqa ae,aqa aM,aqa (by rw [bw];exact arE),aqa cw]
         rw [dC];have adY:((s[a0]=39)=False)\/(((s[a0]=39)=True)/\¬a0+1<s.length)\/(((s[a0]=39)=True)/\∃aN:a0+1<s.length,hJ ((s[a0+1]).toNat:Int)=false):=by
          by_cases q:s[a0]=39
          . by_cases aN:a0+1<s.length
            . refine .inr (.inr ⟨aqh q,aN,?_⟩);cases ar:hJ ((s[a0+1]).toNat:Int) with
              | false=>rfl
              | true=>exact absurd ⟨q,by rw [drop_cons aN];exact ar⟩ cw
            . exact .inr (.inl ⟨aqh q,aN⟩)
          . exact .inl (ap_ q)
         have two:∀t ∈ j8,t.length<=2:=by decide
         have uq:((17:Nat):Int)=17:=rfl;rcases adY with al | ⟨al,au⟩ | ⟨al,aN,au⟩
         case' neg.inl=>
          simp +contextual (maxSteps:=1000000) only [ak,dh,c6,f0,f1,f2,bT,lJ,uv,yp,ae,al,ap4 a1,aqc,↓af,an,simprocAttr]
         case' neg.inr.inl=>
          have f3:(((a0+1:Nat):Int) < (s.length:Int))=False:=ap_ (by omega);simp +contextual (maxSteps:=1000000) only [ak,dh,c6,f0,f1,f2,f3,bT,lJ,uv,yp,ae,al,ap4 a1,aqc,↓af,an,simprocAttr]
         case' neg.inr.inr=>
          have f3:(((a0+1:Nat):Int) < (s.length:Int))=True:=aqh (by omega);simp +contextual (maxSteps:=1000000) only [ak,dh,c6,f0,f1,f2,f3,bT,lJ,uv,yp,ae,al,ap4 a1,ap4 aN,aqc,↓af,an,simprocAttr];refine gr (GZ _ _) ?_;rw [au];simp +contextual (maxSteps:=1000000) only [ak,dh,c6,f0,f1,f2,f3,bT,lJ,uv,yp,ae,al,ap4 a1,ap4 aN,aqc,↓af,an,simprocAttr]
         all_goals
          refine bF (amF _) ?_;rintro x ai ⟨rfl,rfl⟩;simp +contextual only [↓af,an,simprocAttr]
          refine ek (fun r ab=>r 0=.ptr b 0/\r 2=.ptr (aG h.next) 0/\r 77=.slice (aG (h.next+1)) 0 17 17/\r 78=.int .i64 17/\∃i:Nat,i<=17/\r 79=.int .i64 i/\ab=(h.new (.bU [.int .i64 0,.int .i64 0,.int .i64 0,.str []] 0 false)).new (.bU Ac 0 false)/\
           j8.find? (·.isPrefixOf (s.drop a0))=(j8.drop i).find? (·.isPrefixOf (s.drop a0))) (fun r ab=>17 - (r 79).toN) ?_ ?_
          . exact ⟨by simp only [↓af,an,simprocAttr],by simp only [↓af,an,simprocAttr],by simp only [↓af,an,simprocAttr],by simp only [uq,↓af,an,simprocAttr],0,by omega,by simp only [↓af,an,simprocAttr]<;>rfl,rfl,rfl⟩
          . rintro r ab ⟨aU,b',GD,GF,i,aB,GG,rfl,uJ⟩;unfold Oy;have SK:Old ((h.new (.bU [.int .i64 0,.int .i64 0,.int .i64 0,.str []] 0 false)).new (.bU Ac 0 false)) b:=(ao.new _).bY gv;have s0:((h.new (.bU [.int .i64 0,.int .i64 0,.int .i64 0,.str []] 0 false)).new (.bU Ac 0 false)).get b=.bU [.str s,.int .i64 a0,.int .i64 0] 0 false:=by rw [(ao.new _).get _ gv,ak]
            have Cz:(b=aG (h.next+1))=False:=CA gv (by omega);have D7:(aG (h.next+1)=b)=False:=by rw [<-Cz];exact propext eq_comm
            by_cases lS:i<17
            . have g0:((i:Int)<17)=True:=aqh (by omega);have g1:(0<=(i:Int))=True:=aqh (by omega);rw [acB _ lS] at uJ;have hlen:=two _ (aqC (h:=(show i<j8.length from lS)));simp +contextual only [uq,aU,b',GD,GF,GG,g0,g1,dh,c6,Cz,D7,aqc,asl,amD lS,↓af,an,simprocAttr];refine gr (Jm s _ (a0:Int) [.int .i64 0] b 0 false _ s0 (by omega) (by omega)) ?_;rw [aqc];cases rV:(j8[i]'lS).isPrefixOf (s.drop a0) with
              | true=>
                rw [rV,aqf rfl] at uJ;have kf:(j8[i]'lS).length<=s.length-a0:=by rw [ar0] at rV;have:=rV.length_le;rwa [aqG] at this
                have ly:IntKind.i64.wrap ((a0:Int) + ((j8[i]'lS).length:Int))=((a0 + (j8[i]'lS).length:Nat):Int):=by rw [wrap_i64 (by omega) (by omega)];rfl
                simp +contextual only [uq,aU,b',GD,GF,GG,g0,g1,ly,dh,c6,Cz,D7,ak,↓af,an,simprocAttr];unfold Ab;rw [uJ];refine ⟨(((ao.new _).mod _).self _).fresh (ap7 _) _,_,_,_,rfl,rfl,rfl,rfl,?_,by show a0 + (j8[i]'lS).length<=s.length;omega⟩;simp only [fs,dh,c6,↓af,an,simprocAttr]
              | false=>
                rw [rV,aqa arE] at uJ;have ly:IntKind.i64.wrap ((i:Int)+1)=((i+1:Nat):Int):=by rw [wrap_i64 (by omega) (by omega)];rfl
                simp +contextual only [uq,aU,b',GD,GF,GG,g0,g1,ly,dh,c6,Cz,D7,ak,↓af,an,simprocAttr];exact ⟨⟨i+1,by omega,rfl,uJ⟩,by omega⟩
            . obtain rfl:i=17:=by omega
              have dE:j8.find? (·.isPrefixOf (s.drop a0))=none:=by rw [uJ];rfl
              have g0:((17:Int)<17)=False:=ap_ (by omega);simp +contextual only [uq,aU,b',GD,GF,GG,g0,s0,dh,c6,Cz,D7,ak,↓af,an,simprocAttr];unfold Ab;rw [dE];refine ⟨(((ao.new _).mod _).self _).fresh (ap7 _) _,_,_,_,rfl,by decide,(a0:Int),?_⟩;simp only [fs,dh,c6,↓af,an,simprocAttr]
theorem RP (s:List UInt8) (i:Nat):(ByteArray.mk ⟨s⟩).get! i=(s[i]?).getD 0:=by show (Array.mk s)[i]! =_;simp;rfl
theorem abD (s:List UInt8) (a:Nat):Lib.decodeGo ⟨⟨s.drop a⟩⟩=if a<s.length then decodeL s a else (65533,0):=by
 unfold Lib.decodeGo decodeL;have bl:(ByteArray.mk ⟨s.drop a⟩).size=s.length-a:=by show (s.drop a).length=_;rw [aqG]
 have rY:(ByteArray.mk ⟨s⟩).size=s.length:=rfl;by_cases bp:a<s.length
 . rw [aqf bp,aqa (by rw [bl];omega),Lib.decode_at,Lib.decode_at,bl,rY];simp only [RP,arl,aro,asq,aqP]
 . rw [aqa bp,aqf (by rw [bl];omega)]
theorem ajT {h:ag} {b:aQ} {s:List UInt8} {a:Nat} (aL:h.get b=.iter s a):
 xi (.ptr b 0) h=if a<s.length then .val (.tuple [.bool true,.int .i64 a,.int .i32 (decodeL s a).1]) (h.set b (.iter s (a + (decodeL s a).2))) else .val (.tuple [.bool false]) h:=by
 unfold xi;simp only [V.jK,aL];rw [show Nat.beq 0 0=true from rfl];simp only [ap8];by_cases bp:a<s.length
 . rw [aqf bp,show Nat.blt a s.length=true from by rw [aqA];exact bp];rfl
 . rw [aqa bp,show Nat.blt a s.length=false from by rw [<-aqF,aqA];exact bp];rfl
def agl (s:List UInt8):b8->Nat
 | .iter _ a=>s.length-a
 | _=>0
theorem abB (s:List UInt8) (a:Nat):1<=(decodeL s a).2:=by
 unfold decodeL;rw [Lib.decode_at];unfold Lib.decodeN
 repeat' split
 all_goals simp
theorem al0 (s:List UInt8) (aO:s.length<=100000) (h:ag):cr Tryz.prog 112 [.str s] h fun x ab=>x=.int .i64 (vl s:Nat)/\Ext h ab:=by
 refine Zt.z rfl (cm ?_);unfold Oo;simp +contextual only [↓af,an,simprocAttr];refine ek (fun r ab=>r 0=.str s/\r 8=.ptr (aG h.next) 0/\Ext h ab/\∃a,ab.get (aG h.next)=.iter s a/\vl s=sd s a) (fun r ab=>agl s (ab.get (aG h.next))) ?_ ?_
 . exact ⟨by simp only [↓af,an,simprocAttr],by simp only [↓af,an,simprocAttr],(Ext.refl h).new _,0,by simp only [↓af,an,simprocAttr],rfl⟩
 . rintro r ab ⟨aU,cZ,ao,a,aL,bp⟩;unfold Oq;have mX:=ajT aL;by_cases aN:a<s.length
   . rw [aqf aN] at mX;have ai:=abB s a;by_cases av:(decodeL s a).1=65533
     . have qs:(((decodeL s a).1:Int)=65533)=True:=aqh (by omega);have f0:(0<=(a:Int))=True:=aqh (by omega);have f1:((a:Int)<=(s.length:Int))=True:=aqh (by omega);simp +contextual only [aU,cZ,mX,qs,f0,f1,aqc,↓af,an,simprocAttr];refine gr (abC _ _) ?_;rw [abD,aqf aN];by_cases hw:(decodeL s a).2=1
       . have iW:(((decodeL s a).2:Int)=1)=True:=aqh (by omega);have wF:eT s a=0:=by unfold eT;rw [aqf (Prod.ext av hw)]
         rw [alZ aN wF] at bp;simp +contextual only [aU,cZ,mX,qs,iW,f0,f1,aqc,↓af,an,simprocAttr];rw [bp];exact ⟨rfl,ao.set (ap7 _) _⟩
       . have iW:(((decodeL s a).2:Int)=1)=False:=ap_ (by omega);have wF:eT s a=(decodeL s a).2:=by unfold eT;rw [aqa (fun q=>hw (congrArg Prod.snd q))]
         rw [L9 aN (by rw [wF];omega),wF] at bp;simp +contextual only [aU,cZ,mX,qs,iW,f0,f1,aqc,↓af,an,simprocAttr];refine ⟨⟨ao.set (ap7 _) _,_,rfl,bp⟩,?_⟩;rw [aL];show s.length - (a + (decodeL s a).2)<s.length-a;omega
     . have qs:(((decodeL s a).1:Int)=65533)=False:=ap_ (by omega);have wF:eT s a=(decodeL s a).2:=by unfold eT;rw [aqa (fun q=>av (congrArg Prod.fst q))]
       rw [L9 aN (by rw [wF];omega),wF] at bp;simp +contextual only [aU,cZ,mX,qs,aqc,↓af,an,simprocAttr];refine ⟨⟨ao.set (ap7 _) _,_,rfl,bp⟩,?_⟩;rw [aL];show s.length - (a + (decodeL s a).2)<s.length-a;omega
   . rw [aqa aN] at mX;rw [VU (by omega)] at bp;simp +contextual only [aU,cZ,mX,aqc,↓af,an,simprocAttr];rw [bp];exact ⟨rfl,ao⟩
def cc.enc (w:cc):List V:=[.int .i64 w.kind,.int .i64 w.num,.int .i64 w.pos,.str w.text]
def jw:List cc->List V
 | []=>[]
 | w::ws=>w.enc++jw ws
theorem WV:∀a b:List cc,jw (a++b)=jw a++jw b
 | [],b=>rfl
 | w::a,b=>by simp only [jw,aqM,WV a b,arf]
def CR (ws:List cc):Except (Int × Nat) (List cc)->Except (Int × Nat) (List cc)
 | .ok bN=>.ok (ws++bN)
 | .error e=>.error e
theorem ali (ws:List cc) (w:cc) (r:Except (Int × Nat) (List cc)):CR ws (Be w r)=CR (ws++[w]) r:=by
 cases r with
 | ok bN=>simp [CR,Be]
 | error e=>rfl
theorem alj (r:Except (Int × Nat) (List cc)):CR [] r=r:=by cases r<;>rfl
def XE (s:List UInt8) (h:ag) (x:V) (ab:ag):Prop:=Ext h ab/\match l0 s with
 | .ok ws=>∃v,x=.tuple [v,.agg [.int .i64 0,.int .i64 0]]/\ec h.next ab 4 v ws.length (jw ws)
 | .error e=>x=.tuple [.bL,.agg [.int .i64 e.1,.int .i64 e.2]]
theorem N5 (c:UInt8):(0<=Lib.indexByte [9,10,13,32] c)=(blank c=true):=by
 have a1:∀d:UInt8,(d == c)=decide (c=d):=fun d=>by
  by_cases q:c=d
  . subst q;simp
  . have fi:¬d=c:=fun e=>q e.symm;simp [q,fi]
 simp only [Lib.indexByte,a1,blank];by_cases aa:c=9
 . subst aa;decide
 . by_cases ae:c=10
   . subst ae;decide
   . by_cases aM:c=13
     . subst aM;decide
     . by_cases bw:c=32
       . subst bw;decide
       . simp [aa,ae,aM,bw]
theorem T1 (s:List UInt8) (h:ag):cr Tryz.prog 107 [.str s] h (XE s h):=by
 refine Zq.z rfl (cm ?_);unfold Oj;by_cases Sz:(65536:Int) < (s.length:Int)
 . simp +contextual only [Sz,↓af,an,simprocAttr];refine ⟨((Ext.refl h).new _).set (ap7 _) _,?_⟩;unfold l0;rw [aqf (by omega)];rfl
 simp +contextual only [Sz,↓af,an,simprocAttr];refine bF (al0 s (by omega) _) ?_;rintro x aa ⟨rfl,hS⟩;have ao:Ext h (h.new (.bU [.int .i64 0,.int .i64 0] 0 false)):=(Ext.refl h).new _;have zn:=ao.trans hS;have g1:aa.get (aG h.next)=.bU [.int .i64 0,.int .i64 0] 0 false:=by rw [hS.get _ (iJ (by rw [ir];omega))];simp only [↓af,an,simprocAttr]
 have UC:h.next+1<=aa.next:=hS.next
 have cO:(aG aa.next=aG h.next)=False:=by rw [r9];exact ap_ (by omega)
 have cg:(aG h.next=aG aa.next)=False:=by rw [r9];exact ap_ (by omega)
 have oR:(aa.next=h.next)=False:=ap_ (by omega);have oS:(h.next=aa.next)=False:=ap_ (by omega);have hlen:¬65536<s.length:=by omega
 by_cases aD:vl s<s.length
 . have qD:((vl s:Int) < (s.length:Int))=True:=aqh (by omega);simp +contextual only [qD,g1,cO,cg,oR,oS,↓af,an,simprocAttr];refine ⟨zn.set (ap7 _) _,?_⟩;unfold l0;rw [aqa hlen,aqf aD]
 have qD:((vl s:Int) < (s.length:Int))=False:=ap_ (by omega);have mq:l0 s=r2 s 0:=by unfold l0;rw [aqa hlen,aqa aD]
 simp +contextual only [qD,g1,cO,cg,oR,oS,↓af,an,simprocAttr];have afN:Ext h (aa.new (.bU [.str s,.int .i64 0,.int .i64 0] 0 false)):=zn.new _
 refine ek (fun r ab=>r 0=.str s/\r 3=.ptr (aG h.next) 0/\r 5=.ptr (aG aa.next) 0/\∃(a:Nat) (ws:List cc) (v:V),r 6=v/\ab.get (aG aa.next)=.bU [.str s,.int .i64 a,.int .i64 0] 0 false/\a<=s.length/\ws.length<=a/\
  ab.get (aG h.next)=.bU [.int .i64 0,.int .i64 0] 0 false/\Ext h ab/\aa.next+1<=ab.next/\ec (aa.next+1) ab 4 v ws.length (jw ws)/\l0 s=CR ws (r2 (s.drop a) a))
  (fun r ab=>s.length - ((gX (ab.get (aG aa.next)) 1).getD .bad).toN) ?_ ?_
 . refine ⟨by simp only [↓af,an,simprocAttr],by simp only [↓af,an,simprocAttr],by simp only [↓af,an,simprocAttr],0,[],.bL,by simp only [↓af,an,simprocAttr],by simp only [↓af,an,simprocAttr]<;>rfl,by omega,by simp,by simp only [g1,cO,oR,cg,oS,↓af,an,simprocAttr],afN,?_,⟨rfl,rfl⟩,?_⟩
   . rw [ir];exact ap7 _
   . rw [mq,ara,alj]
 . rintro r ab ⟨aU,bP,bS,a,ws,v,cz,aL,cd,kw,bl,FC,mX,h6,bx⟩;unfold Ok;have gv:Old ab (aG aa.next):=iJ (by omega);by_cases gF:(s.length:Int)<=(a:Int)
   . have bp:a=s.length:=by omega
     have Ft:l0 s=.ok ws:=by rw [bx,bp,ase];show Except.ok (ws++[])=_;rw [aq7]
     simp +contextual only [aU,bP,bS,cz,aL,bl,gF,cO,cg,oR,oS,↓af,an,simprocAttr];refine ⟨FC.set (ap7 _) _,?_⟩;rw [Ft];refine ⟨v,rfl,?_⟩;have:=h6.mod ((Mod.refl (fun q=>q=aG h.next) ab).self (.bU [.int .i64 0,.int .i64 0] 0 false)) (fun q ar e=>by have ae:=h6.base ar;rw [show q=aG h.next from e,dx] at ae;omega);exact this.mono (by omega)
   . have aN:a<s.length:=by omega
     rw [drop_cons aN,T0,<-drop_cons aN] at bx;have f0:(0<=(a:Int))=True:=aqh (by omega);have f1:((a:Int) < (s.length:Int))=True:=aqh (by omega);have bT:IntKind.i64.wrap ((a:Int)+1)=((a+1:Nat):Int):=by rw [wrap_i64 (by omega) (by omega)];rfl
     simp +contextual only [aU,bP,bS,cz,aL,bl,gF,cO,cg,oR,oS,f0,f1,ap4 aN,aqc,↓af,an,simprocAttr];refine gr (Tk _ _ _) ?_;rw [WI];by_cases E6:blank s[a]=true
     . have Jq:(0<=Lib.indexByte [9,10,13,32] s[a])=True:=by rw [N5,E6];exact eq_self _
       rw [aqf E6] at bx;simp +contextual only [Jq,bT,aU,bP,bS,cz,aL,bl,gF,cO,cg,oR,oS,f0,f1,ap4 aN,aqc,↓af,an,simprocAttr];refine ⟨⟨a+1,ws,rfl,by omega,by omega,FC.set (by omega) _,mX,?_,bx⟩,by omega⟩;exact h6.mod ((Mod.refl (fun q=>q=aG aa.next) ab).self _) (fun q ar e=>by have ae:=h6.base ar;rw [show q=aG aa.next from e,dx] at ae;omega)
     . have Jq:(0<=Lib.indexByte [9,10,13,32] s[a])=False:=by rw [N5];exact ap_ E6
       rw [aqa E6] at bx;simp +contextual only [Jq,bT,aU,bP,bS,cz,aL,bl,gF,cO,cg,oR,oS,f0,f1,ap4 aN,aqc,↓af,an,simprocAttr];have B0:=Jm s [40,42] (a:Int) [.int .i64 0] (aG aa.next) 0 false ab aL (by omega) (by omega);rw [aqc] at B0;refine gr B0 ?_;cases rV:([40,42]:List UInt8).isPrefixOf (s.drop a) with
       | true=>
         rw [rV,aqf rfl] at bx;simp +contextual only [bT,aU,bP,bS,cz,aL,bl,gF,cO,cg,oR,oS,f0,f1,ap4 aN,aqc,↓af,an,simprocAttr];refine bF (aj2 s a 0 (aG aa.next) ab aL cd (by omega) gv) ?_;rintro x ae ⟨rfl,hm,aW⟩;have rY:ae.get (aG h.next)=.bU [.int .i64 0,.int .i64 0] 0 false:=by rw [hm.get _ (iJ (by omega)) (by rw [cg];exact id),bl]
         have Fz:Ext h ae:=FC.fp hm (fun b ak=>by rw [show b=aG aa.next from ak,dx];omega);have CC:=hm.next
         have lP:=h6.mod hm (fun q ar e=>by have ae:=h6.base ar;rw [show q=aG aa.next from e,dx] at ae;omega);cases J':iZ (s.drop a) 0 with
         | some n=>
           rw [J'] at aW bx;obtain ⟨g2,hle⟩:=aW;have BZ:=Gc J';unfold fs at g2;simp +contextual only [bT,aU,bP,bS,cz,g2,aL,rY,gF,cO,cg,oR,oS,f0,f1,ap4 aN,aqc,↓af,an,simprocAttr];refine ⟨⟨a+n,ws,rfl,hle,by omega,Fz,by omega,lP,?_⟩,by omega⟩;rw [bx];simp only [arn]
         | none=>
           rw [J'] at aW bx;unfold fs at aW;simp +contextual only [bT,aU,bP,bS,cz,aW,aL,rY,gF,cO,cg,oR,oS,f0,f1,ap4 aN,aqc,↓af,an,simprocAttr];refine ⟨Fz.set (ap7 _) _,?_⟩;rw [bx];rfl
       | false=>
         rw [rV,aqa arE] at bx;simp +contextual only [bT,aU,bP,bS,cz,aL,bl,gF,cO,cg,oR,oS,f0,f1,ap4 aN,aqc,↓af,an,simprocAttr];refine bF (ajV s a (aG aa.next) ab aL aN (by omega) gv) ?_;rintro x ae w;obtain ⟨hm,k,n,t,rfl,zb⟩:=w;have rY:ae.get (aG h.next)=.bU [.int .i64 0,.int .i64 0] 0 false:=by rw [hm.get _ (iJ (by omega)) (by rw [cg];exact id),bl]
         have Fz:Ext h ae:=FC.fp hm (fun b ak=>by rw [show b=aG aa.next from ak,dx];omega);have CC:=hm.next
         have lP:=h6.mod hm (fun q ar e=>by have ae:=h6.base ar;rw [show q=aG aa.next from e,dx] at ae;omega);have m0:(aG ae.next=aG h.next)=False:=by rw [r9];exact ap_ (by omega)
         have m1:(aG ae.next=aG aa.next)=False:=by rw [r9];exact ap_ (by omega)
         have Uc:(ae.next=h.next)=False:=ap_ (by omega);have Ud:(ae.next=aa.next)=False:=ap_ (by omega);have FB:Ext ae (((ae.new (.bU [.int .i64 0,.int .i64 0,.int .i64 0,.str []] 0 false)).set (aG ae.next) (.bU [.int .i64 k,.int .i64 n,.int .i64 0,.str t] 0 false)).set (aG ae.next) (.bU [.int .i64 k,.int .i64 n,.int .i64 a,.str t] 0 false)):=(((Ext.refl ae).new _).set (ap7 _) _).set (ap7 _) _;obtain ⟨v3,aM,al,au,aJ,bE,c1⟩:=AZ (cs:=[.int .i64 k,.int .i64 n,.int .i64 a,.str t]) (by omega) (lP.ext FB) (by simp only [oT,ir];omega) (by unfold top;omega) rfl rfl;simp only [oT,ir] at al bE;have S9:Ext h aM:=(Fz.trans FB).fp aJ (fun b ak=>aqK (by omega) (lP.base ak));have Cb:aM.get (aG h.next)=.bU [.int .i64 0,.int .i64 0] 0 false:=by rw [aJ.get _ (iJ (by simp only [oT,ir];omega)) (fun ar=>by have:=lP.base ar;rw [dx] at this;omega),FB.get _ (iJ (by omega)),rY]
         have k3:aM.get (aG aa.next)=ae.get (aG aa.next):=by rw [aJ.get _ (iJ (by simp only [oT,ir];omega)) (fun ar=>by have:=lP.base ar;rw [dx] at this;omega),FB.get _ (iJ (by omega))]
         cases mX:gY (s.drop a) with
         | ok q=>
           have BZ:=Ld mX;rw [mX] at zb bx;obtain ⟨rfl,rfl,rfl,g2,hle⟩:=zb;unfold fs at g2;rw [g2] at k3;simp +contextual only [al,m0,m1,Uc,Ud,bT,aU,bP,bS,cz,g2,k3,aL,rY,gF,cO,cg,oR,oS,f0,f1,ap4 aN,aqc,↓af,an,simprocAttr];refine ⟨⟨a+q.2.2.2,ws++[⟨q.1,q.2.1,a,q.2.2.1⟩],rfl,hle,by simp;omega,Cb,S9,by omega,?_,?_⟩,by omega⟩
           . rw [aqi,WV];exact au
           . rw [bx,ali];simp only [arn]
         | error e=>
           rw [mX] at zb bx;obtain ⟨he,bn,g2⟩:=zb;unfold fs at g2;rw [g2] at k3;simp +contextual only [he,al,m0,m1,Uc,Ud,bT,aU,bP,bS,cz,g2,k3,Cb,aL,rY,gF,cO,cg,oR,oS,f0,f1,ap4 aN,aqc,↓af,an,simprocAttr];refine ⟨S9.set (ap7 _) _,?_⟩;rw [bx];rfl
def q2 (L:List (List UInt8)):List V:=L.map V.str
theorem TA (h:ag):cr Tryz.prog 90 [] h fun x ab=>x=.slice (aG h.next) 0 20 20/\ab=h.new (.bU (q2 uZ) 0 false):=by refine aaq.z rfl (cm ?_);unfold P_;simp +contextual only [↓af,an,simprocAttr];rfl
theorem Mw (L:List (List UInt8)):(q2 L).length=L.length:=by simp [q2]
theorem Mv {L:List (List UInt8)} {i:Nat} (aB:i<L.length):(q2 L)[i]? =some (.str L[i]):=by unfold q2;rw [aq2,ap4 aB];rfl
theorem QY {t:List UInt8} {L:List (List UInt8)} {i:Nat} (aB:i<L.length):(L.drop i).contains t=(decide (L[i]=t)||(L.drop (i+1)).contains t):=by rw [aqz aB,List.contains_cons];congr 1;rw [aqX];simp;exact eq_comm
theorem KC (t:List UInt8) (L:List (List UInt8)) (b:aQ) (cap:Nat) (h:ag) (c0:L.length<=100000) (aL:h.get b=.bU (q2 L) 0 false):
 e4 Tryz.prog 89 [.str t,.slice b 0 L.length cap] h (.bool (L.contains t)) h:=by
 refine oX (aap.z rfl (cm ?_));unfold P9;simp +contextual only [↓af,an,simprocAttr];refine ek (fun r ab=>ab=h/\r 0=.str t/\r 1=.slice b 0 L.length cap/\∃i:Nat,r 5=.int .i64 i/\i<=L.length/\L.contains t=(L.drop i).contains t) (fun r ab=>L.length - (r 5).toN) ?_ ?_
 . exact ⟨rfl,by simp only [↓af,an,simprocAttr],by simp only [↓af,an,simprocAttr],0,by simp only [↓af,an,simprocAttr]<;>rfl,by omega,rfl⟩
 . rintro r ab ⟨rfl,aU,a8,i,bS,aB,bx⟩;unfold P';by_cases aN:i<L.length
   . have g0:((i:Int) < (L.length:Int))=True:=aqh (by omega);have g1:(0<=(i:Int))=True:=aqh (by omega);rw [QY aN] at bx;by_cases he:L[i]=t
     . simp +contextual only [aU,a8,bS,g0,g1,aL,he,aqc,asl,Mv aN,↓af,an,simprocAttr];rw [bx];simp [he]
     . have w:IntKind.i64.wrap ((i:Int)+1)=((i+1:Nat):Int):=by rw [wrap_i64 (by omega) (by omega)];rfl
       simp +contextual only [aU,a8,bS,g0,g1,aL,he,w,aqc,asl,Mv aN,↓af,an,simprocAttr];refine ⟨⟨i+1,rfl,aN,?_⟩,by omega⟩;rw [bx];simp [he]
   . have g0:((i:Int) < (L.length:Int))=False:=ap_ (by omega);rw [aqR (by omega)] at bx;rw [bx];simp +contextual only [aU,a8,bS,g0,↓af,an,simprocAttr];rfl
def BC:List UInt8->Bool
 | d::_=>nN d.toNat
 | []=>false
def dm (k:Int) (s:List UInt8):Bool:=
 decide (s≠[])&&decide (s.length<=64)&&s.all fA&&(if k=3 then (mT s||s.head? == some 95)&&!decide (s=[95])&&!pI s else if k=4 then BC s else mT s)
theorem af7 (t:List UInt8) (L:List (List UInt8)) (v:V) (h:ag) (H:fl h 1 v L.length (q2 L)) (c0:L.length<=100000):
 cr Tryz.prog 109 [v,.str t] h fun x ab=>ab=h/\∃i:Int,x=.int .i64 i/\decide (0<=i)=L.contains t:=by
 refine Zs.z rfl (cm ?_);unfold Om;simp +contextual only [H.len,↓af,an,simprocAttr];refine ek (fun r ab=>ab=h/\r 0=v/\r 1=.str t/\r 7=.int .i64 L.length/\∃i:Nat,r 8=.int .i64 i/\i<=L.length/\L.contains t=(L.drop i).contains t) (fun r ab=>L.length - (r 8).toN) ?_ ?_
 . exact ⟨rfl,by simp only [↓af,an,simprocAttr],by simp only [↓af,an,simprocAttr],by simp only [↓af,an,simprocAttr],0,by simp only [↓af,an,simprocAttr]<;>rfl,by omega,rfl⟩
 . rintro r ab ⟨rfl,aU,a8,dT,i,cZ,aB,bx⟩;unfold On;by_cases aN:i<L.length
   . have g0:((i:Int) < (L.length:Int))=True:=aqh (by omega);obtain ⟨bM,di,w6,nE⟩:=H.bQ (k:=.i64) aN;have eD:=nE.eD (i:=i * 1) (by rw [Mw];omega);simp only [asl] at eD w6;have JK:(q2 L)[i]'(by rw [Mw];exact aN)=.str L[i]:=by
      have:=Mv aN;rw [ap4 (by rw [Mw];exact aN)] at this;exact ars this
     rw [JK] at eD;rw [QY aN] at bx;have w:IntKind.i64.wrap ((i:Int)+1)=((i+1:Nat):Int):=by rw [wrap_i64 (by omega) (by omega)];rfl
     by_cases he:t=L[i]
     . have eG:decide (t=L[i])=true:=aqH he;simp +contextual only [aU,a8,dT,cZ,g0,w6,eD,eG,↓af,an,simprocAttr];exact ⟨i,rfl,by rw [bx,<-he];simp⟩
     . have eG:decide (t=L[i])=false:=aqJ he;simp +contextual only [aU,a8,dT,cZ,g0,w6,eD,eG,w,↓af,an,simprocAttr];refine ⟨⟨i+1,rfl,aN,?_⟩,by omega⟩;rw [bx,aqJ (fun q=>he q.symm),arQ]
   . have g0:((i:Int) < (L.length:Int))=False:=ap_ (by omega);rw [aqR (by omega)] at bx;simp +contextual only [aU,a8,dT,cZ,g0,↓af,an,simprocAttr];exact ⟨_,rfl,by rw [bx];rfl⟩
theorem abf (t:List UInt8) (L:List (List UInt8)) (v:V) (h:ag) (H:fl h 1 v L.length (q2 L)) (c0:L.length<=100000):
 e4 Tryz.prog 105 [v,.str t] h (.bool (L.contains t)) h:=by
 refine oX (Zp.z rfl (cm ?_));unfold Oi;simp +contextual only [↓af,an,simprocAttr];refine bF (af7 t L v h H c0) ?_;rintro x aa ⟨rfl,i,rfl,aB⟩;simp +contextual only [aB,↓af,an,simprocAttr]
def TY (c:Int):Bool:=oe c 97 122||oe c 65 90||oe c 48 57||decide (c=95)||decide (c=39)
theorem ai' (c:UInt8):TY (c.toNat:Int)=fA c:=by unfold TY fA u1 oe nF hJ nN;generalize (c.toNat:Int)=x;cases decide (97<=x)<;>cases decide (x<=122)<;>cases decide (65<=x)<;>cases decide (x<=90)<;>cases decide (48<=x)<;>cases decide (x<=57)<;>cases decide (x=95)<;>cases decide (x=39)<;>rfl
theorem aeb {s:List UInt8} {c:UInt8} {r:List UInt8} (h:s=c::r):mT s=hJ c.toNat:=by rw [h];rfl
theorem qX (k:Int) (s:List UInt8) (aO:s.length<=17179869184) (aA:k=3\/k=4\/k=5) (h:ag):cr Tryz.prog 51 [.int .i64 k,.str s] h fun x ab=>x=.bool (dm k s)/\Ext h ab:=by
 refine ZZ.z rfl (cm ?_);unfold c51;by_cases s8:s=[]
 . subst s8;simp +contextual only [↓af,an,simprocAttr];exact ⟨rfl,Ext.refl _⟩
 obtain ⟨c,r,B6⟩:=aqW s8;have cA:(s=([]:List UInt8))=False:=ap_ s8;have mv:s[0]? =some c:=by rw [B6];rfl
 by_cases hlen:(64:Int) < (s.length:Int)
 . have aW:dm k s=false:=by
    unfold dm;rw [aqJ (show ¬s.length<=64 by omega)];simp
   have JV:=aqh hlen;simp +contextual only [cA,JV,aW,↓af,an,simprocAttr];exact Ext.refl _
 have JV:=ap_ hlen;simp +contextual only [cA,JV,↓af,an,simprocAttr];refine ek (fun r ab=>ab=h/\r 0=.int .i64 k/\r 1=.str s/\∃i:Nat,r 5=.int .i64 i/\i<=s.length/\s.all fA=(s.drop i).all fA) (fun r ab=>s.length - (r 5).toN) ?_ ?_
 . exact ⟨rfl,by simp only [↓af,an,simprocAttr],by simp only [↓af,an,simprocAttr],0,by simp only [↓af,an,simprocAttr]<;>rfl,by omega,rfl⟩
 . rintro R ab ⟨rfl,aU,a8,i,bS,aB,bx⟩;unfold Pf;by_cases aN:i<s.length
   . have g0:((i:Int) < (s.length:Int))=True:=aqh (by omega);have g1:(0<=(i:Int))=True:=aqh (by omega);rw [aqz aN,arz] at bx;have w:IntKind.i64.wrap ((i:Int)+1)=((i+1:Nat):Int):=by rw [wrap_i64 (by omega) (by omega)];rfl
     simp +contextual only [aU,a8,bS,g0,g1,ap4 aN,aqc,↓af,an,simprocAttr];refine gr (XD _ _) ?_;rw [show (oe (s[i].toNat:Int) 97 122||oe (s[i].toNat:Int) 65 90||oe (s[i].toNat:Int) 48 57||decide ((s[i].toNat:Int)=95)||decide ((s[i].toNat:Int)=39))=fA s[i] from ai' _];cases aw:fA s[i] with
     | true=>
       simp +contextual only [aU,a8,bS,w,↓af,an,simprocAttr];exact ⟨⟨i+1,rfl,aN,by rw [bx,aw,aqY]⟩,by omega⟩
     | false=>
       have aW:dm k s=false:=by unfold dm;rw [bx,aw];simp
       simp +contextual only [aW,↓af,an,simprocAttr];exact Ext.refl _
   . have g0:((i:Int) < (s.length:Int))=False:=ap_ (by omega);rw [aqR (by omega)] at bx;have c8:s.all fA=true:=by rw [bx];rfl
     have f1:((0:Int) < (s.length:Int))=True:=aqh (by rw [B6];simp only [aqb];omega);have aW:dm k s=(if k=3 then (mT s||s.head? == some 95)&&!decide (s=[95])&&!pI s else if k=4 then BC s else mT s):=by unfold dm;rw [c8,aqH (show s.length<=64 by omega),aqH (show s≠[] from s8)];simp
     rw [aW];have ak:(mT s||s.head? == some 95)=(hJ c.toNat||decide (c=95)):=by rw [B6];show (hJ c.toNat||(some c == some 95))=_;congr 1
     have afv:mT s=hJ c.toNat:=aeb B6;have aev:BC s=nN c.toNat:=by rw [B6];rfl
     rw [ak];have hu:((c.toNat:Int)=95)=(c=95):=xI c 95 (by omega);rcases aA with rfl | rfl | rfl
     . simp +contextual only [aU,a8,bS,g0,f1,mv,ar_,aqB,↓af,an,simprocAttr];refine gr (Ao _ _ _ _) ?_;rw [show oe (c.toNat:Int) 97 122=hJ (c.toNat:Int) from rfl];cases oJ:hJ (c.toNat:Int) with
       | false=>
         by_cases R3:c=95
         . have ql:=aqh R3;by_cases aa:s=[95]
           . have fF:=aqh aa;simp +contextual only [aU,a8,oJ,hu,ql,fF,f1,mv,ar_,↓af,an,simprocAttr];exact Ext.refl _
           . have fF:=ap_ aa;simp +contextual only [aU,a8,oJ,hu,ql,fF,f1,mv,ar_,↓af,an,simprocAttr];refine bF (TA _) ?_;rintro x aa ⟨rfl,rfl⟩;simp +contextual only [aU,a8,oJ,hu,ql,fF,f1,mv,↓af,an,simprocAttr];refine gr (KC s uZ _ 20 _ (by decide) (by rw [oA])) ?_;have BO:uZ.contains s=pI s:=rfl;rw [BO];simp +contextual only [aU,a8,oJ,hu,ql,fF,↓af,an,simprocAttr];exact (Ext.refl _).new _
         . have ql:=ap_ R3;simp +contextual only [aU,a8,oJ,hu,ql,f1,mv,ar_,↓af,an,simprocAttr];exact Ext.refl _
       | true=>
         have ql:True=True:=rfl;by_cases aa:s=[95]
         . have fF:=aqh aa;simp +contextual only [aU,a8,oJ,hu,ql,fF,f1,mv,ar_,↓af,an,simprocAttr];exact Ext.refl _
         . have fF:=ap_ aa;simp +contextual only [aU,a8,oJ,hu,ql,fF,f1,mv,ar_,↓af,an,simprocAttr];refine bF (TA _) ?_;rintro x aa ⟨rfl,rfl⟩;simp +contextual only [aU,a8,oJ,hu,ql,fF,f1,mv,↓af,an,simprocAttr];refine gr (KC s uZ _ 20 _ (by decide) (by rw [oA])) ?_;have BO:uZ.contains s=pI s:=rfl;rw [BO];simp +contextual only [aU,a8,oJ,hu,ql,fF,↓af,an,simprocAttr];exact (Ext.refl _).new _
     . simp +contextual only [aU,a8,bS,g0,f1,mv,ar_,aqB,aqD,↓af,an,simprocAttr];refine gr (Ao _ _ _ _) ?_;rw [aev];simp +contextual only [↓af,an,simprocAttr];exact ⟨rfl,Ext.refl _⟩
     . simp +contextual only [aU,a8,bS,g0,f1,mv,ar_,aqB,aqD,↓af,an,simprocAttr];refine gr (Ao _ _ _ _) ?_;rw [afv];simp +contextual only [↓af,an,simprocAttr];exact ⟨rfl,Ext.refl _⟩
theorem YE {s:List UInt8} (h:∀c ∈ s,c.toNat<128):vl s=s.length:=by
 have av:∀a,a<s.length->eT s a=1:=by
  intro a bp;have aq:decodeL s a=((s[a]).toNat,1):=by unfold decodeL;rw [Lib.decode_at];simp only [RP,ap4 bp,aqL];unfold Lib.decodeN;rw [aqf (h _ (aqC bp))]
  unfold eT;rw [aq,aqa (by have:=h _ (aqC bp);simp only [aq9,ast];omega)]
 have:∀n a,s.length-a=n->a<=s.length->sd s a=s.length:=by
  intro n
  induction n with
  | zero=>intro a aa ae;exact VU (by omega)
  | succ n bd=>
    intro a aa ae;have aN:a<s.length:=by omega
    rw [L9 aN (by rw [av a aN];decide),av a aN];exact bd _ (by omega) (by omega)
 exact this s.length 0 (by omega) (by omega)
theorem aja {s:List UInt8} (h:∀c ∈ s,c.toNat<128):l0 s=if 65536<s.length then .error (3,0) else r2 s 0:=by unfold l0;rw [YE h,aqa (arB _)]
theorem ajo {c:UInt8} (h:fA c=true):blank c=false/\c≠40:=by
 constructor
 . cases ak:blank c with
   | false=>rfl
   | true=>
     unfold blank at ak;simp only [arp,aqg] at ak;rcases ak with ((rfl | rfl) | rfl) | rfl<;>exact absurd h (by decide)
 . rintro rfl;exact absurd h (by decide)
theorem ajZ {c:UInt8} (h:c≠40) (r:List UInt8):([40,42]:List UInt8).isPrefixOf (c::r)=false:=by
 have:((40:UInt8) == c)=false:=by rw [arw];exact fun q=>h q.symm
 simp [List.isPrefixOf,this]
theorem Wh {c:UInt8} (h:hJ c.toNat=true):fx c=false/\c≠34:=by unfold hJ at h;simp only [ap2,aqg] at h;refine ⟨?_,by rintro rfl;exact absurd h (by decide)⟩;unfold fx nF;simp only [arJ,arh];omega
theorem adk {c:UInt8} (h:nN c.toNat=true):fx c=false/\c≠34/\hJ c.toNat=false/\c≠95:=by
 unfold nN at h;simp only [ap2,aqg] at h;refine ⟨?_,by rintro rfl;exact absurd h (by decide),?_,by rintro rfl;exact absurd h (by decide)⟩
 . unfold fx nF;simp only [arJ,arh];omega
 . unfold hJ;simp only [arJ,arh];omega
theorem La {k:Int} {s:List UInt8} (h:dm k s=true):s≠[]/\s.length<=64/\s.all fA=true/\(if k=3 then (mT s||s.head? == some 95)&&!decide (s=[95])&&!pI s else if k=4 then BC s else mT s)=true:=by unfold dm at h;rw [ap2,ap2,ap2,aqg,aqg] at h;exact ⟨h.1.1.1,h.1.1.2,h.1.2,h.2⟩
theorem ajW {c:UInt8} {t:List UInt8} (h:hJ c.toNat=true\/c=95):gY (c::t)=kG 3 (c::t):=by
 have aq:fx c=false:=h.elim (fun q=>(Wh q).1) (fun q=>by rw [q];decide);have adv:c≠34:=h.elim (fun q=>(Wh q).2) (fun q=>by rw [q];decide);have aO:(hJ c.toNat||decide (c=95))=true:=by simpa using h
 simp only [gY,aq,aO,aqa adv,aqd,aqD,aqB]
theorem YD {c:UInt8} (h:fA c=true):c.toNat<128:=by unfold fA u1 nF hJ nN at h;simp only [arp,ap2,aqg] at h;omega
theorem WH {p:UInt8->Bool}:∀s:List UInt8,s.all p=true->s.takeWhile p=s
 | [],_=>rfl
 | c::s,h=>by rw [arz,ap2] at h;rw [arI,h.1,aqf rfl,WH s h.2]
theorem NF (p:UInt8->Bool):∀s:List UInt8,(s.takeWhile p).all p=true
 | []=>rfl
 | c::s=>by
   rw [arI]
   split
   . rename_i h;rw [arz,h,NF p s];rfl
   . rfl
theorem K_ {k:Int} {c:UInt8} {r:List UInt8} {q:Int × Int × List UInt8 × Nat} (aA:(k=3/\(hJ c.toNat=true\/c=95))\/(k=4/\nN c.toNat=true)\/(k=5/\hJ c.toNat=true)) (h:kG k (c::r)=.ok q) (ar:q.1=3\/q.1=4\/q.1=5):
 q.1=k/\dm k q.2.2.1=true:=by
 have aw:fA c=true:=by
  rcases aA with ⟨_,q | q⟩ | ⟨_,q⟩ | ⟨_,q⟩
  . exact Mk q
  . exact WL q
  . exact RT q
  . exact Mk q
 have aK:(c::r).takeWhile fA=c::r.takeWhile fA:=by rw [arI,aqf aw]
 have bp:=NF fA (c::r);rw [aK] at bp;unfold kG at h;simp only [aK] at h;generalize r.takeWhile fA=t at *
 split at h
 . cases h;simp at ar
 . rename_i afd
   split at h
   . cases h;simp at ar
   . rename_i oI
     split at h
     . cases h
     . rename_i hlen;cases h;refine ⟨rfl,?_⟩;have jl:(if k=3 then (mT (c::t)||(c::t).head? == some 95)&&!decide (c::t=[95])&&!pI (c::t) else if k=4 then BC (c::t) else mT (c::t))=true:=by
        rcases aA with ⟨rfl,z⟩ | ⟨rfl,z⟩ | ⟨rfl,z⟩
        . rw [aqf rfl];have aa:(mT (c::t)||(c::t).head? == some 95)=true:=by
           rcases z with z | z
           . show (hJ c.toNat||_)=true;rw [z];rfl
           . subst z;simp
          rw [aa,aqJ (fun z=>afd ⟨rfl,z⟩),Bool.eq_false_iff.2 (fun z=>oI ⟨rfl,z⟩)];rfl
        . exact z
        . exact z
       show dm k (c::t)=true;unfold dm;rw [jl,bp,aqH (show c::t≠[] by simp),aqH (show (c::t).length<=64 by omega)];rfl
theorem ajR {r:List UInt8} {q:Int × Int × List UInt8 × Nat} (h:gY r=.ok q) (ar:q.1=3\/q.1=4\/q.1=5):dm q.1 q.2.2.1=true:=by
 match r,h with
 | c::r,h=>
   simp only [gY] at h
   split at h
   . unfold zH at h;simp only at h
     split at h
     . cases h
     . cases h;simp at ar
   . split at h
     . unfold tJ at h
       split at h
       . cases h
       . split at h
         . cases h
         . cases h;simp at ar
     . split at h
       . rename_i aO;have:=K_ (.inl ⟨rfl,by simpa using aO⟩) h ar;rw [this.1];exact this.2
       . split at h
         . rename_i aO;have:=K_ (.inr (.inl ⟨rfl,aO⟩)) h ar;rw [this.1];exact this.2
         . split at h
           . rename_i aO;cases aW:kG 5 r with
             | error e=>rw [aW] at h;cases h
             | ok fi=>
               rw [aW] at h;cases h;obtain ⟨d,t,rfl⟩:∃d t,r=d::t:=by
                cases r with
                | nil=>simp [mT] at aO
                | cons d t=>exact ⟨d,t,rfl⟩
               have:=K_ (.inr (.inr ⟨rfl,aO.2⟩)) aW ar;show dm fi.1 fi.2.2.1=true;rw [this.1];exact this.2
           . unfold Ab at h
             split at h
             . cases h;simp at ar
             . cases h
theorem Cq:∀(f:Nat) (r:List UInt8) (p:Nat) (ws:List cc),nZ f r p=.ok ws->∀w ∈ ws,w.kind=3\/w.kind=4\/w.kind=5->dm w.kind w.text=true
 | 0,r,p,ws,h,w,hw,_=>by simp only [nZ,Except.ok.injEq] at h;subst h;cases hw
 | f+1,[],p,ws,h,w,hw,_=>by simp only [nZ,Except.ok.injEq] at h;subst h;cases hw
 | f+1,c::r,p,ws,h,w,hw,aA=>by
   simp only [nZ] at h
   split at h
   . exact Cq f _ _ ws h w hw aA
   . split at h
     . split at h
       . cases h
       . exact Cq f _ _ ws h w hw aA
     . split at h
       . cases h
       . rename_i q aW;cases aD:nZ f ((c::r).drop q.2.2.2) (p+q.2.2.2) with
         | error ax=>rw [aD] at h;cases h
         | ok bN=>
           rw [aD] at h;simp only [Be,Except.ok.injEq] at h;subst h;rcases aql.1 hw with rfl | hw
           . exact ajR aW aA
           . exact Cq f _ _ bN aD w hw aA
theorem alN {k:Int} {s:List UInt8} (aA:k=3\/k=4\/k=5) (h:dm k s=true):l0 (if k=5 then 39::s else s)=.ok [⟨k,0,0,s⟩]:=by
 obtain ⟨g1,g2,g3,g4⟩:=La h;obtain ⟨c,t,rfl⟩:=aqW g1;have adV:∀d ∈ (if k=5 then 39::c::t else c::t),d.toNat<128:=by
  intro d aq;have aa:∀d ∈ c::t,d.toNat<128:=fun d aq=>YD (aqu.1 g3 d aq)
  split at aq
  . rcases aql.1 aq with rfl | aq
    . decide
    . exact aa d aq
  . exact aa d aq
 rw [aja adV,aqa (by split<;>simp only [aqb] at g2 ⊢<;>omega)];have aw:fA c=true:=by rw [arz,ap2] at g3;exact g3.1
 obtain ⟨bM,b1⟩:=ajo aw;have rd:∀j:Int,(j=3->c::t≠[95]/\pI (c::t)=false)->kG j (c::t)=.ok (j,0,c::t,(c::t).length):=by intro j bG;unfold kG;simp only [WH _ g3];rw [aqa (fun q=>(bG q.1).1 q.2),aqa (fun q=>by rw [(bG q.1).2] at q;simp at q),aqa (by omega)]
 have fin:∀(d:UInt8) (u:List UInt8) (q:Int × Int × List UInt8 × Nat),blank d=false->d≠40->gY (d::u)=.ok q->q.2.2.2=(d::u).length->r2 (d::u) 0=.ok [⟨q.1,q.2.1,0,q.2.2.1⟩]:=by intro d u q ax aH bA b5;rw [T0,ax,aqa arE,ajZ aH,aqa arE,bA];simp only [b5,ase];rfl
 rcases aA with rfl | rfl | rfl
 . rw [aqa (by decide)];rw [aqf rfl] at g4;simp only [ap2,arb,arh,arp,arO] at g4;have a_:hJ c.toNat=true\/c=95:=g4.1.1.imp id (fun q=>ars q);exact fin c t _ bM b1 (by rw [ajW a_];exact rd 3 (fun _=>⟨g4.1.2,g4.2⟩)) rfl
 . rw [aqa (by decide)];rw [aqa (by decide),aqf rfl] at g4;have aL:nN c.toNat=true:=g4;obtain ⟨cg,dv,n3,n4⟩:=adk aL;refine fin c t (4,0,c::t,(c::t).length) bM b1 ?_ rfl;simp only [gY,cg,n3,aL,aqa dv,aqd,aqD,aqB,arQ,aqg,aqa n4];exact rd 4 (fun q=>absurd q (by decide))
 . rw [aqf rfl];rw [aqa (by decide),aqa (by decide)] at g4;refine fin 39 (c::t) (5,0,c::t,(c::t).length+1) (by decide) (by decide) ?_ rfl;simp only [gY];rw [aqa (by decide),aqa (by decide),aqa (by decide),aqa (by decide),aqf ⟨trivial,g4⟩,rd 5 (fun q=>absurd q (by decide))];rfl
def tO (k:Int) (s:List UInt8):Bool:=decide (s.length<=64)&&decide (s≠[])&&(match l0 (if k=5 then 39::s else s) with
 | .ok [w]=>decide (w.kind=k)&&decide (w.pos=0)&&decide (w.text≠[])&&decide ((if k=5 then 39::s else s)=(if w.kind=5 then 39::w.text else w.text))
 | _=>false)
theorem anV {k:Int} (aA:k=3\/k=4\/k=5) (s:List UInt8):tO k s=dm k s:=by
 rw [aqX];refine ⟨fun h=>?_,fun h=>?_⟩
 . unfold tO at h;simp only [ap2,aqg] at h;obtain ⟨_,aM⟩:=h
   split at aM
   . rename_i w hw;simp only [ap2,aqg] at aM;obtain ⟨⟨⟨ax,_⟩,_⟩,b5⟩:=aM;subst ax;have aW:dm w.kind w.text=true:=by
      generalize (if w.kind=5 then 39::s else s)=z at hw;unfold l0 at hw
      split at hw
      . cases hw
      . split at hw
        . cases hw
        . exact Cq _ _ _ _ hw w (by simp) aA
     have:s=w.text:=by
      split at b5
      . exact (List.cons.inj b5).2
      . exact b5
     rw [this];exact aW
   . cases aM
 . obtain ⟨g1,g2,_,_⟩:=La h;unfold tO;rw [alN aA h];simp [g1,g2]
theorem abF (t:aE):t.deep=lj t.l+1:=by cases t;simp only [aE.deep,aE.l]
theorem size_eq (t:aE):t.size=1+b0 t.l:=by cases t;simp only [aE.size,aE.l]
theorem U8:∀l m:List aE,lj (l++m)=max (lj l) (lj m)
 | [],m=>by simp [lj]
 | t::l,m=>by rw [aqM,lj,lj,U8 l m,Nat.max_assoc]
theorem xt:∀l m:List aE,b0 (l++m)=b0 l+b0 m
 | [],m=>by simp [b0]
 | t::l,m=>by rw [aqM,b0,b0,xt l m,ark]
theorem take_one {l:List aE} {i:Nat} (h:i<l.length):l.take (i+1)=l.take i++[l[i]]:=by rw [aqn h]
theorem alb {l:List aE} {i:Nat} (h:i<l.length):lj (l.take (i+1))=max (lj (l.take i)) l[i].deep:=by rw [take_one h,U8,lj,lj,Nat.max_zero]
mutual
theorem abG:∀t:aE,t.deep<=t.size
 | .mk k n a s l=>by rw [aE.deep,aE.size];have:=LF l;omega
theorem LF:∀l:List aE,lj l<=b0 l
 | []=>ap7 _
 | t::l=>by rw [lj,b0];have:=abG t;have:=LF l;omega
end
theorem alk (l:List aE) (i:Nat):b0 (l.take i)<=b0 l:=by have:=xt (l.take i) (l.drop i);rw [arx] at this;omega
theorem ajw (a b:Nat):(if (a:Int) < (b:Int) then (b:Int) else (a:Int))=((max a b:Nat):Int):=by
 by_cases h:(a:Int) < (b:Int)
 . rw [aqf h,Nat.max_eq_right (by omega)]
 . rw [aqa h,Nat.max_eq_left (by omega)]
theorem QL:∀(N:Nat) (t:aE),t.size<=N->N<=1000000000->∀(ah:List V) (h:ag),cb Any h t.enc ah->cr Tryz.prog 98 [.agg ah] h fun x ab=>x=.int .i64 (t.deep:Nat)/\Ext h ab
 | 0,t,aO,_,_,_,_=>by have:=qV t;omega
 | N+1,t,aO,R9,ah,h,H=>by
   obtain ⟨cB,rfl,L,_⟩:=aE.open H;have bI:N<=1000000000:=by omega
   have ol:=L.one;have aw:=L.len;have hle:=L.le;rw [ap6] at aw hle;refine aax.z rfl (cm ?_);unfold Qk;obtain ⟨aa,al,ax,dG⟩:=gb h [.int .i64 t.k,.int .i64 t.n,.int .i64 t.a,.str t.s,cB];simp +contextual only [ol.1,ol.2.1,al,dG.g,aw,↓af,an,simprocAttr];refine ek (fun r g=>r 1=.ptr (aG h.next) 0/\r 7=cB/\r 8=.int .i64 t.l.length/\∃i:Nat,r 3=.int .i64 (lj (t.l.take i):Nat)/\r 9=.int .i64 i/\i<=t.l.length/\Ext aa g) (fun r g=>t.l.length - (r 9).toN) ?_ ?_
   . exact ⟨by simp only [↓af,bq,simprocAttr],by simp only [↓af,bq,simprocAttr],by simp only [↓af,bq,simprocAttr],0,by simp only [↓af,bq,simprocAttr]<;>rfl,by simp only [↓af,bq,simprocAttr]<;>rfl,by omega,Ext.refl aa⟩
   rintro r g ⟨a8,dT,cZ,i,bP,L',aB,E⟩;unfold Ql;have A:=dG.ext E;have p5:=L.ext (ax.trans E);have kZ:=alk t.l i;have qp:=LF (t.l.take i);have aoU:=size_eq t;by_cases aN:i<t.l.length
   . have g0:((i:Int) < (t.l.length:Int))=True:=aqh (by omega);obtain ⟨b,off,wl,bQ,X,eR,ld⟩:=aE.la p5 (k:=.i64) aN;have eW:=ld g (Ext.refl g);have fq:=eR.one;have cv:=fk aN (by unfold top at hle;omega);have cu:=vf (t:=t) (aqC aN);obtain ⟨g1,dU,bD,B⟩:=gE g [.int .i64 0,.int .i64 0,.int .i64 0,.str [],.bL] [.int .i64 t.l[i].k,.int .i64 t.l[i].n,.int .i64 t.l[i].a,.str t.l[i].s,wl];simp +contextual only [a8,bP,dT,cZ,L',g0,bQ,eW,dU,B.g,fq.1,fq.2.1,↓af,an,simprocAttr];refine bF (QL N t.l[i] (by omega) bI _ g1 (X.ext bD)) ?_;rintro x g2 ⟨rfl,aH⟩;have bA:=bD.trans aH;have hm:=ajw (lj (t.l.take i)) t.l[i].deep;rw [<-alb aN] at hm;simp +contextual only [a8,bP,dT,cZ,L',cv,Up,hm,↓af,an,simprocAttr];exact ⟨⟨i+1,rfl,rfl,aN,E.trans bA⟩,by omega⟩
   . have g0:((i:Int) < (t.l.length:Int))=False:=ap_ (by omega);rw [aqt (by omega)] at bP qp kZ;have wd:IntKind.i64.wrap ((lj t.l:Int)+1)=((t.deep:Nat):Int):=by rw [abF,wrap_i64 (by omega) (by omega)];rfl
     simp +contextual only [a8,bP,dT,cZ,L',g0,wd,↓af,an,simprocAttr];exact ax.trans E
structure iz where
 first:List Int:=[]
 rest:Int:=0
 least:Int:=0
 lg:Int:=0
 last:List Int:=[]
 bu:Int:=0
 aB:Int:=0
 s:Int:=0
def iz.enc (r:iz):List D:=[.l 1 (r.first.map a7.nI),.i .i64 r.rest,.i .i64 r.least,.i .i64 r.lg,.l 1 (r.last.map a7.nI),.i .i64 r.bu,.i .i64 r.aB,.i .i64 r.s]
def tD:List (Int × iz):=
 [(1,{s:=3}),(2,{s:=1,rest:=1,lg:=64}),(3,{first:=[1,1]}),(4,{first:=[1,1]}),
  (10,{}),(13,{}),(11,{s:=1}),(12,{bu:=-1073741824,aB:=1073741823}),(14,{aB:=1}),(15,{first:=[2,2]}),(16,{s:=2,rest:=2,lg:=1}),
  (20,{bu:=-1073741824,aB:=1073741823}),(21,{s:=4}),(22,{}),(23,{aB:=1}),(24,{s:=1}),(25,{s:=2,rest:=3,lg:=1}),(26,{first:=[3,3]}),(28,{first:=[3,3]}),(35,{first:=[3,3]}),(37,{first:=[3,3]}),
  (38,{s:=5,first:=[3,3]}),(34,{first:=[3]}),(36,{first:=[3]}),(39,{first:=[3]}),(31,{first:=[3,3,3]}),(27,{first:=[2,3]}),(29,{first:=[2,3,3]}),
  (30,{rest:=5,least:=1,lg:=1073741824,last:=[3]}),(32,{first:=[3],rest:=4,least:=1,lg:=1073741824}),(33,{first:=[3],rest:=4,least:=1,lg:=1073741824}),
  (45,{first:=[2,3]}),(46,{s:=1,first:=[9]}),(47,{s:=2,rest:=1,lg:=1}),(51,{s:=2,rest:=1,lg:=1}),(52,{first:=[2,3]}),(53,{rest:=5,least:=1,lg:=1073741824}),
  (50,{s:=1,aB:=64,rest:=6,least:=1,lg:=1073741824})]
def GQ:List (Int × List D):=tD.map fun x=>(x.1,x.2.enc)
set_option maxRecDepth 100000 in
theorem amh:Gg ctx 100000 95 (fun av v=>Gf av 1000 GQ v)=true:=by kernel_rfl
theorem amg (h:ag):cr Tryz.prog 95 [] h fun x ab=>Ext h ab/\o' (lC h) ab GQ x:=
 aa3 (C:=ctx) follows zE LN (by kernel_rfl) (by kernel_rfl) ⟨_,Tryz.func95,by kernel_rfl⟩ amh h
def fE (k:Int):Int:=if 1<=k/\k<=4 then 1 else if 10<=k/\k<=16 then 2 else if 20<=k/\k<=39 then 3 else if k=45 then 4 else if k=46 then 5 else if k=47 then 6 else if 50<=k/\k<=53 then 7 else 0
theorem TQ {a b:Int} (h:a<=b):(a<=b)=True:=aqh h
theorem TP {a b:Int} (h:b<a):(a<=b)=False:=ap_ (by omega)
theorem yE {a b:Int} (h:b<=a):(a>=b)=True:=aqh h
theorem Bp {a b:Int} (h:a<b):(a>=b)=False:=ap_ (by omega)
theorem Th {a b:Int} (h:a=b):(a=b)=True:=aqh h
theorem Tg {a b:Int} (h:a<b\/b<a):(a=b)=False:=ap_ (by omega)
theorem RV (k:Int) (h:ag):cr Tryz.prog 96 [.int .i64 k] h fun x ab=>x=.int .i64 (fE k)/\ab=h:=by
 refine aav.z rfl (cm ?_);unfold Qh fE;have aj:k<1\/(1<=k/\k<=4)\/(5<=k/\k<=9)\/(10<=k/\k<=16)\/(17<=k/\k<=19)\/(20<=k/\k<=39)\/(40<=k/\k<=44)\/k=45\/k=46\/k=47\/(48<=k/\k<=49)\/(50<=k/\k<=53)\/54<=k:=by omega
 rcases aj with q | q | q | q | q | q | q | q | q | q | q | q | q<;>simp +contextual (disch:=omega) only [TQ,TP,yE,Bp,Th,Tg,ast,asy,asb,asu,aqB,aqD,↓af,an,simprocAttr]<;>trivial
theorem VS (k:Int) (h:ag):cr Tryz.prog 66 [.int .i64 k] h fun x ab=>x=.int .i64 (fE k)/\ab=h:=by
 refine Z3.z rfl (cm ?_);unfold Pr fE;have aj:k<1\/(1<=k/\k<=4)\/(5<=k/\k<=9)\/(10<=k/\k<=16)\/(17<=k/\k<=19)\/(20<=k/\k<=39)\/(40<=k/\k<=44)\/k=45\/k=46\/k=47\/(48<=k/\k<=49)\/(50<=k/\k<=53)\/54<=k:=by omega
 rcases aj with q | q | q | q | q | q | q | q | q | q | q | q | q<;>simp +contextual (disch:=omega) only [TQ,TP,yE,Bp,Th,Tg,ast,asy,asb,asu,aqB,aqD,↓af,an,simprocAttr]<;>trivial
def uU (k g:Int):Bool:=if g=8 then decide (k=1) else if g=9 then decide (k=27) else decide (fE k=g)
theorem agk (t:aE) (g:Int) (ah:List V) (h:ag) (H:cb Any h t.enc ah):cr Tryz.prog 103 [.agg ah,.int .i64 g] h fun x ab=>x=.bool (uU t.k g)/\Ext h ab:=by
 obtain ⟨cB,rfl,L,_⟩:=aE.open H;have ol:=L.one;refine Zn.z rfl (cm ?_);unfold Og uU;obtain ⟨aa,al,ax,dG⟩:=gb h [.int .i64 t.k,.int .i64 t.n,.int .i64 t.a,.str t.s,cB];by_cases a:g=8
 . simp +contextual only [ol.1,ol.2.1,al,dG.g,aqh a,aqB,↓af,an,simprocAttr];exact ax
 . by_cases b:g=9
   . simp +contextual only [ol.1,ol.2.1,al,dG.g,ap_ a,aqh b,aqB,aqD,↓af,an,simprocAttr];exact ax
   . simp +contextual only [ol.1,ol.2.1,al,dG.g,ap_ a,ap_ b,aqD,↓af,an,simprocAttr];refine bF (RV t.k aa) ?_;rintro x ae ⟨rfl,rfl⟩;simp +contextual only [↓af,an,simprocAttr];exact ax
def z6 (k:Int):List (Int × iz)->Option iz
 | []=>none
 | (n,r)::l=>if k=n then some r else z6 k l
def pV (k:Int):Option iz:=z6 k tD
theorem Rw (k:Int):∀l:List (Int × iz),n2 k (l.map fun x=>(x.1,x.2.enc))=(z6 k l).map iz.enc
 | []=>rfl
 | (n,r)::l=>by
   simp only [are,n2,z6]
   split
   . rfl
   . exact Rw k l
theorem acA (k:Int):n2 k GQ=(pV k).map iz.enc:=Rw k tD
def opsL:List (List UInt8):=[[43],[45],[42],[47],[109,111,100],[61],[60],[60,61]]
section
variable (named:Int->List UInt8->Bool)
def Ak (oH:Int) (s:List UInt8):Bool:=
 if oH=1 then named 3 s else if oH=2 then named 4 s else if oH=3 then named 5 s else if oH=4 then decide (s.length<=4096) else if oH=5 then opsL.contains s else decide (s=[])
def firstM (r:iz) (k n:Int):List Int:=if k=50 then List.replicate n.toNat 8 else r.first
def hp (r:iz) (k n:Int) (len:Nat):Int:=(len:Int) - (firstM r k n).length-r.last.length
def oB (r:iz) (k n:Int) (len:Nat):List Int:=firstM r k n++List.replicate (hp r k n len).toNat r.rest++r.last
def BD (r:iz) (k n a:Int) (s:List UInt8):Bool:=
 decide (r.bu<=n)&&decide (n<=r.aB)&&decide (0<=a)&&decide (a<=65536)&&Ak named r.s s
def lb (r:iz) (k n:Int) (len:Nat):Bool:=decide (r.least<=hp r k n len)&&decide (hp r k n len<=r.lg)
mutual
def aE.may:aE->Bool
 | .mk k n a s l=>match pV k with
   | none=>false
   | some r=>BD named r k n a s&&lb r k n l.length&&n_ (oB r k n l.length) l
def n_:List Int->List aE->Bool
 | _,[]=>true
 | [],_::_=>true
 | g::gs,t::l=>uU t.k g&&t.may&&n_ gs l
end
def oZ (k:Int) (s:List UInt8):Bool:=
 if k=1 then named 5 s else if k=2\/k=11\/k=24\/k=46\/k=50 then named 3 s else if k=16\/k=25\/k=47\/k=51 then named 4 s else
 if k=21 then decide (s.length<=4096) else if k=38 then opsL.contains s else decide (s=[])
def hq (k n:Int) (len:Nat):Bool:=
 if k=12\/k=20 then decide (-1073741824<=n)&&decide (n<=1073741823) else if k=14\/k=23 then decide (n=0)||decide (n=1) else
 if k=50 then decide (0<=n)&&decide (n<=64)&&decide (n < (len:Int)) else decide (n=0)
def I5:List aE->Bool
 | t::_=>decide (t.k=27)
 | []=>false
def de (k n:Int) (l:List aE):List Int × Bool:=
 let len:=l.length
 if k=2 then (List.replicate len 1,decide (len<=64))
 else if k=3\/k=4 then (List.replicate 2 1,decide (len=2))
 else if k=15 then (List.replicate 2 2,decide (len=2))
 else if k=16 then (List.replicate len 2,decide (len<=1))
 else if k=25 then (List.replicate len 3,decide (len<=1))
 else if k=26\/k=28\/k=35\/k=37\/k=38 then (List.replicate 2 3,decide (len=2))
 else if k=34\/k=36\/k=39 then (List.replicate 1 3,decide (len=1))
 else if k=31 then (List.replicate 3 3,decide (len=3))
 else if k=27\/k=45\/k=52 then ([2,3],decide (len=2))
 else if k=29 then ([2,3,3],decide (len=3))
 else if k=30 then (List.replicate (len-1) 5++[3],decide (2<=len))
 else if k=32\/k=33 then ([3]++List.replicate (len-1) 4,decide (2<=len))
 else if k=46 then (List.replicate 1 3,decide (len=1)&&I5 l)
 else if k=47\/k=51 then (List.replicate len 1,decide (len<=1))
 else if k=50 then (List.replicate n.toNat 8++List.replicate (len-n.toNat) 6,true)
 else if k=53 then (List.replicate len 5,decide (1<=len))
 else ([],decide (len=0))
def pU (k g:Int):Bool:=if g=8 then decide (k=1) else decide (fE k=g)
mutual
def aE.j7:aE->Bool
 | .mk k n a s l=>decide (fE k≠0)&&oZ named k s&&hq k n l.length&&decide (0<=a)&&decide (a<=65536)&&(de k n l).2&&km (de k n l).1 l
def km:List Int->List aE->Bool
 | _,[]=>true
 | [],_::_=>true
 | g::gs,t::l=>pU t.k g&&t.j7&&km gs l
end
end
theorem GP {k:Int} {r:iz}:∀{l:List (Int × iz)},z6 k l=some r->(k,r) ∈ l
 | [],h=>by cases h
 | (n,q)::l,h=>by
   simp only [z6] at h
   split at h
   . cases h;rename_i e;subst e;simp
   . exact aqs _ (GP h)
theorem V1 {k:Int} (h:pV k=none):fE k=0:=by
 by_cases aA:1<=k/\k<=53
 . obtain ⟨n,rfl⟩:=Int.eq_ofNat_of_zero_le (show 0<=k by omega);have key:∀n<54,(pV ((n:Nat):Int)).isNone=true->fE ((n:Nat):Int)=0:=by decide
   exact key n (by omega) (by rw [h];rfl)
 . unfold fE;rw [aqa (by omega),aqa (by omega),aqa (by omega),aqa (by omega),aqa (by omega),aqa (by omega),aqa (by omega)]
section
variable {named:Int->List UInt8->Bool}
theorem al1 {k g:Int} (h:g≠9):pU k g=uU k g:=by
 unfold pU uU;by_cases rJ:g=8
 . rw [aqf rJ,aqf rJ]
 . rw [aqa rJ,aqa rJ,aqa h]
theorem Vd:∀{gs:List Int} {l:List aE},(∀t ∈ l,t.j7 named=t.may named)->(∀g ∈ gs,g≠9)->km named gs l=n_ named gs l
 | [],[],_,_=>by rw [km,n_]
 | g::gs,[],_,_=>by rw [km,n_]
 | [],t::l,_,_=>by rw [km,n_]
 | g::gs,t::l,h,aL=>by rw [km,n_,h t (by simp),al1 (aL g (by simp)),Vd (fun t aK=>h t (by simp [aK])) (fun g h=>aL g (by simp [h]))]
theorem ajx {k n a:Int} {s:List UInt8} {l:List aE} {r:iz} (aA:fE k≠0) (a1:∀t ∈ l,t.j7 named=t.may named) (aD:pV k=some r)
 (aa:oZ named k s=Ak named r.s s) (ae:(hq k n l.length&&(de k n l).2)=(decide (r.bu<=n)&&decide (n<=r.aB)&&lb r k n l.length))
 (aM:lb r k n l.length=true->r.bu<=n->(de k n l).1=oB r k n l.length) (Bq:∀g ∈ oB r k n l.length,g≠9):(aE.mk k n a s l).j7 named=(aE.mk k n a s l).may named:=by
 rw [aE.j7,aE.may,aD];simp only;unfold BD;rw [aqH aA,aqY,aa];cases c0:lb r k n l.length with
 | false=>
   rw [c0,art] at ae;simp only [art];have:(hq k n l.length&&(de k n l).2)=false:=ae;rw [arJ] at this;rcases this with q | q<;>rw [q]<;>simp
 | true=>
   rw [c0,aq1] at ae;by_cases d':r.bu<=n
   . rw [aM c0 d',Vd a1 Bq];have:∀x y z w u v:Bool,(x&&y&&z&&w&&u&&v)=(x&&(y&&u)&&z&&w&&v):=by decide
     rw [this,ae];simp only [aq1];have:∀x y z w u v:Bool,(x&&(y&&z)&&w&&u&&v)=(y&&z&&w&&u&&x&&v):=by decide
     rw [this]
   . rw [aqJ d',aqV] at ae;rw [aqJ d'];simp only [aqV];rw [arJ] at ae;rcases ae with q | q<;>rw [q]<;>simp
theorem tn:∀(N:Nat) (t:aE),t.size<=N->N<=1000000000->t.j7 named=t.may named
 | 0,t,aO,_=>by have:=qV t;omega
 | N+1,.mk k n a s l,aO,bI=>by
   have iU:l.length<=1000000000:=by have:=mG l;simp only [aE.size] at aO;omega
   have a1:∀t ∈ l,t.j7 named=t.may named:=fun t aK=>tn N t (by have:=vf (t:=.mk k n a s l) (u:=t) aK;omega) (by omega);cases aD:pV k with
   | none=>
     rw [aE.j7,aE.may,aD,V1 aD];simp
   | some r=>
     have hm:=GP (l:=tD) aD;by_cases R2:k=46
     . subst R2;have:r={s:=1,first:=[9]}:=by
        have:pV 46=some {s:=1,first:=[9]}:=by rfl
        rw [aD] at this;exact ars this
       subst this;rw [aE.j7,aE.may,aD];simp only;have ax:oZ named 46 s=Ak named 1 s:=by rfl
       have aH:hq 46 n l.length=(decide (0<=n)&&decide (n<=0)):=by rw [aqX];simp [hq];omega
       unfold BD;rw [ax,aH,aqH (show fE 46≠0 by decide)]
       match l,a1 with
       | [],_=>simp [de,lb,hp,firstM]
       | [t],a1=>
         have aL:oB {s:=1,first:=[9]} 46 n [t].length=[9]:=by simp [oB,firstM,hp]
         have wK:de 46 n [t]=([3],decide (t.k=27)):=by simp [de,I5]
         rw [aL,wK,km,n_,km,n_,a1 t (by simp)];have c0:lb {s:=1,first:=[9]} 46 n [t].length=true:=by simp [lb,hp,firstM]
         rw [c0];have aB:uU t.k 9=decide (t.k=27):=by simp [uU]
         rw [aB];by_cases Jc:t.k=27
         . rw [aqH Jc];have:pU t.k 3=true:=by rw [Jc];decide
           rw [this];have:∀x y z w u v:Bool,(true&&x&&(y&&z)&&w&&u&&true&&(true&&v&&true))=(y&&z&&w&&u&&x&&true&&(true&&v&&true)):=by decide
           apply this
         . rw [aqJ Jc];simp
       | t::u::l,_=>
         have aa:(de 46 n (t::u::l)).2=false:=by simp [de]
         have ae:lb {s:=1,first:=[9]} 46 n (t::u::l).length=false:=by simp [lb,hp,firstM]
         rw [aa,ae];simp
     . simp only [tD,aql,aq9,asn,or_false] at hm;rcases hm with h | h | h | h | h | h | h | h | h | h | h | h | h | h | h | h | h | h | h | h | h | h | h | h | h | h | h | h | h | h | h | h | h | h | h | h | h | h<;>
       obtain ⟨rfl,rfl⟩:=h<;>first | (exact absurd rfl R2) | skip
       all_goals
        refine ajx (by decide) a1 aD (by rfl) ?_ ?_ ?_
        . rw [aqX];simp [hq,de,lb,hp,firstM]
          try omega
        . intro c0 d';simp [de,lb,hp,firstM,oB] at c0 d' ⊢
          try omega
        . simp [oB,firstM,hp]
          try (intro g aL;omega)
end
end
end Go.Proofs.YtgmhjhgoamjeeaaGreatDoor
