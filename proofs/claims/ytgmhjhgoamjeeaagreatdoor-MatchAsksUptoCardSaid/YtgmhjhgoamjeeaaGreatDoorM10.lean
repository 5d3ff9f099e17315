/- The chapter's functions, walked by the abstract machine: plain lemmas, no condition. Printed by a program from longer texts: names made short. -/
import Derived.Test.YtgmhjhgoamjeeaaGreatDoorM8
import Derived.Test.YtgmhjhgoamjeeaaGreatDoorM9
import Derived.Test.YtgmhjhgoamjeeaaGreatDoorM6
import Derived.Shelf.Unicode.Decode
import Derived.Shelf.Unicode.DecodeSlow
import Derived.Shelf.Unicode.DecodeAny
import Derived.Shelf.Strconv.Atoi
import Derived.Shelf.Pu.ParseUintPublic10
import Derived.Lib.LaidU8T
set_option linter.unusedSectionVars false
set_option linter.unusedSimpArgs false
set_option linter.unusedVariables false
set_option maxHeartbeats 64000000
noncomputable section
namespace Go.Proofs.YtgmhjhgoamjeeaaGreatDoor
section
open Go aZ
theorem abL:Extern.findNext Tryz.f128=none:=by kernel_rfl
theorem abK:(Extern.find Tryz.f128)=some Extern.BytealgIndexByte.indexByte:=by kernel_rfl
theorem afm (s:List UInt8) (c:Int) (h:ae):eZ Tryz.prog 128 [.str s,.int .u8 c] h (.int .i64 (Lib.indexByte s c.toNat.toUInt8)) h:=
 afp (by decide) Tryz.func128 (by kernel_rfl) (by kernel_rfl) abL abK s c h
theorem afl (s:List UInt8) (c:Int) (h:ae):eZ Tryz.prog 118 [.str s,.int .u8 c] h (.int .i64 (Lib.indexByte s c.toNat.toUInt8)) h:=by refine oj (YP.z rfl (cr ?_));unfold NX;simp +contextual only [↓ag,al,simprocAttr];refine fZ (afm _ _ _) ?_;simp +contextual only [↓ag,al,simprocAttr]
theorem St (s:List UInt8) (c:Int) (h:ae):eZ Tryz.prog 113 [.str s,.int .u8 c] h (.int .i64 (Lib.indexByte s c.toNat.toUInt8)) h:=by refine oj (YL.z rfl (cr ?_));unfold NR;simp +contextual only [↓ag,al,simprocAttr];refine fZ (afl _ _ _) ?_;simp +contextual only [↓ag,al,simprocAttr]
end
section
open Go Go.Shelf
def Tryz.ah6:Go.Shelf.Ren:=⟨fun | 197=>117 | 260=>127 | n=>n,fun | 9=>9 | 21=>21 | 3=>3 | 4=>4 | 5=>5 | 105=>185 | 119=>196 | 0=>0 | 46=>160 | 139=>199 | 138=>198 | n=>n,fun | 3=>0 | 4=>1 | n=>n⟩
theorem Tryz.ah5:Go.Proofs.Lays.n197 Tryz.prog Tryz.ah6:={
 mixed:=by kernel_rfl,
 f197:=Tryz.func117.trans (congrArg some (by kernel_rfl)),
 f260:=Tryz.func127.trans (congrArg some (by kernel_rfl)),
 t0:=Tryz.underlying0,
 a0:=Tryz.isAgg0,
 z0:=Tryz.sizeOf0,
 v0:=Tryz.zeroValue0,
 t3:=Tryz.underlying3,
 a3:=Tryz.isAgg3,
 z3:=Tryz.sizeOf3,
 v3:=Tryz.zeroValue3,
 t4:=Tryz.underlying4,
 a4:=Tryz.isAgg4,
 z4:=Tryz.sizeOf4,
 v4:=Tryz.zeroValue4,
 t5:=Tryz.underlying5,
 a5:=Tryz.isAgg5,
 z5:=Tryz.sizeOf5,
 v5:=Tryz.zeroValue5,
 t9:=Tryz.underlying9,
 a9:=Tryz.isAgg9,
 z9:=Tryz.sizeOf9,
 v9:=Tryz.zeroValue9,
 t21:=Tryz.underlying21,
 a21:=Tryz.isAgg21,
 z21:=Tryz.sizeOf21,
 v21:=Tryz.zeroValue21,
 t46:=Tryz.underlying160,
 a46:=Tryz.isAgg160,
 z46:=Tryz.sizeOf160,
 v46:=Tryz.zeroValue160,
 t105:=Tryz.underlying185,
 a105:=Tryz.isAgg185,
 z105:=Tryz.sizeOf185,
 v105:=Tryz.zeroValue185,
 t119:=Tryz.underlying196,
 a119:=Tryz.isAgg196,
 z119:=Tryz.sizeOf196,
 t138:=Tryz.underlying198,
 a138:=Tryz.isAgg198,
 z138:=Tryz.sizeOf198,
 v138:=Tryz.zeroValue198,
 t139:=Tryz.underlying199,
 a139:=Tryz.isAgg199,
 z139:=Tryz.sizeOf199,
 v139:=Tryz.zeroValue199,
 g3:=by kernel_rfl,
 g4:=by kernel_rfl}
def Tryz.ah4:Go.Shelf.Ren:=⟨fun | 172=>137 | 244=>145 | 245=>136 | 247=>150 | 279=>141 | 280=>142 | 281=>143 | 282=>144 | 287=>135 | 316=>147 | 171=>149 | 205=>148 | 321=>139 | 322=>140 | 243=>154 | 246=>156 | 283=>157 | 284=>158 | 285=>159 | 286=>160 | 129=>162 | 317=>161 | 318=>163 | 319=>164 | 320=>165 | 337=>166 | 338=>167 | n=>n,fun | 9=>9 | 3=>3 | 75=>190 | 76=>201 | 4=>4 | 5=>5 | 167=>204 | 37=>194 | 0=>0 | 85=>214 | 2=>2 | 168=>206 | 53=>175 | 175=>191 | 46=>160 | 210=>211 | 127=>216 | 145=>219 | 143=>217 | 21=>21 | 171=>222 | 173=>225 | 212=>228 | 51=>172 | 20=>20 | 213=>229 | 232=>233 | 233=>234 | 80=>235 | n=>n,fun | 15=>3 | 16=>4 | 17=>5 | 18=>6 | 19=>7 | n=>n⟩
theorem Tryz.ah3:Go.Proofs.Lays.n172 Tryz.prog Tryz.ah4:={
 mixed:=by kernel_rfl,
 f129:=Tryz.func162.trans (congrArg some (by kernel_rfl)),
 f171:=Tryz.func149.trans (congrArg some (by kernel_rfl)),
 f172:=Tryz.func137.trans (congrArg some (by kernel_rfl)),
 f205:=Tryz.func148.trans (congrArg some (by kernel_rfl)),
 f243:=Tryz.func154.trans (congrArg some (by kernel_rfl)),
 f244:=Tryz.func145.trans (congrArg some (by kernel_rfl)),
 f245:=Tryz.func136.trans (congrArg some (by kernel_rfl)),
 f246:=Tryz.func156.trans (congrArg some (by kernel_rfl)),
 f247:=Tryz.func150.trans (congrArg some (by kernel_rfl)),
 f279:=Tryz.func141.trans (congrArg some (by kernel_rfl)),
 f280:=Tryz.func142.trans (congrArg some (by kernel_rfl)),
 f281:=Tryz.func143.trans (congrArg some (by kernel_rfl)),
 f282:=Tryz.func144.trans (congrArg some (by kernel_rfl)),
 f283:=Tryz.func157.trans (congrArg some (by kernel_rfl)),
 f284:=Tryz.func158.trans (congrArg some (by kernel_rfl)),
 f285:=Tryz.func159.trans (congrArg some (by kernel_rfl)),
 f286:=Tryz.func160.trans (congrArg some (by kernel_rfl)),
 f287:=Tryz.func135.trans (congrArg some (by kernel_rfl)),
 f316:=Tryz.func147.trans (congrArg some (by kernel_rfl)),
 f317:=Tryz.func161.trans (congrArg some (by kernel_rfl)),
 f318:=Tryz.func163.trans (congrArg some (by kernel_rfl)),
 f319:=Tryz.func164.trans (congrArg some (by kernel_rfl)),
 f320:=Tryz.func165.trans (congrArg some (by kernel_rfl)),
 f321:=Tryz.func139.trans (congrArg some (by kernel_rfl)),
 f322:=Tryz.func140.trans (congrArg some (by kernel_rfl)),
 f337:=Tryz.func166.trans (congrArg some (by kernel_rfl)),
 f338:=Tryz.func167.trans (congrArg some (by kernel_rfl)),
 t0:=Tryz.underlying0,
 a0:=Tryz.isAgg0,
 z0:=Tryz.sizeOf0,
 v0:=Tryz.zeroValue0,
 t2:=Tryz.underlying2,
 a2:=Tryz.isAgg2,
 z2:=Tryz.sizeOf2,
 v2:=Tryz.zeroValue2,
 t3:=Tryz.underlying3,
 a3:=Tryz.isAgg3,
 z3:=Tryz.sizeOf3,
 v3:=Tryz.zeroValue3,
 t4:=Tryz.underlying4,
 a4:=Tryz.isAgg4,
 z4:=Tryz.sizeOf4,
 v4:=Tryz.zeroValue4,
 t5:=Tryz.underlying5,
 a5:=Tryz.isAgg5,
 z5:=Tryz.sizeOf5,
 v5:=Tryz.zeroValue5,
 t9:=Tryz.underlying9,
 a9:=Tryz.isAgg9,
 z9:=Tryz.sizeOf9,
 v9:=Tryz.zeroValue9,
 t20:=Tryz.underlying20,
 a20:=Tryz.isAgg20,
 z20:=Tryz.sizeOf20,
 v20:=Tryz.zeroValue20,
 t21:=Tryz.underlying21,
 a21:=Tryz.isAgg21,
 z21:=Tryz.sizeOf21,
 v21:=Tryz.zeroValue21,
 t37:=Tryz.underlying194,
 a37:=Tryz.isAgg194,
 z37:=Tryz.sizeOf194,
 v37:=Tryz.zeroValue194,
 t46:=Tryz.underlying160,
 a46:=Tryz.isAgg160,
 z46:=Tryz.sizeOf160,
 v46:=Tryz.zeroValue160,
 t51:=Tryz.underlying172,
 a51:=Tryz.isAgg172,
 z51:=Tryz.sizeOf172,
 v51:=Tryz.zeroValue172,
 t53:=Tryz.underlying175,
 a53:=Tryz.isAgg175,
 z53:=Tryz.sizeOf175,
 v53:=Tryz.zeroValue175,
 t75:=Tryz.underlying190,
 a75:=Tryz.isAgg190,
 z75:=Tryz.sizeOf190,
 v75:=Tryz.zeroValue190,
 t76:=Tryz.underlying201,
 a76:=Tryz.isAgg201,
 z76:=Tryz.sizeOf201,
 v76:=Tryz.zeroValue201,
 t85:=Tryz.underlying214,
 a85:=Tryz.isAgg214,
 z85:=Tryz.sizeOf214,
 v85:=Tryz.zeroValue214,
 t127:=Tryz.underlying216,
 a127:=Tryz.isAgg216,
 z127:=Tryz.sizeOf216,
 v127:=Tryz.zeroValue216,
 t143:=Tryz.underlying217,
 a143:=Tryz.isAgg217,
 z143:=Tryz.sizeOf217,
 v143:=Tryz.zeroValue217,
 t145:=Tryz.underlying219,
 a145:=Tryz.isAgg219,
 z145:=Tryz.sizeOf219,
 v145:=Tryz.zeroValue219,
 t167:=Tryz.underlying204,
 a167:=Tryz.isAgg204,
 z167:=Tryz.sizeOf204,
 v167:=Tryz.zeroValue204,
 t168:=Tryz.underlying206,
 a168:=Tryz.isAgg206,
 z168:=Tryz.sizeOf206,
 v168:=Tryz.zeroValue206,
 t171:=Tryz.underlying222,
 a171:=Tryz.isAgg222,
 z171:=Tryz.sizeOf222,
 v171:=Tryz.zeroValue222,
 t173:=Tryz.underlying225,
 a173:=Tryz.isAgg225,
 z173:=Tryz.sizeOf225,
 v173:=Tryz.zeroValue225,
 t175:=Tryz.underlying191,
 a175:=Tryz.isAgg191,
 z175:=Tryz.sizeOf191,
 v175:=Tryz.zeroValue191,
 t210:=Tryz.underlying211,
 a210:=Tryz.isAgg211,
 z210:=Tryz.sizeOf211,
 v210:=Tryz.zeroValue211,
 t212:=Tryz.underlying228,
 a212:=Tryz.isAgg228,
 z212:=Tryz.sizeOf228,
 v212:=Tryz.zeroValue228,
 t213:=Tryz.underlying229,
 a213:=Tryz.isAgg229,
 z213:=Tryz.sizeOf229,
 t232:=Tryz.underlying233,
 a232:=Tryz.isAgg233,
 z232:=Tryz.sizeOf233,
 v232:=Tryz.zeroValue233,
 t233:=Tryz.underlying234,
 a233:=Tryz.isAgg234,
 z233:=Tryz.sizeOf234,
 v233:=Tryz.zeroValue234,
 g15:=by kernel_rfl,
 g16:=by kernel_rfl,
 g17:=by kernel_rfl,
 g18:=by kernel_rfl,
 g19:=by kernel_rfl}
def Tryz.Kw:Go.Shelf.Ren:=⟨fun | 14=>130 | 16=>135 | 17=>136 | 19=>139 | 20=>140 | 21=>141 | 22=>142 | 23=>143 | 24=>144 | 25=>147 | 27=>149 | 26=>148 | 28=>154 | 29=>156 | 30=>157 | 31=>158 | 32=>159 | 33=>160 | 35=>162 | 34=>161 | 36=>163 | 37=>164 | 38=>165 | 39=>166 | 40=>167 | n=>n,fun | 9=>9 | 3=>3 | 22=>175 | 24=>190 | 25=>191 | 4=>4 | 34=>204 | 5=>5 | 36=>160 | 37=>194 | 0=>0 | 39=>206 | 21=>21 | 44=>211 | 47=>216 | 50=>219 | 48=>217 | 2=>2 | 52=>222 | 55=>225 | 59=>228 | 60=>172 | 20=>20 | 61=>229 | 65=>233 | 66=>234 | 67=>235 | n=>n,fun | 0=>3 | 1=>4 | 2=>5 | 3=>6 | 4=>7 | n=>n⟩
theorem Tryz.SU:Go.Proofs.LaysPu.n14 Tryz.prog Tryz.Kw:={
 mixed:=by kernel_rfl,
 f14:=Tryz.func130.trans (congrArg some (by kernel_rfl)),
 f16:=Tryz.func135.trans (congrArg some (by kernel_rfl)),
 f17:=Tryz.func136.trans (congrArg some (by kernel_rfl)),
 f19:=Tryz.func139.trans (congrArg some (by kernel_rfl)),
 f20:=Tryz.func140.trans (congrArg some (by kernel_rfl)),
 f21:=Tryz.func141.trans (congrArg some (by kernel_rfl)),
 f22:=Tryz.func142.trans (congrArg some (by kernel_rfl)),
 f23:=Tryz.func143.trans (congrArg some (by kernel_rfl)),
 f24:=Tryz.func144.trans (congrArg some (by kernel_rfl)),
 f25:=Tryz.func147.trans (congrArg some (by kernel_rfl)),
 f26:=Tryz.func148.trans (congrArg some (by kernel_rfl)),
 f27:=Tryz.func149.trans (congrArg some (by kernel_rfl)),
 f28:=Tryz.func154.trans (congrArg some (by kernel_rfl)),
 f29:=Tryz.func156.trans (congrArg some (by kernel_rfl)),
 f30:=Tryz.func157.trans (congrArg some (by kernel_rfl)),
 f31:=Tryz.func158.trans (congrArg some (by kernel_rfl)),
 f32:=Tryz.func159.trans (congrArg some (by kernel_rfl)),
 f33:=Tryz.func160.trans (congrArg some (by kernel_rfl)),
 f34:=Tryz.func161.trans (congrArg some (by kernel_rfl)),
 f35:=Tryz.func162.trans (congrArg some (by kernel_rfl)),
 f36:=Tryz.func163.trans (congrArg some (by kernel_rfl)),
 f37:=Tryz.func164.trans (congrArg some (by kernel_rfl)),
 f38:=Tryz.func165.trans (congrArg some (by kernel_rfl)),
 f39:=Tryz.func166.trans (congrArg some (by kernel_rfl)),
 f40:=Tryz.func167.trans (congrArg some (by kernel_rfl)),
 t0:=Tryz.underlying0,
 a0:=Tryz.isAgg0,
 z0:=Tryz.sizeOf0,
 v0:=Tryz.zeroValue0,
 i0:=by kernel_rfl,
 t2:=Tryz.underlying2,
 a2:=Tryz.isAgg2,
 z2:=Tryz.sizeOf2,
 v2:=Tryz.zeroValue2,
 i2:=by kernel_rfl,
 t3:=Tryz.underlying3,
 a3:=Tryz.isAgg3,
 z3:=Tryz.sizeOf3,
 v3:=Tryz.zeroValue3,
 i3:=by kernel_rfl,
 t4:=Tryz.underlying4,
 a4:=Tryz.isAgg4,
 z4:=Tryz.sizeOf4,
 v4:=Tryz.zeroValue4,
 i4:=by kernel_rfl,
 t5:=Tryz.underlying5,
 a5:=Tryz.isAgg5,
 z5:=Tryz.sizeOf5,
 v5:=Tryz.zeroValue5,
 i5:=by kernel_rfl,
 t9:=Tryz.underlying9,
 a9:=Tryz.isAgg9,
 z9:=Tryz.sizeOf9,
 v9:=Tryz.zeroValue9,
 i9:=by kernel_rfl,
 t20:=Tryz.underlying20,
 a20:=Tryz.isAgg20,
 z20:=Tryz.sizeOf20,
 v20:=Tryz.zeroValue20,
 i20:=by kernel_rfl,
 t21:=Tryz.underlying21,
 a21:=Tryz.isAgg21,
 z21:=Tryz.sizeOf21,
 v21:=Tryz.zeroValue21,
 i21:=by kernel_rfl,
 t22:=Tryz.underlying175,
 a22:=Tryz.isAgg175,
 z22:=Tryz.sizeOf175,
 v22:=Tryz.zeroValue175,
 i22:=by kernel_rfl,
 t24:=Tryz.underlying190,
 a24:=Tryz.isAgg190,
 z24:=Tryz.sizeOf190,
 v24:=Tryz.zeroValue190,
 i24:=by kernel_rfl,
 t25:=Tryz.underlying191,
 a25:=Tryz.isAgg191,
 z25:=Tryz.sizeOf191,
 v25:=Tryz.zeroValue191,
 i25:=by kernel_rfl,
 t34:=Tryz.underlying204,
 a34:=Tryz.isAgg204,
 z34:=Tryz.sizeOf204,
 v34:=Tryz.zeroValue204,
 i34:=by kernel_rfl,
 c34:=by kernel_rfl,
 t36:=Tryz.underlying160,
 a36:=Tryz.isAgg160,
 z36:=Tryz.sizeOf160,
 v36:=Tryz.zeroValue160,
 i36:=by kernel_rfl,
 t37:=Tryz.underlying194,
 a37:=Tryz.isAgg194,
 z37:=Tryz.sizeOf194,
 v37:=Tryz.zeroValue194,
 i37:=by kernel_rfl,
 t39:=Tryz.underlying206,
 a39:=Tryz.isAgg206,
 z39:=Tryz.sizeOf206,
 v39:=Tryz.zeroValue206,
 i39:=by kernel_rfl,
 t44:=Tryz.underlying211,
 a44:=Tryz.isAgg211,
 z44:=Tryz.sizeOf211,
 v44:=Tryz.zeroValue211,
 i44:=by kernel_rfl,
 t47:=Tryz.underlying216,
 a47:=Tryz.isAgg216,
 z47:=Tryz.sizeOf216,
 v47:=Tryz.zeroValue216,
 i47:=by kernel_rfl,
 t48:=Tryz.underlying217,
 a48:=Tryz.isAgg217,
 z48:=Tryz.sizeOf217,
 v48:=Tryz.zeroValue217,
 i48:=by kernel_rfl,
 t50:=Tryz.underlying219,
 a50:=Tryz.isAgg219,
 z50:=Tryz.sizeOf219,
 v50:=Tryz.zeroValue219,
 i50:=by kernel_rfl,
 t52:=Tryz.underlying222,
 a52:=Tryz.isAgg222,
 z52:=Tryz.sizeOf222,
 v52:=Tryz.zeroValue222,
 i52:=by kernel_rfl,
 t55:=Tryz.underlying225,
 a55:=Tryz.isAgg225,
 z55:=Tryz.sizeOf225,
 v55:=Tryz.zeroValue225,
 i55:=by kernel_rfl,
 t59:=Tryz.underlying228,
 a59:=Tryz.isAgg228,
 z59:=Tryz.sizeOf228,
 v59:=Tryz.zeroValue228,
 i59:=by kernel_rfl,
 t60:=Tryz.underlying172,
 a60:=Tryz.isAgg172,
 z60:=Tryz.sizeOf172,
 v60:=Tryz.zeroValue172,
 i60:=by kernel_rfl,
 t61:=Tryz.underlying229,
 a61:=Tryz.isAgg229,
 z61:=Tryz.sizeOf229,
 t65:=Tryz.underlying233,
 a65:=Tryz.isAgg233,
 z65:=Tryz.sizeOf233,
 v65:=Tryz.zeroValue233,
 i65:=by kernel_rfl,
 t66:=Tryz.underlying234,
 a66:=Tryz.isAgg234,
 z66:=Tryz.sizeOf234,
 v66:=Tryz.zeroValue234,
 i66:=by kernel_rfl,
 t67:=Tryz.underlying235,
 a67:=Tryz.isAgg235,
 z67:=Tryz.sizeOf235,
 v67:=Tryz.zeroValue235,
 i67:=by kernel_rfl,
 g0:=by kernel_rfl,
 m0:=by kernel_rfl,
 g1:=by kernel_rfl,
 m1:=by kernel_rfl,
 g2:=by kernel_rfl,
 m2:=by kernel_rfl,
 g3:=by kernel_rfl,
 m3:=by kernel_rfl,
 g4:=by kernel_rfl,
 m4:=by kernel_rfl}
def Tryz.BO:Go.Shelf.Ren:=⟨fun | 260=>127 | n=>n,fun | 9=>9 | 21=>21 | 3=>3 | 4=>4 | 5=>5 | 119=>196 | 0=>0 | 46=>160 | 139=>199 | 138=>198 | n=>n,fun | 3=>0 | 4=>1 | n=>n⟩
theorem Tryz.ah7:Go.Proofs.Lays.n260 Tryz.prog Tryz.BO:={
 mixed:=by kernel_rfl,
 f260:=Tryz.func127.trans (congrArg some (by kernel_rfl)),
 t0:=Tryz.underlying0,
 a0:=Tryz.isAgg0,
 z0:=Tryz.sizeOf0,
 v0:=Tryz.zeroValue0,
 t3:=Tryz.underlying3,
 a3:=Tryz.isAgg3,
 z3:=Tryz.sizeOf3,
 v3:=Tryz.zeroValue3,
 t4:=Tryz.underlying4,
 a4:=Tryz.isAgg4,
 z4:=Tryz.sizeOf4,
 v4:=Tryz.zeroValue4,
 t5:=Tryz.underlying5,
 a5:=Tryz.isAgg5,
 z5:=Tryz.sizeOf5,
 v5:=Tryz.zeroValue5,
 t9:=Tryz.underlying9,
 a9:=Tryz.isAgg9,
 z9:=Tryz.sizeOf9,
 v9:=Tryz.zeroValue9,
 t21:=Tryz.underlying21,
 a21:=Tryz.isAgg21,
 z21:=Tryz.sizeOf21,
 v21:=Tryz.zeroValue21,
 t46:=Tryz.underlying160,
 a46:=Tryz.isAgg160,
 z46:=Tryz.sizeOf160,
 v46:=Tryz.zeroValue160,
 t119:=Tryz.underlying196,
 a119:=Tryz.isAgg196,
 z119:=Tryz.sizeOf196,
 t138:=Tryz.underlying198,
 a138:=Tryz.isAgg198,
 z138:=Tryz.sizeOf198,
 v138:=Tryz.zeroValue198,
 t139:=Tryz.underlying199,
 a139:=Tryz.isAgg199,
 z139:=Tryz.sizeOf199,
 v139:=Tryz.zeroValue199,
 g3:=by kernel_rfl,
 g4:=by kernel_rfl}
end
section
open Go aZ Go.RowKit
section
open Go.Shelf
theorem aaS (s:ByteArray) (w:World) (dM:Lib.Utf8Tabs 0 1 w):
 Calls Tryz.prog 117 #[.string s] w fun e w'=>e=.returned (.tuple #[.int .i32 (Lib.decodeGo s).1,.int .i64 (Lib.decodeGo s).2])/\Below w.heap.size w w':=Any.utf8_DecodeRuneInString Tryz.ah5 s w dM
theorem X_ (s:ByteArray) (n:Int) (ar:s.size<=18) (h:Lib.atoi s.data.toList=some n) (w:World):
 Calls Tryz.prog 137 #[.string s] w fun e w'=>e=.returned (.tuple #[.int .i64 n,.nilIface])/\Below w.heap.size w w':=(Any.strconv_Atoi Tryz.ah3 s n ar h w).mono fun e w' q=>⟨q.1,by obtain ⟨t,rfl⟩:=q.2;exact Lib.bytesWorld_below _ _ _⟩
theorem akq (s:ByteArray) (ad':s.size<=9223372036854775806) (u:Nat) (h:Lib.parseUintB 64 s.data.toList=.ok u) (w:World):
 Calls Tryz.prog 130 #[.string s,.int .i64 10,.int .i64 64] w fun e w'=>e=.returned (.tuple #[.int .u64 u,.nilIface])/\Below w.heap.size w w':=(Any.strconv_ParseUint_10_at64_ok Tryz.SU s ad' u h w).mono fun e w' q=>⟨q.1,by
  rcases q.2 with rfl | rfl
  . exact Below.refl _ _
  . exact Lib.bytesWorld_below _ _ _⟩
theorem aks (s:ByteArray) (wB:s.size<=281474976710656) (h:Lib.parseUintB 64 s.data.toList=.range) (w:World) (he:xo w 4):
 Calls Tryz.prog 130 #[.string s,.int .i64 10,.int .i64 64] w fun e w'=>(∃p,e=.returned (.tuple #[.int .u64 18446744073709551615,.iface (Tryz.Kw.t 39) p]))/\Below w.heap.size w w':=by
 obtain ⟨aQ,U,ab⟩:=he;refine (Any.strconv_ParseUint_10_at64_range Tryz.SU s wB h aQ w U ab).mono fun e w' q=>?_;obtain ⟨N,aI,_,_,gu⟩:=q;exact ⟨⟨_,aI⟩,gu⟩
end
theorem BM {f:FuncId} (a8:Nat.beq f dv=false) {args:List V} {v:V} {h:ae} (ig:∃fn,Tryz.prog.funcs[f]? =some fn/\fn.body.isSome=true) (H:∀E xs w,Hc w->bg E args xs->Calls Tryz.prog f xs.toArray w fun e w'=>∃x,e=.returned x/\Rel E v x/\Below w.heap.size w w'):eZ Tryz.prog f args h v h:=by refine ⟨fun e=>by subst e;simp at a8,.inl ⟨ig,fun az E w xs ao s=>?_⟩⟩;refine (H E xs w (Lay.ec s.laid s.frame) ao).mono fun e w' q=>?_;obtain ⟨x,rfl,bA,ah⟩:=q;exact ⟨E,x,rfl,fun _ _ q=>q,bA,s.below ah⟩
theorem aaQ (s:List UInt8) (h:ae):eZ Tryz.prog 117 [.str s] h (.tuple [.int .i32 (Lib.decodeGo ⟨⟨s⟩⟩).1,.int .i64 (Lib.decodeGo ⟨⟨s⟩⟩).2]) h:=by refine BM (by decide) ⟨_,Tryz.func117,by kernel_rfl⟩ fun E xs w ar ao=>?_;obtain ⟨y,cu,rfl,aj,rfl⟩:=ao;simp only [Rel] at aj;subst aj;refine (aaS ⟨⟨s⟩⟩ w ar.V7).mono fun e w' q=>?_;obtain ⟨rfl,ah⟩:=q;refine ⟨_,rfl,?_,ah⟩;simp only [Rel];exact ⟨_,rfl,_,_,rfl,rfl,_,_,rfl,rfl,rfl⟩
theorem aay (s sub:List UInt8) (aW:s.length<=100000) (h:ae):eZ Tryz.prog 134 [.str s,.str sub] h (.bool (Lib.contains s sub)) h:=by refine BM (by decide) ⟨_,Tryz.func134,by kernel_rfl⟩ fun E xs w ar ao=>?_;obtain ⟨y,cu,rfl,aj,z,vc,rfl,an,rfl⟩:=ao;simp only [Rel] at aj an;subst aj an;obtain ⟨m,hm⟩:=ar.maxLen;refine (PG ⟨⟨s⟩⟩ ⟨⟨sub⟩⟩ m w (by show s.length<4294967281;omega) hm).mono fun e w' q=>?_;obtain ⟨rfl,rfl⟩:=q;refine ⟨_,rfl,?_,Below.refl _ _⟩;simp only [Rel]
theorem X' (s:List UInt8) (n:Int) (ar:s.length<=18) (h:Lib.atoi s=some n) (ai:ae):eZ Tryz.prog 137 [.str s] ai (.tuple [.int .i64 n,.nilIface]) ai:=by refine BM (by decide) ⟨_,Tryz.func137,by kernel_rfl⟩ fun E xs w wA ao=>?_;obtain ⟨y,cu,rfl,aj,rfl⟩:=ao;simp only [Rel] at aj;subst aj;refine (X_ ⟨⟨s⟩⟩ n ar h w).mono fun e w' q=>?_;obtain ⟨rfl,ah⟩:=q;refine ⟨_,rfl,?_,ah⟩;simp only [Rel];exact ⟨_,rfl,_,_,rfl,rfl,_,_,rfl,rfl,rfl⟩
theorem akp (s:List UInt8) (u:Nat) (ar:s.length<=100000) (h:Lib.parseUintB 64 s=.ok u) (ai:ae):eZ Tryz.prog 130 [.str s,.int .i64 10,.int .i64 64] ai (.tuple [.int .u64 u,.nilIface]) ai:=by refine BM (by decide) ⟨_,Tryz.func130,by kernel_rfl⟩ fun E xs w wA ao=>?_;obtain ⟨y,cu,rfl,aj,z,vc,rfl,an,t,bx,rfl,aJ,rfl⟩:=ao;simp only [Rel] at aj an aJ;subst aj an aJ;refine (akq ⟨⟨s⟩⟩ (by show s.length<=9223372036854775806;omega) u h w).mono fun e w' q=>?_;obtain ⟨rfl,ah⟩:=q;refine ⟨_,rfl,?_,ah⟩;simp only [Rel];exact ⟨_,rfl,_,_,rfl,rfl,_,_,rfl,rfl,rfl⟩
def abq:TypeId:=Tryz.Kw.t 39
theorem akr (s:List UInt8) (ar:s.length<=100000) (h:Lib.parseUintB 64 s=.range) (ai:ae):eZ Tryz.prog 130 [.str s,.int .i64 10,.int .i64 64] ai (.tuple [.int .u64 18446744073709551615,.iface abq .bad]) ai:=by refine BM (by decide) ⟨_,Tryz.func130,by kernel_rfl⟩ fun E xs w wA ao=>?_;obtain ⟨y,cu,rfl,aj,z,vc,rfl,an,t,bx,rfl,aJ,rfl⟩:=ao;simp only [Rel] at aj an aJ;subst aj an aJ;refine (aks ⟨⟨s⟩⟩ (by show s.length<=281474976710656;omega) h w wA.Qq).mono fun e w' q=>?_;obtain ⟨⟨p,rfl⟩,ah⟩:=q;refine ⟨_,rfl,?_,ah⟩;simp only [Rel];exact ⟨_,rfl,_,_,rfl,rfl,_,_,rfl,⟨p,rfl,trivial⟩,rfl⟩
end
section
open Go aZ
def fc (s:List UInt8) (i:Nat):Nat:=if decodeL s i=(65533,1) then 0 else (decodeL s i).2
def th:Nat->List UInt8->Nat->Nat
 | 0,s,_=>s.length
 | f+1,s,a=>if a<s.length then (if fc s a=0 then a else th f s (a+fc s a)) else s.length
def rS (s:List UInt8) (a:Nat):Nat:=th (s.length-a) s a
def u3 (s:List UInt8):Nat:=rS s 0
theorem U8 (s:List UInt8):∀(f g a:Nat),s.length-a<=f->s.length-a<=g->th f s a=th g s a
 | 0,g,a,U,ab=>by
   cases g with
   | zero=>rfl
   | succ g=>simp only [th];rw [apu (by omega)]
 | f+1,0,a,U,ab=>by simp only [th];rw [apu (by omega)]
 | f+1,g+1,a,U,ab=>by
   simp only [th];by_cases bw:a<s.length
   . rw [apB bw,apB bw];by_cases au:fc s a=0
     . rw [apB au,apB au]
     . rw [apu au,apu au];exact U8 s f g _ (by omega) (by omega)
   . rw [apu bw,apu bw]
theorem U7 {s:List UInt8} {a:Nat} (h:s.length<=a):rS s a=s.length:=by unfold rS;rw [show s.length-a=0 from by omega];rfl
theorem alf {s:List UInt8} {a:Nat} (h:a<s.length) (au:fc s a=0):rS s a=a:=by unfold rS;rw [show s.length-a=s.length-a-1+1 from by omega,th,apB h,apB au]
theorem LH {s:List UInt8} {a:Nat} (h:a<s.length) (au:fc s a≠0):rS s a=rS s (a+fc s a):=by unfold rS;rw [show s.length-a=s.length-a-1+1 from by omega,th,apB h,apu au];exact U8 s _ _ _ (by omega) (by omega)
def fq (c:UInt8):Bool:=mW c.toNat
def fs (c:UInt8):Bool:=uK c.toNat
def jq (l:List UInt8):Nat:=l.foldl (fun n c=>10 * n + (c.toNat-48)) 0
abbrev tP:=Except Int (Int × Int × List UInt8 × Nat)
def y8 (r:List UInt8):tP:=
 let t:=r.takeWhile fq
 if 2147483647<jq t then .error 254 else .ok (1,(if 1073741823 < (jq t:Int) then (jq t:Int)-2147483648 else jq t),[],t.length)
def pR:List UInt8->Option (UInt8 × Nat)
 | []=>none
 | c::r=>if c=110 then some (10,1) else if c=116 then some (9,1) else if c=34 then some (34,1) else if c=92 then some (92,1) else
   if 2<=r.length/\fq c/\fq (r[0]?.getD 0)/\fq (r[1]?.getD 0)/\jq (c::r.take 2)<256 then some ((jq (c::r.take 2)).toUInt8,3) else none
def xc:Nat->List UInt8->Option (List UInt8 × Nat)
 | 0,_=>none
 | _+1,[]=>none
 | f+1,c::r=>if c=34 then some ([],1) else if c=92 then (match pR r with
    | none=>none
    | some (b,n)=>(xc f (r.drop n)).map fun q=>(b::q.1,q.2+n+1))
   else if c<32\/c=127 then none else (xc f r).map fun q=>(c::q.1,q.2+1)
def qH (r:List UInt8):Option (List UInt8 × Nat):=xc r.length r
def tq (r:List UInt8):tP:=
 match qH r with
 | none=>.error 252
 | some (b,n)=>if 4096<b.length then .error 255 else .ok (2,0,b,n+1)
def uH:List (List UInt8):=[[97,110,100],[98,101,103,105,110],[101,108,115,101],[101,110,100],[101,120,99,101,112,116,105,111,110],[102,97,108,115,101],[102,117,110],[105,102],[105,110],[108,101,116],[109,97,116,99,104],[109,111,100],[111,102],[114,97,105,115,101],[114,101,99],[116,104,101,110],[116,114,117,101],[116,114,121],[116,121,112,101],[119,105,116,104]]
def jH:List (List UInt8):=[[59,59],[58,61],[45,62],[60,61],[59],[40],[41],[44],[61],[60],[43],[45],[42],[47],[124],[33],[95]]
def pa (t:List UInt8):Bool:=uH.contains t
def kk (kind:Int) (r:List UInt8):tP:=
 let t:=r.takeWhile fs
 if kind=3/\t=[95] then .ok (7,0,t,t.length) else if kind=3/\pa t then .ok (6,0,t,t.length) else if 64<t.length then .error 255 else .ok (kind,0,t,t.length)
def zr (r:List UInt8):tP:=
 match jH.find? (·.isPrefixOf r) with
 | some t=>.ok (7,0,t,t.length)
 | none=>.error 251
def mi:List UInt8->Bool
 | d::_=>ha d.toNat
 | []=>false
def gG:List UInt8->tP
 | []=>.error 0
 | c::r=>if fq c then y8 (c::r) else if c=34 then tq r else if ha c.toNat||c=95 then kk 3 (c::r) else if m_ c.toNat then kk 4 (c::r) else
   if c=39/\mi r then (kk 5 r).map fun q=>(q.1,q.2.1,q.2.2.1,q.2.2.2+1) else zr (c::r)
structure cc where
 kind:Int
 num:Int
 pos:Nat
 text:List UInt8
deriving DecidableEq
def blank (c:UInt8):Bool:=c=9||c=10||c=13||c=32
def AG (w:cc):Except (Int × Nat) (List cc)->Except (Int × Nat) (List cc)
 | .ok ws=>.ok (w::ws)
 | .error e=>.error e
def nk:Nat->List UInt8->Nat->Except (Int × Nat) (List cc)
 | 0,_,_=>.ok []
 | _+1,[],_=>.ok []
 | f+1,c::r,p=>if blank c then nk f r (p+1) else if ([40,42]:List UInt8).isPrefixOf (c::r) then (match iF (c::r) 0 with
    | none=>.error (253,p)
    | some n=>nk f ((c::r).drop n) (p+n))
   else match gG (c::r) with
    | .error e=>.error (e,p)
    | .ok q=>AG ⟨q.1,q.2.1,p,q.2.2.1⟩ (nk f ((c::r).drop q.2.2.2) (p+q.2.2.2))
def rE (r:List UInt8) (p:Nat):Except (Int × Nat) (List cc):=nk r.length r p
def lu (s:List UInt8):Except (Int × Nat) (List cc):=
 if 65536<s.length then .error (3,0) else if u3 s<s.length then .error (250,u3 s) else rE s 0
theorem L7 {p:UInt8->Bool} {c:UInt8} {r:List UInt8} (h:p c=true):1<=((c::r).takeWhile p).length:=by simp only [aqV,h,ap0,apz];omega
theorem alY {t:List UInt8} (h:t ∈ jH):1<=t.length:=by revert t;decide
theorem LP {c:UInt8} (h:ha c.toNat=true):fs c=true:=by unfold fs uK;rw [h];simp
theorem QY {c:UInt8} (h:m_ c.toNat=true):fs c=true:=by unfold fs uK;rw [h];simp
theorem V2 {c:UInt8} (h:c=95):fs c=true:=by subst h;decide
theorem TE {k:Int} {r:List UInt8} {q:Int × Int × List UInt8 × Nat} (h:kk k r=.ok q):q.2.2.2=(r.takeWhile fs).length:=by
 unfold kk at h;simp only at h
 split at h
 . cases h;rfl
 . split at h
   . cases h;rfl
   . split at h
     . cases h
     . cases h;rfl
theorem KS {r:List UInt8} {q:Int × Int × List UInt8 × Nat} (h:gG r=.ok q):1<=q.2.2.2:=by
 match r,h with
 | c::r,h=>
   simp only [gG] at h
   split at h
   . rename_i aH;unfold y8 at h;simp only at h
     split at h
     . cases h
     . cases h;exact L7 aH
   . split at h
     . unfold tq at h
       split at h
       . cases h
       . split at h
         . cases h
         . cases h;simp only;omega
     . split at h
       . rename_i aW;rw [TE h];simp only [aqS,apE] at aW;exact L7 (aW.elim LP V2)
       . split at h
         . rename_i aW;rw [TE h];exact L7 (QY aW)
         . split at h
           . cases aV:kk 5 r with
             | error e=>rw [aV] at h;cases h
             | ok fk=>rw [aV] at h;cases h;simp only;omega
           . unfold zr at h
             split at h
             . rename_i t aE;cases h;exact alY (List.mem_of_find?_eq_some aE)
             . cases h
theorem Fy:∀{r:List UInt8} {d:Int} {n:Nat},iF r d=some n->2<=n
 | [],d,n,h=>by simp [iF] at h
 | [_],d,n,h=>by simp [iF] at h
 | x::y::r,d,n,h=>by
   rw [iF] at h
   split at h
   . cases aq:iF r (d+1) with
     | none=>rw [aq] at h;cases h
     | some m=>rw [aq] at h;cases h;simp only;omega
   . split at h
     . split at h
       . cases h;omega
       . cases aq:iF r (d-1) with
         | none=>rw [aq] at h;cases h
         | some m=>rw [aq] at h;cases h;simp only;omega
     . cases aq:iF (y::r) d with
       | none=>rw [aq] at h;cases h
       | some m=>rw [aq] at h;cases h;have:=Fy aq;simp only;omega
theorem BT:∀(f g:Nat) (r:List UInt8) (p:Nat),r.length<=f->r.length<=g->nk f r p=nk g r p
 | 0,g,r,p,U,ab=>by have:r=[]:=aq4.1 (by omega);subst this;cases g<;>rfl
 | f+1,0,r,p,U,ab=>by have:r=[]:=aq4.1 (by omega);subst this;rfl
 | f+1,g+1,[],p,U,ab=>rfl
 | f+1,g+1,c::r,p,U,ab=>by
   simp only [apz] at U ab;simp only [nk]
   split
   . exact BT f g _ _ (by omega) (by omega)
   . split
     . split
       . rfl
       . rename_i n aV;have:=Fy aV;exact BT f g _ _ (by rw [apY,apz];omega) (by rw [apY,apz];omega)
     . split
       . rfl
       . rename_i q aq;have:=KS aq;rw [BT f g _ _ (by rw [apY,apz];omega) (by rw [apY,apz];omega)]
theorem Td (c:UInt8) (r:List UInt8) (p:Nat):rE (c::r) p=if blank c then rE r (p+1) else if ([40,42]:List UInt8).isPrefixOf (c::r) then (match iF (c::r) 0 with
 | none=>.error (253,p)
 | some n=>rE ((c::r).drop n) (p+n))
 else match gG (c::r) with
  | .error e=>.error (e,p)
  | .ok q=>AG ⟨q.1,q.2.1,p,q.2.2.1⟩ (rE ((c::r).drop q.2.2.2) (p+q.2.2.2)):=by
 unfold rE;simp only [apz,nk]
 split
 . rfl
 . split
   . split
     . rfl
     . rename_i n aV;have:=Fy aV;exact BT _ _ _ _ (by rw [apY,apz];omega) (aps _)
   . split
     . rfl
     . rename_i q aq;have:=KS aq;rw [BT _ _ _ _ (by rw [apY,apz];omega) (aps _)]
theorem L':∀(f g:Nat) (r:List UInt8),r.length<=f->r.length<=g->xc f r=xc g r
 | 0,g,r,U,ab=>by have:r=[]:=aq4.1 (by omega);subst this;cases g<;>rfl
 | f+1,0,r,U,ab=>by have:r=[]:=aq4.1 (by omega);subst this;rfl
 | f+1,g+1,[],U,ab=>rfl
 | f+1,g+1,c::r,U,ab=>by
   simp only [apz] at U ab;simp only [xc]
   split
   . rfl
   . split
     . split
       . rfl
       . rw [L' f g _ (by rw [apY];omega) (by rw [apY];omega)]
     . split
       . rfl
       . rw [L' f g _ (by omega) (by omega)]
theorem amD:qH []=none:=rfl
theorem amC (c:UInt8) (r:List UInt8):qH (c::r)=if c=34 then some ([],1) else if c=92 then (match pR r with
 | none=>none
 | some (b,n)=>(qH (r.drop n)).map fun q=>(b::q.1,q.2+n+1))
 else if c<32\/c=127 then none else (qH r).map fun q=>(c::q.1,q.2+1):=by
 unfold qH;simp only [apz,xc]
 split
 . rfl
 . split
   . split
     . rfl
     . rw [L' _ _ _ (by rw [apY];omega) (aps _)]
   . rfl
theorem QK:∀(l:List UInt8) (a:Nat),a<=l.foldl (fun n c=>10 * n + (c.toNat-48)) a
 | [],a=>aps _
 | c::l,a=>by simp only [List.foldl_cons];exact aqc (by omega) (QK l _)
def lg (a:Nat) (l:List UInt8):Nat:=l.foldl (fun n c=>10 * n + (c.toNat-48)) a
theorem abY (a:Nat) (c:UInt8) (l:List UInt8):lg a (c::l)=lg (10 * a + (c.toNat-48)) l:=by unfold lg;rw [List.foldl_cons]
theorem ako (M:Nat) (cJ:M<18446744073709551620) (l:List UInt8):∀(a:Nat),(∀c ∈ l,fq c=true)->(lg a l<=M->Lib.parseUintM M a l=.ok (lg a l))/\(a<=M->¬lg a l<=M->Lib.parseUintM M a l=.range):=by
 induction l with
 | nil=>
   intro a _;refine ⟨fun _=>?_,fun U ab=>absurd U ab⟩;simp only [Lib.parseUintM,lg,List.foldl_nil]
 | cons c l afh=>
   intro a h;have au:=h c (aqo ..);simp only [fq,mW,apn,apE] at au;have adb:48<=c.toNat/\c.toNat<=57:=by omega
   have bh:=afh (10 * a + (c.toNat-48)) (fun x ao=>h x (ap6 _ ao));have hm:10 * a + (c.toNat-48)<=lg (10 * a + (c.toNat-48)) l:=QK l (10 * a + (c.toNat-48));simp only [Lib.parseUintM,adb,and_self,ap0];rw [Nat.mul_comm a 10,abY];have na:10 * a<=10 * a + (c.toNat-48):=Nat.le_add_right _ _;generalize 10 * a + (c.toNat-48)=A at bh hm na ⊢;refine ⟨fun aL=>?_,fun bw jQ=>?_⟩
   . rw [apu (by omega),apu (by omega)];exact bh.1 aL
   . by_cases U:1844674407370955162<=a
     . rw [apB U]
     . rw [apu U];by_cases ab:M<A
       . rw [apB ab]
       . rw [apu ab];exact bh.2 (by omega) jQ
theorem akn (l:List UInt8) (h:∀c ∈ l,fq c=true) (ar:l≠[]):(jq l<=18446744073709551615->Lib.parseUintB 64 l=.ok (jq l))/\(¬jq l<=18446744073709551615->Lib.parseUintB 64 l=.range):=by unfold Lib.parseUintB;rw [apu ar,show (2 ^ 64-1:Nat)=18446744073709551615 from by decide];have:=ako 18446744073709551615 (by omega) l 0 h;exact ⟨this.1,this.2 (aqL _)⟩
structure oI (s:List UInt8) (p:Nat) (b:aO) (h:ae) (res:tP) (x:V) (aa:ae):Prop where
 mod:Mod (fun q=>q=b) h aa
 res:∃k n t,x=.agg [.int .i64 k,.int .i64 n,.int .i64 0,.str t]/\match res with
  | .ok q=>k=q.1/\n=q.2.1/\t=q.2.2.1/\aa.get b=fl s ((p+q.2.2.2:Nat):Int) 0/\p+q.2.2.2<=s.length
  | .error e=>e≠0/\∃bk:Int,aa.get b=fl s bk e
theorem KR {P:Program}:(e8.lb true 5).run P .nilIface .nilIface=some (.bool false):=rfl
theorem aja {P:Program} (T:TypeId) (x:V):(e8.lb true 5).run P (.iface T x) .nilIface=some (.bool true):=rfl
theorem VQ {p:UInt8->Bool} {l:List UInt8}:∀c ∈ l.takeWhile p,p c=true:=fun c au=>by
 induction l with
 | nil=>simp at au
 | cons x l bh=>
   simp only [aqV] at au
   split at au
   . rename_i ao;rcases apI.1 au with rfl | au
     . exact ao
     . exact bh au
   . simp at au
theorem VR (p:UInt8->Bool) (s:List UInt8) (a:Nat):((s.drop a).takeWhile p).length<=s.length-a:=by have:=VS p (s.drop a);rwa [apY] at this
theorem ajq (s:List UInt8) (a0:Nat) (b:aO) (h:ae) (ah:h.get b=fl s a0 0) (aY:a0<s.length) (aW:s.length<=100000) (gP:Old h b) (aH:fq s[a0]=true):
 cv Tryz.prog 121 [.ptr b 0] h (oI s a0 b h (y8 (s.drop a0))):=by
 refine YT.z rfl (cr ?_);unfold NZ;have cW:(b=aC h.next)=False:=B3 gP (aps _);have c2:(aC h.next=b)=False:=by rw [<-cW];exact propext eq_comm
 simp +contextual only [ah,cW,c2,↓ag,al,simprocAttr];have ao:Ext h (h.new (.bT [.int .i64 0,.int .i64 0,.int .i64 0,.str []] 0 false)):=(Ext.refl h).new _;refine bS (Vf s a0 0 b 120 mW _ (by rw [ao.get _ gP,ah]) (by omega) aW (by decide) (fun c h=>xT c h)) ?_;rintro x U ⟨rfl,hm,aG⟩;have kC:(fun c:UInt8=>mW (c.toNat:Int))=fq:=rfl;rw [kC] at aG ⊢;have wD:Mod (fun q=>q=b) h U:=(ao.mod _).trans hm;have g1:U.get (aC h.next)=.bT [.int .i64 0,.int .i64 0,.int .i64 0,.str []] 0 false:=by rw [hm.get _ (h5 (by rw [ga];omega)) (by rw [c2];exact id)];simp only [↓ag,al,simprocAttr]
 have cT:(s.drop a0).takeWhile fq≠[]:=by rw [drop_cons aY,aqV,aH];simp
 have hlen:=VR fq s a0;have ai:=akn ((s.drop a0).takeWhile fq) VQ cT;unfold fl at aG;have wE:y8 (s.drop a0)=if 2147483647<jq ((s.drop a0).takeWhile fq) then .error 254 else .ok (1,(if 1073741823 < (jq ((s.drop a0).takeWhile fq):Int) then (jq ((s.drop a0).takeWhile fq):Int)-2147483648 else jq ((s.drop a0).takeWhile fq)),[],((s.drop a0).takeWhile fq).length):=rfl;rw [wE];generalize (s.drop a0).takeWhile fq=t at *;simp +contextual only [↓ag,al,simprocAttr];by_cases AZ:jq t<=18446744073709551615
 . refine fZ (akp t (jq t) (by omega) (ai.1 AZ) U) ?_;generalize jq t=u at *;by_cases IP:(2147483647:Int) < (u:Int)
   . have yb:2147483647<u:=by omega
     simp +contextual only [KR,IP,g1,aG,cW,c2,↓ag,al,simprocAttr];refine ⟨(wD.set (fun _=>rfl) _).set (fun q=>absurd (show b0 (aC h.next)<h.next from q) (by rw [cV];omega)) _,?_⟩;rw [apB yb];refine ⟨_,_,_,rfl,by decide,((a0+t.length:Nat):Int),?_⟩;simp only [fl,cW,c2,↓ag,al,simprocAttr]
   . have yb:¬2147483647<u:=by omega
     have bP:IntKind.i64.wrap (u:Int)=(u:Int):=wrap_i64 (by omega) (by omega);have bH:IntKind.i64.wrap ((u:Int)-2147483648)=(u:Int)-2147483648:=wrap_i64 (by omega) (by omega);by_cases Em:(1073741823:Int) < (u:Int)
     . simp +contextual only [KR,IP,yb,Em,g1,aG,cW,c2,bP,bH,↓ag,al,simprocAttr];refine ⟨(wD.set (fun q=>absurd (show b0 (aC h.next)<h.next from q) (by rw [cV];omega)) _),?_⟩;refine ⟨_,_,_,rfl,rfl,rfl,rfl,?_,by show a0+t.length<=s.length;omega⟩;simp only [fl,aG,cW,c2,↓ag,al,simprocAttr]
     . simp +contextual only [KR,IP,yb,Em,g1,aG,cW,c2,bP,bH,↓ag,al,simprocAttr];refine ⟨(wD.set (fun q=>absurd (show b0 (aC h.next)<h.next from q) (by rw [cV];omega)) _),?_⟩;refine ⟨_,_,_,rfl,rfl,rfl,rfl,?_,by show a0+t.length<=s.length;omega⟩;simp only [fl,aG,cW,c2,↓ag,al,simprocAttr]
 . refine fZ (akr t (by omega) (ai.2 AZ) U) ?_;have yb:2147483647<jq t:=by omega
   rw [apB yb];simp +contextual only [aja,g1,aG,cW,c2,↓ag,al,simprocAttr];refine ⟨(wD.set (fun _=>rfl) _).set (fun q=>absurd (show b0 (aC h.next)<h.next from q) (by rw [cV];omega)) _,?_⟩;refine ⟨_,_,_,rfl,by decide,((a0+t.length:Nat):Int),?_⟩;simp only [fl,cW,c2,↓ag,al,simprocAttr]
theorem VY (c:UInt8):((c.toNat:Int)).toNat.toUInt8=c:=by rw [apy];simp
theorem xe (c:UInt8) (n:Nat) (aV:n<256):((c.toNat:Int)=(n:Int))=(c=n.toUInt8):=by
 apply propext;constructor
 . intro q;have:c.toNat=n:=by omega
   rw [<-arx,this];simp;omega
 . intro q;subst q;simp;omega
theorem abt (c:UInt8):Lib.indexByte [110,116,34,92] c=if c=110 then 0 else if c=116 then 1 else if c=34 then 2 else if c=92 then 3 else -1:=by
 simp only [Lib.indexByte,aq0];by_cases U:c=110
 . subst U;decide
 . by_cases ab:c=116
   . subst ab;decide
   . by_cases aI:c=34
     . subst aI;decide
     . by_cases bq:c=92
       . subst bq;decide
       . have av:¬(110:UInt8)=c:=fun q=>U q.symm;have aK:¬(116:UInt8)=c:=fun q=>ab q.symm;have bF:¬(34:UInt8)=c:=fun q=>aI q.symm;have bZ:¬(92:UInt8)=c:=fun q=>bq q.symm;simp only [U,ab,aI,bq,av,aK,bF,bZ,ap2];rfl
theorem Ib {c:UInt8} (h:fq c=true):Lib.digitVal c=some (c.toNat-48):=by unfold Lib.digitVal;unfold fq mW at h;simp only [apn,apE] at h;rw [apB (by omega)]
theorem X9 {a b c:UInt8} (U:fq a=true) (ab:fq b=true) (aI:fq c=true):Lib.atoi [a,b,c]=some ((jq [a,b,c]:Nat):Int):=by
 have bw:=U;unfold fq mW at bw;simp only [apn,apE] at bw;have cL:(a == 45)=false:=by rw [aqK];rintro rfl;revert bw;decide
 have fi:(a == 43)=false:=by rw [aqK];rintro rfl;revert bw;decide
 simp [Lib.atoi,cL,fi,Lib.decNat,Lib.decFrom,Ib U,Ib ab,Ib aI,jq];omega
theorem abu (s:List UInt8) (a0:Nat) (b:aO) (h:ae) (ah:h.get b=fl s a0 0) (aY:a0<s.length) (aW:s.length<=100000) (gP:Old h b):
 cv Tryz.prog 132 [.ptr b 0] h fun x aa=>Mod (fun q=>q=b) h aa/\match pR (s.drop (a0+1)) with
  | some (c,n)=>x=.int .u8 (c.toNat:Int)/\aa.get b=fl s ((a0+1+n:Nat):Int) 0/\a0+1+n<=s.length
  | none=>x=.int .u8 0/\aa.get b=fl s ((a0+1:Nat):Int) 252:=by
 refine Y2.z rfl (cr ?_);unfold N';unfold fl at ah ⊢;have bP:IntKind.i64.wrap ((a0:Int)+1)=((a0+1:Nat):Int):=by rw [wrap_i64 (by omega) (by omega)];rfl
 have f0:(0<=((a0+1:Nat):Int))=True:=apD (by omega);have f1:(((a0+1:Nat):Int)<=(s.length:Int))=True:=apD (by omega);have wz:(s.drop (a0+1)).length=s.length - (a0+1):=apY;have z0:((0:Int)<=0)=True:=apD (by omega);have l2:∀v,aZ.Mod (fun q=>q=b) h ((h.set b v)):=fun v=>(Mod.refl (fun q=>q=b) h).set (fun _=>rfl) _;cases cR:s.drop (a0+1) with
 | nil=>
   simp +contextual only [ah,bP,f0,f1,apy,cR,ap5,Int.natCast_zero,↓ag,al,simprocAttr];refine ⟨(l2 _).set (fun _=>rfl) _,?_⟩;simp only [pR,dV,ap0,ari]
 | cons c r=>
   rw [cR] at wz;rw [apz] at wz;have c4:(c::r=[])=False:=apx (by simp);have f2:((0:Int) < ((r.length+1:Nat):Int))=True:=apD (by omega);simp +contextual only [ah,bP,f0,f1,f2,c4,apy,cR,Int.reduceToNat,z0,↓ag,al,simprocAttr];refine fZ (St _ _ _) ?_;rw [VY,abt];have bH:IntKind.i64.wrap (((a0+1:Nat):Int)+1)=((a0+2:Nat):Int):=by rw [wrap_i64 (by omega) (by omega)];omega
   by_cases bQ:c=110
   . subst bQ;simp +contextual only [ah,bP,bH,f0,f1,f2,c4,apy,cR,Int.reduceToNat,z0,apz,ap5,Nat.reduceAdd,Int.reduceLT,aqp,↓ag,al,simprocAttr];refine ⟨(l2 _).set (fun _=>rfl) _,rfl,?_⟩;simp only [dV,ap0];refine ⟨trivial,by omega⟩
   by_cases b2:c=116
   . subst b2;simp +contextual only [ah,bP,bH,f0,f1,f2,c4,apy,cR,Int.reduceToNat,z0,apz,ap5,Nat.reduceAdd,Int.reduceLT,aqp,bQ,↓ag,al,simprocAttr];refine ⟨(l2 _).set (fun _=>rfl) _,rfl,?_⟩;simp only [dV,ap0];refine ⟨trivial,by omega⟩
   by_cases c3:c=34
   . subst c3;simp +contextual only [ah,bP,bH,f0,f1,f2,c4,apy,cR,Int.reduceToNat,z0,apz,ap5,Nat.reduceAdd,Int.reduceLT,aqp,bQ,b2,↓ag,al,simprocAttr];refine ⟨(l2 _).set (fun _=>rfl) _,rfl,?_⟩;simp only [dV,ap0];refine ⟨trivial,by omega⟩
   by_cases gr:c=92
   . subst gr;simp +contextual only [ah,bP,bH,f0,f1,f2,c4,apy,cR,Int.reduceToNat,z0,apz,ap5,Nat.reduceAdd,Int.reduceLT,aqp,bQ,b2,c3,↓ag,al,simprocAttr];refine ⟨(l2 _).set (fun _=>rfl) _,rfl,?_⟩;simp only [dV,ap0];refine ⟨trivial,by omega⟩
   match r,cR,wz,f2,c4 with
   | [],cR,wz,f2,c4=>
     simp +contextual only [ah,bP,bH,f0,f1,f2,c4,apy,cR,Int.reduceToNat,z0,apz,ap5,Nat.reduceAdd,Int.reduceLT,aqp,bQ,b2,c3,gr,↓ag,al,simprocAttr];refine ⟨(l2 _).set (fun _=>rfl) _,?_⟩;simp [pR,bQ,b2,c3,gr,dV]
   | [_],cR,wz,f2,c4=>
     simp +contextual only [ah,bP,bH,f0,f1,f2,c4,apy,cR,Int.reduceToNat,z0,apz,ap5,Nat.reduceAdd,Int.reduceLT,aqp,bQ,b2,c3,gr,↓ag,al,simprocAttr];refine ⟨(l2 _).set (fun _=>rfl) _,?_⟩;simp [pR,bQ,b2,c3,gr,dV]
   | d1::d2::bb,cR,wz,f2,c4=>
     simp only [apz] at wz;have g3:((3:Int)<=((bb.length+3:Nat):Int))=True:=apD (by omega);have g2:((2:Int) < ((bb.length+3:Nat):Int))=True:=apD (by omega);have g1:((1:Int) < ((bb.length+3:Nat):Int))=True:=apD (by omega);have g0:((0:Int) < ((bb.length+3:Nat):Int))=True:=apD (by omega);have em:pR (c::d1::d2::bb)=if fq c/\fq d1/\fq d2/\jq [c,d1,d2]<256 then some ((jq [c,d1,d2]).toUInt8,3) else none:=by simp [pR,bQ,b2,c3,gr]
     rw [em];simp +contextual only [ah,bP,bH,f0,f1,g0,g1,g2,g3,c4,apy,cR,Int.reduceToNat,z0,apz,ap5,Nat.reduceAdd,Int.reduceLT,aqp,bQ,b2,c3,gr,↓ag,al,simprocAttr];refine fZ (xT _ _) ?_;have dg:∀x:UInt8,mW (x.toNat:Int)=fq x:=fun _=>rfl;simp only [dg];cases adl:fq c with
     | false=>
       simp +contextual only [ah,bP,bH,f0,f1,g0,g1,g2,g3,c4,apy,cR,Int.reduceToNat,z0,apz,ap5,Nat.reduceAdd,Int.reduceLT,aqp,bQ,b2,c3,gr,arH,apG,↓ag,al,simprocAttr];exact (l2 _).set (fun _=>rfl) _
     | true=>
       simp +contextual only [ah,bP,bH,f0,f1,g0,g1,g2,g3,c4,apy,cR,Int.reduceToNat,z0,apz,ap5,Nat.reduceAdd,Int.reduceLT,aqp,bQ,b2,c3,gr,↓ag,al,simprocAttr];refine fZ (xT _ _) ?_;simp only [dg];cases Ey:fq d1 with
       | false=>
         simp +contextual only [ah,bP,bH,f0,f1,g0,g1,g2,g3,c4,apy,cR,Int.reduceToNat,z0,apz,ap5,Nat.reduceAdd,Int.reduceLT,aqp,bQ,b2,c3,gr,arH,arL,apG,↓ag,al,simprocAttr];exact (l2 _).set (fun _=>rfl) _
       | true=>
         simp +contextual only [ah,bP,bH,f0,f1,g0,g1,g2,g3,c4,apy,cR,Int.reduceToNat,z0,apz,ap5,Nat.reduceAdd,Int.reduceLT,aqp,bQ,b2,c3,gr,↓ag,al,simprocAttr];refine fZ (xT _ _) ?_;simp only [dg];cases Ez:fq d2 with
         | false=>
           simp +contextual only [ah,bP,bH,f0,f1,g0,g1,g2,g3,c4,apy,cR,Int.reduceToNat,z0,apz,ap5,Nat.reduceAdd,Int.reduceLT,aqp,bQ,b2,c3,gr,arH,arL,apG,↓ag,al,simprocAttr];exact (l2 _).set (fun _=>rfl) _
         | true=>
           have z3:((0:Int)<=3)=True:=apD (by omega);simp +contextual only [ah,bP,bH,f0,f1,g0,g1,g2,g3,z3,c4,apy,cR,Int.reduceToNat,z0,apz,ap5,Nat.reduceAdd,Int.reduceLT,aqp,bQ,b2,c3,gr,↓ag,al,simprocAttr];refine fZ (X' [c,d1,d2] _ (by simp) (X9 adl Ey Ez) _) ?_;have k6:IntKind.i64.wrap (((a0+1:Nat):Int)+3)=((a0+4:Nat):Int):=by rw [wrap_i64 (by omega) (by omega)];omega
           generalize bA:jq [c,d1,d2]=v;by_cases Sb:(v:Int)<256
           . have hR:IntKind.u8.wrap (v:Int)=((v.toUInt8).toNat:Int):=by
              simp [IntKind.wrap,IntKind.bits,IntKind.signed]
             have J':v<256:=by omega
             simp +contextual only [ah,bP,bH,k6,hR,f0,f1,g0,g1,g2,g3,c4,Sb,J',apy,cR,Int.reduceToNat,z0,apz,ap5,Nat.reduceAdd,Int.reduceLT,aqp,bQ,b2,c3,gr,and_self,ari,↓ag,al,simprocAttr];refine ⟨(l2 _).set (fun _=>rfl) _,?_⟩
             first | omega | (refine ⟨?_,by omega⟩;simp [dV]) | skip
           . have J':¬v<256:=by omega
             simp +contextual only [ah,bP,bH,k6,f0,f1,g0,g1,g2,g3,c4,Sb,J',apy,cR,Int.reduceToNat,z0,apz,ap5,Nat.reduceAdd,Int.reduceLT,aqp,bQ,b2,c3,gr,arL,↓ag,al,simprocAttr];exact (l2 _).set (fun _=>rfl) _
theorem amX (c:UInt8) (n:Nat) (aV:n<256):((c.toNat:Int) < (n:Int))=(c<n.toUInt8):=by
 apply propext;rw [UInt8.lt_iff_toNat_lt];have:(n.toUInt8).toNat=n:=by simp;omega
 rw [this];omega
theorem amE (s:List UInt8) (a0:Nat) (b:aO) (h:ae) (ah:h.get b=fl s a0 0) (aY:a0<s.length) (aW:s.length<=100000) (gP:Old h b):
 cv Tryz.prog 122 [.ptr b 0] h (oI s a0 b h (tq (s.drop (a0+1)))):=by
 refine YU.z rfl (cr ?_);unfold N0;have cW:(b=aC h.next)=False:=B3 gP (aps _);have c2:(aC h.next=b)=False:=by rw [<-cW];exact propext eq_comm
 have bP:IntKind.i64.wrap ((a0:Int)+1)=((a0+1:Nat):Int):=by rw [wrap_i64 (by omega) (by omega)];rfl
 unfold fl at ah;simp +contextual only [ah,cW,c2,bP,↓ag,al,simprocAttr];have y7:∀{v:V} {aa:ae} {n:Nat} {us:List V},dc (h.next+1) aa 1 v n us->∀q,v.aS q->¬(fun q=>q=b) q:=by
  intro v aa n us hG q aq he;have U:=hG.base aq;rw [show q=b from he] at U;have ab:b0 b<h.next:=gP
  omega
 have Yp:∀{v:V} {aa:ae} {n:Nat} {us:List V},dc (h.next+1) aa 1 v n us->∀i,i<h.next+1->¬v.aS (aC i):=by intro v aa n us hG i ax aq;have U:=hG.base aq;rw [cV] at U;omega
 refine eO (fun r aa=>r 0=.ptr b 0/\r 2=.ptr (aC h.next) 0/\∃(a:Nat) (e:Int) (fb:List UInt8) (v:V),r 3=v/\aa.get b=.bT [.str s,.int .i64 a,.int .i64 e] 0 false/\a<=s.length/\a0+1<=a/\fb.length<=a/\
  aa.get (aC h.next)=.bT [.int .i64 0,.int .i64 0,.int .i64 0,.str []] 0 false/\Mod (fun q=>q=b) h aa/\h.next+1<=aa.next/\dc (h.next+1) aa 1 v fb.length (iy fb)/\
  ((e=0/\qH (s.drop (a0+1))=(qH (s.drop a)).map fun q=>(fb++q.1,q.2 + (a - (a0+1))))\/(e=252/\qH (s.drop (a0+1))=none)))
  (fun r aa=>(s.length - ((fy (aa.get b) 1).getD .bad).toN) + (252 - ((fy (aa.get b) 2).getD .bad).toN)) ?_ ?_
 . refine ⟨by simp only [cW,c2,↓ag,al,simprocAttr],by simp only [cW,c2,↓ag,al,simprocAttr],a0+1,0,[],.bu,by simp only [cW,c2,↓ag,al,simprocAttr],by simp only [cW,c2,↓ag,al,simprocAttr],by omega,by omega,by simp,by simp only [cW,c2,↓ag,al,simprocAttr],?_,?_,⟨rfl,rfl⟩,.inl ⟨rfl,?_⟩⟩
   . exact (((Ext.refl h).new _).mod (fun q=>q=b)).self _
   . rw [nq,ga];exact aps _
   . rw [aq5];cases qH (s.drop (a0+1))<;>rfl
 . rintro r aa ⟨a1,cG,a,e,fb,v,b3,aG,cm,nj,hp,bm,hm,mn,hG,bt⟩;unfold N1;have RU:Old aa b:=hm.bG gP;have fin:∀(ab:ae) (bk:Int),qH (s.drop (a0+1))=none->Mod (fun q=>q=b) h ab->ab.get b=.bT [.str s,.int .i64 bk,.int .i64 252] 0 false->
    oI s a0 b h (tq (s.drop (a0+1))) (.agg [.int .i64 0,.int .i64 0,.int .i64 0,.str []]) (ab.set (aC h.next) (.bT [.int .i64 0,.int .i64 0,.int .i64 0,.str []] 0 false)):=by
    intro ab bk aV n1 wq;unfold tq;rw [aV];refine ⟨n1.set (fun q=>absurd (show b0 (aC h.next)<h.next from q) (by rw [cV];omega)) _,_,_,_,rfl,by decide,bk,?_⟩;rw [dV,apu (by rw [c2];exact id),wq];rfl
   have step:∀(ab:ae),Mod (fun q=>q=b) h ab->aa.next<=ab.next->dc (h.next+1) ab 1 v fb.length (iy fb)->∀(c:UInt8),∃v3 aI,jM 1 v (.slice (aC ab.next) 0 1 1) (ab.new (.bT [.int .u8 (c.toNat:Int)] 0 false))=.val v3 aI/\dc (h.next+1) aI 1 v3 (fb++[c]).length (iy (fb++[c]))/\Mod (fun q=>q=b) h aI/\h.next+1<=aI.next/\aI.get b=ab.get b/\aI.get (aC h.next)=ab.get (aC h.next):=by
    intro ab n1 aot lj c;obtain ⟨v3,aI,aj,an,aJ,bE,cO⟩:=tT (cs:=[.int .u8 (c.toNat:Int)]) (by omega) lj (by omega) (by unfold top;omega) rfl rfl;refine ⟨v3,aI,aj,by rw [apC,Ny];exact an,n1.amH aJ (fun q aq=>aqc (Nat.le_succ _) (lj.base aq)),by omega,?_,?_⟩
    . exact aJ.get _ (n1.bG gP) (fun aq=>y7 lj _ aq rfl)
    . exact aJ.get _ (h5 (by omega)) (Yp lj _ (by omega))
   rcases bt with ⟨rfl,bt⟩ | ⟨rfl,bt⟩
   . by_cases gg:(s.length:Int)<=(a:Int)
     . have bw:a=s.length:=by omega
       rw [bw,arw,amD] at bt;simp +contextual only [a1,cG,b3,aG,gg,bm,cW,c2,↓ag,al,simprocAttr];exact fin _ _ bt (hm.set (fun _=>rfl) _) (by rw [dV,apB rfl])
     . have aL:a<s.length:=by omega
       rw [drop_cons aL,amC] at bt;have f0:(0<=(a:Int))=True:=apD (by omega);have f1:((a:Int) < (s.length:Int))=True:=apD (by omega);have bH:IntKind.i64.wrap ((a:Int)+1)=((a+1:Nat):Int):=by rw [wrap_i64 (by omega) (by omega)];rfl
       have k_:(((s[a]).toNat:Int)=34)=(s[a]=34):=xe _ 34 (by omega);have Im:(((s[a]).toNat:Int)=92)=(s[a]=92):=xe _ 92 (by omega);have P9:(((s[a]).toNat:Int)=127)=(s[a]=127):=xe _ 127 (by omega);have SR:(((s[a]).toNat:Int)<32)=(s[a]<32):=amX _ 32 (by omega);by_cases bQ:s[a]=34
       . rw [apB bQ] at bt;replace bQ:(s[a]=34)=True:=apD bQ;simp only [aqO,aqB] at bt;by_cases AZ:(4096:Int) < (fb.length:Int)
         . have lj:∀k cz,dc (h.next+1) ((aa.set b k).set b cz) 1 v fb.length (iy fb):=fun k cz=>hG.mod (((Mod.refl (fun q=>q=b) aa).set (fun _=>rfl) _).set (fun _=>rfl) _) (y7 hG);simp +contextual only [a1,cG,b3,aG,gg,bm,cW,c2,f0,f1,bH,k_,bQ,hG.v.len,AZ,PH (lj _ _),apo aL,apy,↓ag,al,simprocAttr];refine ⟨((hm.set (fun _=>rfl) _).set (fun _=>rfl) _).set (fun q=>absurd (show b0 (aC h.next)<h.next from q) (by rw [cV];omega)) _,_,_,_,rfl,?_⟩;unfold tq;rw [bt];simp only;rw [apB (by omega)];refine ⟨by decide,((a+1:Nat):Int),?_⟩;simp only [fl,cW,c2,↓ag,al,simprocAttr]
         . have lj:∀k,dc (h.next+1) (aa.set b k) 1 v fb.length (iy fb):=fun k=>hG.mod ((Mod.refl (fun q=>q=b) aa).set (fun _=>rfl) _) (y7 hG);simp +contextual only [a1,cG,b3,aG,gg,bm,cW,c2,f0,f1,bH,k_,bQ,hG.v.len,AZ,PH (lj _),apo aL,apy,↓ag,al,simprocAttr];refine ⟨(hm.set (fun _=>rfl) _).set (fun q=>absurd (show b0 (aC h.next)<h.next from q) (by rw [cV];omega)) _,_,_,_,rfl,?_⟩;unfold tq;rw [bt];simp only;rw [apu (by omega)];refine ⟨rfl,rfl,rfl,?_,?_⟩
           . simp only [fl,cW,c2,↓ag,al,simprocAttr];rw [show a0 + (1 + (a - (a0+1))+1)=a+1 from by omega]
           . simp only;omega
       rw [apu bQ] at bt;by_cases b2:s[a]=92
       . rw [apB b2] at bt;replace b2:(s[a]=92)=True:=apD b2;simp +contextual only [a1,cG,b3,aG,gg,bm,cW,c2,f0,f1,bH,k_,Im,bQ,b2,apo aL,apy,↓ag,al,simprocAttr];refine bS (abu s a b aa aG aL aW RU) ?_;rintro x ab ⟨n1,ao⟩;have lj:=hG.mod n1 (y7 hG);have rA:ab.get (aC h.next)=.bT [.int .i64 0,.int .i64 0,.int .i64 0,.str []] 0 false:=by
          rw [n1.get _ (h5 (by omega)) (by rw [c2];exact id),bm]
         have B5:=n1.next
         obtain ⟨c,au,yz⟩:∃c:UInt8,x=.int .u8 (c.toNat:Int)/\((∃n,pR (s.drop (a+1))=some (c,n)/\ab.get b=fl s ((a+1+n:Nat):Int) 0/\a+1+n<=s.length)\/(pR (s.drop (a+1))=none/\ab.get b=fl s ((a+1:Nat):Int) 252)):=by
          cases yn:pR (s.drop (a+1)) with
          | none=>rw [yn] at ao;exact ⟨0,ao.1,.inr ⟨rfl,ao.2⟩⟩
          | some q=>rw [yn] at ao;exact ⟨q.1,ao.1,.inl ⟨q.2,rfl,ao.2⟩⟩
         subst au;obtain ⟨v3,aI,aj,an,aJ,bE,cO,en⟩:=step ab (hm.trans n1) B5 lj c;have UM:dc (h.next+1) aI 1 v3 (fb.length+1) (iy (fb++[c])):=by rw [apC] at an;exact an
         have Bz:aI.get (aC h.next)=.bT [.int .i64 0,.int .i64 0,.int .i64 0,.str []] 0 false:=by rw [en,rA]
         unfold fl at yz;rcases yz with ⟨n,yn,wq,hle⟩ | ⟨yn,wq⟩
         . simp +contextual only [aj,a1,cG,aG,wq,cO,cW,c2,↓ag,al,simprocAttr];rw [yn] at bt;simp only at bt;refine ⟨⟨a+1+n,0,fb++[c],rfl,hle,by omega,by simp;omega,Bz,aJ,bE,an,.inl ⟨rfl,?_⟩⟩,by omega⟩;rw [bt,aqE,arK];congr 1;funext q;simp only [Function.comp,ap8,List.singleton_append,aqw,ari];omega
         . simp +contextual only [aj,a1,cG,aG,wq,cO,cW,c2,↓ag,al,simprocAttr];rw [yn] at bt;exact ⟨⟨a+1,252,fb++[c],rfl,by omega,by omega,by simp;omega,Bz,aJ,bE,an,.inr ⟨rfl,bt⟩⟩,by omega⟩
       rw [apu b2] at bt;by_cases c3:s[a]<32\/s[a]=127
       . rw [apB c3] at bt;have pI:(decide (s[a]<32)||decide (s[a]=127))=true:=by simpa using c3
         simp +contextual only [a1,cG,b3,aG,gg,bm,cW,c2,f0,f1,bH,k_,Im,P9,SR,bQ,b2,pI,apo aL,apy,↓ag,al,simprocAttr];exact ⟨⟨a,252,fb,rfl,cm,nj,hp,hm.self _,mn,hG.mod ((Mod.refl (fun q=>q=b) aa).self _) (y7 hG),.inr ⟨rfl,bt⟩⟩,by omega⟩
       . rw [apu c3] at bt;have pI:(decide (s[a]<32)||decide (s[a]=127))=false:=by simpa using c3
         obtain ⟨v3,aI,aj,an,aJ,bE,cO,en⟩:=step (aa.set b (.bT [.str s,.int .i64 ((a+1:Nat):Int),.int .i64 0] 0 false)) (hm.self _) (by rw [nq];exact aps _) (hG.mod ((Mod.refl (fun q=>q=b) aa).self _) (y7 hG)) s[a];simp only [nq,dV,cW,c2,ap0,ap2] at aj cO en;simp +contextual only [aj,a1,cG,b3,aG,gg,bm,cW,c2,f0,f1,bH,k_,Im,P9,SR,bQ,b2,pI,cO,apo aL,apy,↓ag,al,simprocAttr];refine ⟨⟨a+1,0,fb++[s[a]],rfl,by omega,by omega,by simp;omega,by rw [en,bm],aJ,bE,an,.inl ⟨rfl,?_⟩⟩,by omega⟩;rw [bt,arK];congr 1;funext q;simp only [Function.comp,ap8,List.singleton_append,aqw,ari];omega
   . simp +contextual only [a1,cG,b3,aG,bm,cW,c2,↓ag,al,simprocAttr];exact fin _ _ bt hm aG
def Ks:List UInt8:=[32,97,110,100,32,98,101,103,105,110,32,101,108,115,101,32,101,110,100,32,101,120,99,101,112,116,105,111,110,32,102,97,108,115,101,32,102,117,110,32,105,102,32,105,110,32,108,101,116,32,109,97,116,99,104,32,109,111,100,32,111,102,32,114,97,105,115,101,32,114,101,99,32,116,104,101,110,32,116,114,117,101,32,116,114,121,32,116,121,112,101,32,119,105,116,104,32]
def ub:List (List UInt8)->List UInt8
 | []=>[32]
 | w::L=>32::(w++ub L)
theorem abR:ub uH=Ks:=by decide
theorem abQ (L:List (List UInt8)):∃r,ub L=32::r:=by cases L<;>exact ⟨_,rfl⟩
theorem index_ge (sub:List UInt8):∀l:List UInt8,-1<=Lib.index l sub
 | []=>by simp only [Lib.index];split<;>decide
 | b::l=>by
   have:=index_ge sub l;simp only [Lib.index]
   split
   . decide
   . split<;>omega
theorem Sv (sub:List UInt8) (b:UInt8) (l:List UInt8):(0<=Lib.index (b::l) sub)↔(sub.isPrefixOf (b::l)=true\/0<=Lib.index l sub):=by
 have:=index_ge sub l;simp only [Lib.index]
 split
 . rename_i h;simp [h]
 . rename_i h
   split
   . rename_i ab;have:Lib.index l sub=-1:=by simpa using ab
     simp [h,this]
   . rename_i ab;have aI:¬Lib.index l sub=-1:=by simpa using ab
     simp only [h,apG,false_or];omega
theorem Sx (x:List UInt8) (r:List UInt8):∀w:List UInt8,(32:UInt8) ∉ w->((0<=Lib.index (w++r) (32::x))↔0<=Lib.index r (32::x))
 | [],_=>Iff.rfl
 | b::w,h=>by
   rw [ap3,Sv,Sx x r w (fun q=>h (ap6 _ q))];have ah:((32:UInt8) == b)=false:=by rw [aqK];rintro rfl;exact h (aqo ..)
   simp [List.isPrefixOf,ah]
theorem Ux (r:List UInt8):∀(t w:List UInt8),(32:UInt8) ∉ t->(32:UInt8) ∉ w->((t++[32]).isPrefixOf (w++32::r)=true↔t=w)
 | [],[],_,_=>by simp [List.isPrefixOf]
 | [],b::w,_,h=>by
   have ah:((32:UInt8) == b)=false:=by rw [aqK];rintro rfl;exact h (aqo ..)
   simp [List.isPrefixOf,ah]
 | a::t,[],h,_=>by
   have ah:(a == (32:UInt8))=false:=by rw [aqK];rintro rfl;exact h (aqo ..)
   simp [List.isPrefixOf,ah]
 | a::t,b::w,h,aa=>by have bh:=Ux r t w (fun q=>h (ap6 _ q)) (fun q=>aa (ap6 _ q));simp only [ap3,List.isPrefixOf,apn,aq0,bh,aq9]
theorem Sw (t:List UInt8) (aE:(32:UInt8) ∉ t):∀L:List (List UInt8),(∀w ∈ L,(32:UInt8) ∉ w)->((0<=Lib.index (ub L) (32::(t++[32])))↔t ∈ L)
 | [],_=>by cases t<;>simp [ub,Lib.index,List.isPrefixOf]
 | w::L,h=>by
   have bh:=Sw t aE L (fun x ao=>h x (ap6 _ ao));have hw:=h w (aqo ..);obtain ⟨r,aD⟩:=abQ L;simp only [ub];rw [Sv,Sx _ _ _ hw,bh,apI];have:(32::(t++[32])).isPrefixOf (32::(w++ub L))=(t++[32]).isPrefixOf (w++ub L):=by simp [List.isPrefixOf]
   rw [this,aD,Ux r t w aE hw]
theorem aaz (t:List UInt8) (aE:(32:UInt8) ∉ t):Lib.contains Ks (32::(t++[32]))=pa t:=by have:=Sw t aE uH (by decide);rw [abR] at this;unfold Lib.contains pa;rw [aqg,apE,this];simp
theorem aiJ {l:List UInt8}:(32:UInt8) ∉ l.takeWhile fs:=fun h=>by have:=VQ _ h;revert this;decide
theorem Fo (s:List UInt8) (a0:Nat) (k:Int) (b:aO) (h:ae) (ah:h.get b=fl s a0 0) (aY:a0<=s.length) (aW:s.length<=100000) (gP:Old h b):
 cv Tryz.prog 124 [.ptr b 0,.int .i64 k] h (oI s a0 b h (kk k (s.drop a0))):=by
 refine YW.z rfl (cr ?_);unfold N3;have cW:(b=aC h.next)=False:=B3 gP (aps _);have c2:(aC h.next=b)=False:=by rw [<-cW];exact propext eq_comm
 simp +contextual only [ah,cW,c2,↓ag,al,simprocAttr];have ao:Ext h (h.new (.bT [.int .i64 0,.int .i64 0,.int .i64 0,.str []] 0 false)):=(Ext.refl h).new _;refine bS (Vf s a0 0 b 133 uK _ (by rw [ao.get _ gP,ah]) aY aW (by decide) (fun c h=>aiu c h)) ?_;rintro x U ⟨rfl,hm,aG⟩;have kC:(fun c:UInt8=>uK (c.toNat:Int))=fs:=rfl;rw [kC] at aG ⊢;have wD:Mod (fun q=>q=b) h U:=(ao.mod _).trans hm;have g1:U.get (aC h.next)=.bT [.int .i64 0,.int .i64 0,.int .i64 0,.str []] 0 false:=by rw [hm.get _ (h5 (by rw [ga];omega)) (by rw [c2];exact id)];simp only [↓ag,al,simprocAttr]
 have hlen:=VR fs s a0;have acJ:(32:UInt8) ∉ (s.drop a0).takeWhile fs:=aiJ;unfold fl at aG;have wE:kk k (s.drop a0)=if k=3/\(s.drop a0).takeWhile fs=[95] then .ok (7,0,(s.drop a0).takeWhile fs,((s.drop a0).takeWhile fs).length) else if k=3/\pa ((s.drop a0).takeWhile fs) then .ok (6,0,(s.drop a0).takeWhile fs,((s.drop a0).takeWhile fs).length) else if 64 < ((s.drop a0).takeWhile fs).length then .error 255 else .ok (k,0,(s.drop a0).takeWhile fs,((s.drop a0).takeWhile fs).length):=rfl;rw [wE];generalize (s.drop a0).takeWhile fs=t at *;have Fz:∀(cY:Int),oI s a0 b h (.ok (cY,0,t,t.length)) (.agg [.int .i64 cY,.int .i64 0,.int .i64 0,.str t]) (U.set (aC h.next) (.bT [.int .i64 cY,.int .i64 0,.int .i64 0,.str t] 0 false)):=by intro cY;refine ⟨wD.fresh (aps _) _,_,_,_,rfl,rfl,rfl,rfl,?_,by show a0+t.length<=s.length;omega⟩;rw [dV,apu (by rw [c2];exact id),aG];rfl
 have tail:(64<t.length->oI s a0 b h (.error 255) (.agg [.int .i64 k,.int .i64 0,.int .i64 0,.str t]) ((U.set b (.bT [.str s,.int .i64 ((a0+t.length:Nat):Int),.int .i64 255] 0 false)).set (aC h.next) (.bT [.int .i64 k,.int .i64 0,.int .i64 0,.str t] 0 false))):=by intro ar;refine ⟨(wD.self _).fresh (aps _) _,_,_,_,rfl,by decide,((a0+t.length:Nat):Int),?_⟩;simp only [fl,cW,c2,↓ag,al,simprocAttr]
 by_cases aA:k=3
 . subst aA;by_cases hu:t=[95]
   . simp +contextual only [g1,aG,cW,c2,hu,ari,↓ag,al,simprocAttr];subst hu;exact Fz 7
   . have t1:(1+t.length<=top)=True:=apD (by unfold top;omega);have t2:(t.length+1+1<=top)=True:=apD (by unfold top;omega);simp only [top] at t1 t2;simp +contextual only [g1,aG,cW,c2,hu,ari,apC,t1,t2,↓ag,al,simprocAttr];refine fZ (aay Ks (32::(t++[32])) (by decide) _) ?_;rw [aaz t acJ];cases Ju:pa t with
     | true=>
       simp +contextual only [g1,aG,cW,c2,hu,ari,arL,Ju,apC,t1,t2,↓ag,al,simprocAttr];exact Fz 6
     | false=>
       by_cases ar:64<t.length
       . have fx:(64:Int) < (t.length:Int):=by omega
         simp +contextual only [g1,aG,cW,c2,hu,ar,fx,ari,arL,Ju,apC,t1,t2,apG,↓ag,al,simprocAttr];exact tail ar
       . have fx:¬(64:Int) < (t.length:Int):=by omega
         simp +contextual only [g1,aG,cW,c2,hu,ar,fx,ari,arL,Ju,apC,t1,t2,apG,↓ag,al,simprocAttr];exact Fz 3
 . by_cases ar:64<t.length
   . have fx:(64:Int) < (t.length:Int):=by omega
     simp +contextual only [g1,aG,cW,c2,aA,ar,fx,arH,↓ag,al,simprocAttr];exact tail ar
   . have fx:¬(64:Int) < (t.length:Int):=by omega
     simp +contextual only [g1,aG,cW,c2,aA,ar,fx,arH,↓ag,al,simprocAttr];exact Fz k
def zs:List V:=jH.map V.str
theorem alZ (h:ae):cv Tryz.prog 126 [] h fun x aa=>x=.slice (aC h.next) 0 17 17/\aa=h.new (.bT zs 0 false):=by refine YY.z rfl (cr ?_);unfold N5;simp +contextual only [↓ag,al,simprocAttr];rfl
theorem alX {i:Nat} (ax:i<17):zs[i]? =some (.str (jH[i]'ax)):=by unfold zs;rw [aqb,apo (show i<jH.length from ax)];rfl
theorem abO (p:List UInt8->Bool) {i:Nat} (ax:i<17):(jH.drop i).find? p=if p (jH[i]'ax) then some (jH[i]'ax) else (jH.drop (i+1)).find? p:=by rw [apW (show i<jH.length from ax),List.find?_cons];cases p jH[i]<;>rfl
theorem oI.store {s:List UInt8} {p:Nat} {b:aO} {h:ae} {z cz:b'} {res:tP} {x:V} {U:ae} (w:oI s p b (h.new z) res x U) (gP:Old h b):oI s p b h res x (U.set (aC h.next) cz):=by
 have c2:¬(aC h.next=b):=by
  intro q;have:b0 b<h.next:=gP
  rw [<-q,cV] at this;omega
 obtain ⟨hm,k,n,t,ao,aD⟩:=w;refine ⟨((((Ext.refl h).new z).mod _).trans hm).fresh (aps _) _,k,n,t,ao,?_⟩;cases res with
 | ok q=>simpa only [dV,apu c2] using aD
 | error e=>simpa only [dV,apu c2] using aD
theorem ajh (s:List UInt8) (a0:Nat) (b:aO) (h:ae) (ah:h.get b=fl s a0 0) (aY:a0<s.length) (aW:s.length<=100000) (gP:Old h b):
 cv Tryz.prog 116 [.ptr b 0] h (oI s a0 b h (gG (s.drop a0))):=by
 refine YO.z rfl (cr ?_);unfold NV;have cW:(b=aC h.next)=False:=B3 gP (aps _);have c2:(aC h.next=b)=False:=by rw [<-cW];exact propext eq_comm
 have iM:=ah;unfold fl at ah;have f0:(0<=(a0:Int))=True:=apD (by omega);have f1:((a0:Int) < (s.length:Int))=True:=apD (by omega);have ao:Ext h (h.new (.bT [.int .i64 0,.int .i64 0,.int .i64 0,.str []] 0 false)):=(Ext.refl h).new _;have yu:Old (h.new (.bT [.int .i64 0,.int .i64 0,.int .i64 0,.str []] 0 false)) b:=ao.bG gP;have A1:(h.new (.bT [.int .i64 0,.int .i64 0,.int .i64 0,.str []] 0 false)).get b=fl s a0 0:=by rw [ao.get _ gP,iM]
 have x_:∀{res:tP} {x:V} {U:ae},oI s a0 b (h.new (.bT [.int .i64 0,.int .i64 0,.int .i64 0,.str []] 0 false)) res x U->U.get (aC h.next)=.bT [.int .i64 0,.int .i64 0,.int .i64 0,.str []] 0 false:=by intro res x U w;rw [w.mod.get _ (h5 (by rw [ga];omega)) (by rw [c2];exact id)];simp only [↓ag,al,simprocAttr]
 have aH:=drop_cons aY;rw [aH];have dg:mW ((s[a0]).toNat:Int)=fq s[a0]:=rfl;have k_:(((s[a0]).toNat:Int)=34)=(s[a0]=34):=xe _ 34 (by omega);have tZ:(((s[a0]).toNat:Int)=95)=(s[a0]=95):=xe _ 95 (by omega);have xV:(((s[a0]).toNat:Int)=39)=(s[a0]=39):=xe _ 39 (by omega);simp +contextual only [ah,cW,c2,f0,f1,apo aY,apy,↓ag,al,simprocAttr];refine fZ (xT _ _) ?_;rw [dg];cases U:fq s[a0] with
 | true=>
   have dG:gG (s[a0]::s.drop (a0+1))=y8 (s.drop a0):=by rw [aH];simp only [gG,U,ap0]
   rw [dG];simp +contextual only [ah,cW,c2,f0,f1,apo aY,apy,↓ag,al,simprocAttr];refine bS (ajq s a0 b _ A1 aY aW yu U) ?_;rintro x ai w;have g1:=x_ w;obtain ⟨k,n,t,rfl,_⟩:=w.res;simp +contextual only [g1,ah,cW,c2,f0,f1,↓ag,al,simprocAttr];exact w.store gP
 | false=>
   by_cases ab:s[a0]=34
   . have dG:gG (s[a0]::s.drop (a0+1))=tq (s.drop (a0+1)):=by simp only [gG];rw [apu (by rw [U];exact aqR),apB ab]
     rw [dG];replace ab:=apD ab;simp +contextual only [ah,cW,c2,f0,f1,k_,ab,apo aY,apy,↓ag,al,simprocAttr];refine bS (amE s a0 b _ A1 aY aW yu) ?_;rintro x ai w;have g1:=x_ w;obtain ⟨k,n,t,rfl,_⟩:=w.res;simp +contextual only [g1,ah,cW,c2,f0,f1,↓ag,al,simprocAttr];exact w.store gP
   simp +contextual only [ah,cW,c2,f0,f1,k_,ab,apo aY,apy,↓ag,al,simprocAttr];refine fZ (Gm _ _) ?_;by_cases aI:(ha ((s[a0]).toNat:Int)||decide (s[a0]=95))=true
   . have dG:gG (s[a0]::s.drop (a0+1))=kk 3 (s.drop a0):=by rw [aH];simp only [gG,U,ab,aI,apG,ap2,ap0]
     rw [dG];have fin:q4 Tryz.prog 124 [.ptr b 0,.int .i64 3] (some 33) none [] [] (fun _=>.bad) h (fun _ _ _=>True)->True:=fun _=>trivial;cases J5:ha ((s[a0]).toNat:Int) with
     | true=>
       simp +contextual only [ah,cW,c2,f0,f1,k_,ab,J5,apo aY,apy,↓ag,al,simprocAttr];refine bS (Fo s a0 3 b _ A1 (by omega) aW yu) ?_;rintro x ai w;have g1:=x_ w;obtain ⟨k,n,t,rfl,_⟩:=w.res;simp +contextual only [g1,ah,cW,c2,f0,f1,↓ag,al,simprocAttr];exact w.store gP
     | false=>
       rw [J5,ars,apE] at aI;replace aI:=apD aI;simp +contextual only [ah,cW,c2,f0,f1,k_,tZ,ab,aI,J5,apo aY,apy,↓ag,al,simprocAttr];refine bS (Fo s a0 3 b _ A1 (by omega) aW yu) ?_;rintro x ai w;have g1:=x_ w;obtain ⟨k,n,t,rfl,_⟩:=w.res;simp +contextual only [g1,ah,cW,c2,f0,f1,↓ag,al,simprocAttr];exact w.store gP
   . have Q6:=aI;rw [ap1,aro,aqz] at Q6;obtain ⟨acL,acM⟩:=Q6;simp +contextual only [ah,cW,c2,f0,f1,k_,tZ,ab,acL,acM,apo aY,apy,↓ag,al,simprocAttr];refine fZ (QZ _ _) ?_;cases bq:m_ ((s[a0]).toNat:Int) with
     | true=>
       have dG:gG (s[a0]::s.drop (a0+1))=kk 4 (s.drop a0):=by rw [aH];simp only [gG,U,ab,aI,bq,apG,ap2,ap0]
       rw [dG];simp +contextual only [ah,cW,c2,f0,f1,apo aY,apy,↓ag,al,simprocAttr];refine bS (Fo s a0 4 b _ A1 (by omega) aW yu) ?_;rintro x ai w;have g1:=x_ w;obtain ⟨k,n,t,rfl,_⟩:=w.res;simp +contextual only [g1,ah,cW,c2,f0,f1,↓ag,al,simprocAttr];exact w.store gP
     | false=>
       have bP:IntKind.i64.wrap ((a0:Int)+1)=((a0+1:Nat):Int):=by rw [wrap_i64 (by omega) (by omega)];rfl
       have f2:(0<=((a0+1:Nat):Int))=True:=apD (by omega);by_cases cF:s[a0]=39/\mi (s.drop (a0+1))
       . have dG:gG (s[a0]::s.drop (a0+1))=(kk 5 (s.drop (a0+1))).map fun q=>(q.1,q.2.1,q.2.2.1,q.2.2.2+1):=by simp only [gG];rw [apu (by rw [U];exact aqR),apu ab,apu aI,apu (by rw [bq];exact aqR),apB cF]
         rw [dG];obtain ⟨En,Eo⟩:=cF;replace En:=apD En;have aL:a0+1<s.length:=by
          by_cases q:a0+1<s.length
          . exact q
          . rw [aqf (by omega)] at Eo;cases Eo
         rw [drop_cons aL] at Eo;have f3:(((a0+1:Nat):Int) < (s.length:Int))=True:=apD (by omega);simp +contextual (maxSteps:=1000000) only [ah,cW,c2,f0,f1,f2,f3,bP,k_,tZ,xV,ab,En,apo aY,apo aL,apy,↓ag,al,simprocAttr];refine fZ (Gm _ _) ?_;rw [show ha ((s[a0+1]).toNat:Int)=true from Eo];simp +contextual (maxSteps:=1000000) only [ah,cW,c2,f0,f1,f2,f3,bP,k_,tZ,xV,ab,En,apo aY,apo aL,apy,↓ag,al,simprocAttr];have RR:Mod (fun q=>q=b) (h.new (.bT [.int .i64 0,.int .i64 0,.int .i64 0,.str []] 0 false)) ((h.new (.bT [.int .i64 0,.int .i64 0,.int .i64 0,.str []] 0 false)).set b (.bT [.str s,.int .i64 ((a0+1:Nat):Int),.int .i64 0] 0 false)):=(Mod.refl _ _).self _;refine bS (Fo s (a0+1) 5 b _ (by rw [dV,apB rfl];rfl) (by omega) aW (RR.bG yu)) ?_;rintro x ai w;have w':oI s a0 b (h.new (.bT [.int .i64 0,.int .i64 0,.int .i64 0,.str []] 0 false)) ((kk 5 (s.drop (a0+1))).map fun q=>(q.1,q.2.1,q.2.2.1,q.2.2.2+1)) x ai:=by
          obtain ⟨anj,k,n,t,anv,wr⟩:=w;refine ⟨RR.trans anj,k,n,t,anv,?_⟩;cases aV:kk 5 (s.drop (a0+1)) with
          | error e=>rw [aV] at wr;exact wr
          | ok q=>
            rw [aV] at wr;obtain ⟨a',cG,b3,eg,bL⟩:=wr;refine ⟨a',cG,b3,?_,?_⟩
            . rw [eg];show fl s ((a0+1+q.2.2.2:Nat):Int) 0=fl s ((a0 + (q.2.2.2+1):Nat):Int) 0;rw [show a0+1+q.2.2.2=a0 + (q.2.2.2+1) from by omega]
            . show a0 + (q.2.2.2+1)<=s.length;omega
         have g1:=x_ w';obtain ⟨k,n,t,rfl,_⟩:=w'.res;simp +contextual only [g1,ah,cW,c2,f0,f1,↓ag,al,simprocAttr];exact w'.store gP
       . have dG:gG (s[a0]::s.drop (a0+1))=zr (s.drop a0):=by rw [aH];simp only [gG];rw [apu (by rw [U];exact aqR),apu ab,apu aI,apu (by rw [bq];exact aqR),apu cF]
         rw [dG];have ade:((s[a0]=39)=False)\/(((s[a0]=39)=True)/\¬a0+1<s.length)\/(((s[a0]=39)=True)/\∃aL:a0+1<s.length,ha ((s[a0+1]).toNat:Int)=false):=by
          by_cases q:s[a0]=39
          . by_cases aL:a0+1<s.length
            . refine .inr (.inr ⟨apD q,aL,?_⟩);cases aq:ha ((s[a0+1]).toNat:Int) with
              | false=>rfl
              | true=>exact absurd ⟨q,by rw [drop_cons aL];exact aq⟩ cF
            . exact .inr (.inl ⟨apD q,aL⟩)
          . exact .inl (apx q)
         have two:∀t ∈ jH,t.length<=2:=by decide
         have Az:((17:Nat):Int)=17:=rfl;rcases ade with aj | ⟨aj,an⟩ | ⟨aj,aL,an⟩
         case' neg.inl=>
          simp +contextual (maxSteps:=1000000) only [ah,cW,c2,f0,f1,f2,bP,k_,tZ,xV,ab,aj,apo aY,apy,↓ag,al,simprocAttr]
         case' neg.inr.inl=>
          have f3:(((a0+1:Nat):Int) < (s.length:Int))=False:=apx (by omega);simp +contextual (maxSteps:=1000000) only [ah,cW,c2,f0,f1,f2,f3,bP,k_,tZ,xV,ab,aj,apo aY,apy,↓ag,al,simprocAttr]
         case' neg.inr.inr=>
          have f3:(((a0+1:Nat):Int) < (s.length:Int))=True:=apD (by omega);simp +contextual (maxSteps:=1000000) only [ah,cW,c2,f0,f1,f2,f3,bP,k_,tZ,xV,ab,aj,apo aY,apo aL,apy,↓ag,al,simprocAttr];refine fZ (Gm _ _) ?_;rw [an];simp +contextual (maxSteps:=1000000) only [ah,cW,c2,f0,f1,f2,f3,bP,k_,tZ,xV,ab,aj,apo aY,apo aL,apy,↓ag,al,simprocAttr]
         all_goals
          refine bS (alZ _) ?_;rintro x ai ⟨rfl,rfl⟩;simp +contextual only [↓ag,al,simprocAttr]
          refine eO (fun r aa=>r 0=.ptr b 0/\r 2=.ptr (aC h.next) 0/\r 77=.slice (aC (h.next+1)) 0 17 17/\r 78=.int .i64 17/\∃i:Nat,i<=17/\r 79=.int .i64 i/\aa=(h.new (.bT [.int .i64 0,.int .i64 0,.int .i64 0,.str []] 0 false)).new (.bT zs 0 false)/\
           jH.find? (·.isPrefixOf (s.drop a0))=(jH.drop i).find? (·.isPrefixOf (s.drop a0))) (fun r aa=>17 - (r 79).toN) ?_ ?_
          . exact ⟨by simp only [↓ag,al,simprocAttr],by simp only [↓ag,al,simprocAttr],by simp only [↓ag,al,simprocAttr],by simp only [Az,↓ag,al,simprocAttr],0,by omega,by simp only [↓ag,al,simprocAttr]<;>rfl,rfl,rfl⟩
          . rintro r aa ⟨a1,cG,FZ,F0,i,ax,F1,rfl,um⟩;unfold NW;have RU:Old ((h.new (.bT [.int .i64 0,.int .i64 0,.int .i64 0,.str []] 0 false)).new (.bT zs 0 false)) b:=(ao.new _).bG gP;have sI:((h.new (.bT [.int .i64 0,.int .i64 0,.int .i64 0,.str []] 0 false)).new (.bT zs 0 false)).get b=.bT [.str s,.int .i64 a0,.int .i64 0] 0 false:=by rw [(ao.new _).get _ gP,ah]
            have B1:(b=aC (h.next+1))=False:=B3 gP (by omega);have Dy:(aC (h.next+1)=b)=False:=by rw [<-B1];exact propext eq_comm
            by_cases p8:i<17
            . have g0:((i:Int)<17)=True:=apD (by omega);have g1:(0<=(i:Int))=True:=apD (by omega);rw [abO _ p8] at um;have hlen:=two _ (apV (h:=(show i<jH.length from p8)));simp +contextual only [Az,a1,cG,FZ,F0,F1,g0,g1,cW,c2,B1,Dy,apy,aru,alX p8,↓ag,al,simprocAttr];refine fZ (I0 s _ (a0:Int) [.int .i64 0] b 0 false _ sI (by omega) (by omega)) ?_;rw [apy];cases ry:(jH[i]'p8).isPrefixOf (s.drop a0) with
              | true=>
                rw [ry,apB rfl] at um;have hW:(jH[i]'p8).length<=s.length-a0:=by rw [arb] at ry;have:=ry.length_le;rwa [apY] at this
                have k6:IntKind.i64.wrap ((a0:Int) + ((jH[i]'p8).length:Int))=((a0 + (jH[i]'p8).length:Nat):Int):=by rw [wrap_i64 (by omega) (by omega)];rfl
                simp +contextual only [Az,a1,cG,FZ,F0,F1,g0,g1,k6,cW,c2,B1,Dy,ah,↓ag,al,simprocAttr];unfold zr;rw [um];refine ⟨(((ao.new _).mod _).self _).fresh (aps _) _,_,_,_,rfl,rfl,rfl,rfl,?_,by show a0 + (jH[i]'p8).length<=s.length;omega⟩;simp only [fl,cW,c2,↓ag,al,simprocAttr]
              | false=>
                rw [ry,apu aqR] at um;have k6:IntKind.i64.wrap ((i:Int)+1)=((i+1:Nat):Int):=by rw [wrap_i64 (by omega) (by omega)];rfl
                simp +contextual only [Az,a1,cG,FZ,F0,F1,g0,g1,k6,cW,c2,B1,Dy,ah,↓ag,al,simprocAttr];exact ⟨⟨i+1,by omega,rfl,um⟩,by omega⟩
            . obtain rfl:i=17:=by omega
              have dC:jH.find? (·.isPrefixOf (s.drop a0))=none:=by rw [um];rfl
              have g0:((17:Int)<17)=False:=apx (by omega);simp +contextual only [Az,a1,cG,FZ,F0,F1,g0,sI,cW,c2,B1,Dy,ah,↓ag,al,simprocAttr];unfold zr;rw [dC];refine ⟨(((ao.new _).mod _).self _).fresh (aps _) _,_,_,_,rfl,by decide,(a0:Int),?_⟩;simp only [fl,cW,c2,↓ag,al,simprocAttr]
theorem QT (s:List UInt8) (i:Nat):(ByteArray.mk ⟨s⟩).get! i=(s[i]?).getD 0:=by show (Array.mk s)[i]! =_;simp;rfl
theorem aaR (s:List UInt8) (a:Nat):Lib.decodeGo ⟨⟨s.drop a⟩⟩=if a<s.length then decodeL s a else (65533,0):=by
 unfold Lib.decodeGo decodeL;have bm:(ByteArray.mk ⟨s.drop a⟩).size=s.length-a:=by show (s.drop a).length=_;rw [apY]
 have rA:(ByteArray.mk ⟨s⟩).size=s.length:=rfl;by_cases bw:a<s.length
 . rw [apB bw,apu (by rw [bm];omega),Lib.decode_at,Lib.decode_at,bm,rA];simp only [QT,aqA,aqH,arD,apX]
 . rw [apu bw,apB (by rw [bm];omega)]
theorem ajf {h:ae} {b:aO} {s:List UInt8} {a:Nat} (aG:h.get b=.iter s a):
 wX (.ptr b 0) h=if a<s.length then .val (.tuple [.bool true,.int .i64 a,.int .i32 (decodeL s a).1]) (h.set b (.iter s (a + (decodeL s a).2))) else .val (.tuple [.bool false]) h:=by
 unfold wX;simp only [V.iV,aG];rw [show Nat.beq 0 0=true from rfl];simp only [apt];by_cases bw:a<s.length
 . rw [apB bw,show Nat.blt a s.length=true from by rw [apQ];exact bw];rfl
 . rw [apu bw,show Nat.blt a s.length=false from by rw [<-ap1,apQ];exact bw];rfl
def afC (s:List UInt8):b'->Nat
 | .iter _ a=>s.length-a
 | _=>0
theorem aaP (s:List UInt8) (a:Nat):1<=(decodeL s a).2:=by
 unfold decodeL;rw [Lib.decode_at];unfold Lib.decodeN
 repeat' split
 all_goals simp
theorem alg (s:List UInt8) (aW:s.length<=100000) (h:ae):cv Tryz.prog 112 [.str s] h fun x aa=>x=.int .i64 (u3 s:Nat)/\Ext h aa:=by
 refine YK.z rfl (cr ?_);unfold NP;simp +contextual only [↓ag,al,simprocAttr];refine eO (fun r aa=>r 0=.str s/\r 8=.ptr (aC h.next) 0/\Ext h aa/\∃a,aa.get (aC h.next)=.iter s a/\u3 s=rS s a) (fun r aa=>afC s (aa.get (aC h.next))) ?_ ?_
 . exact ⟨by simp only [↓ag,al,simprocAttr],by simp only [↓ag,al,simprocAttr],(Ext.refl h).new _,0,by simp only [↓ag,al,simprocAttr],rfl⟩
 . rintro r aa ⟨a1,dk,ao,a,aG,bw⟩;unfold NQ;have mn:=ajf aG;by_cases aL:a<s.length
   . rw [apB aL] at mn;have ai:=aaP s a;by_cases au:(decodeL s a).1=65533
     . have p0:(((decodeL s a).1:Int)=65533)=True:=apD (by omega);have f0:(0<=(a:Int))=True:=apD (by omega);have f1:((a:Int)<=(s.length:Int))=True:=apD (by omega);simp +contextual only [a1,dk,mn,p0,f0,f1,apy,↓ag,al,simprocAttr];refine fZ (aaQ _ _) ?_;rw [aaR,apB aL];by_cases hw:(decodeL s a).2=1
       . have kh:(((decodeL s a).2:Int)=1)=True:=apD (by omega);have wj:fc s a=0:=by unfold fc;rw [apB (Prod.ext au hw)]
         rw [alf aL wj] at bw;simp +contextual only [a1,dk,mn,p0,kh,f0,f1,apy,↓ag,al,simprocAttr];rw [bw];exact ⟨rfl,ao.set (aps _) _⟩
       . have kh:(((decodeL s a).2:Int)=1)=False:=apx (by omega);have wj:fc s a=(decodeL s a).2:=by unfold fc;rw [apu (fun q=>hw (congrArg Prod.snd q))]
         rw [LH aL (by rw [wj];omega),wj] at bw;simp +contextual only [a1,dk,mn,p0,kh,f0,f1,apy,↓ag,al,simprocAttr];refine ⟨⟨ao.set (aps _) _,_,rfl,bw⟩,?_⟩;rw [aG];show s.length - (a + (decodeL s a).2)<s.length-a;omega
     . have p0:(((decodeL s a).1:Int)=65533)=False:=apx (by omega);have wj:fc s a=(decodeL s a).2:=by unfold fc;rw [apu (fun q=>au (congrArg Prod.fst q))]
       rw [LH aL (by rw [wj];omega),wj] at bw;simp +contextual only [a1,dk,mn,p0,apy,↓ag,al,simprocAttr];refine ⟨⟨ao.set (aps _) _,_,rfl,bw⟩,?_⟩;rw [aG];show s.length - (a + (decodeL s a).2)<s.length-a;omega
   . rw [apu aL] at mn;rw [U7 (by omega)] at bw;simp +contextual only [a1,dk,mn,apy,↓ag,al,simprocAttr];rw [bw];exact ⟨rfl,ao⟩
def cc.enc (w:cc):List V:=[.int .i64 w.kind,.int .i64 w.num,.int .i64 w.pos,.str w.text]
def iX:List cc->List V
 | []=>[]
 | w::ws=>w.enc++iX ws
theorem V':∀a b:List cc,iX (a++b)=iX a++iX b
 | [],b=>rfl
 | w::a,b=>by simp only [iX,ap3,V' a b,ap8]
def Cl (ws:List cc):Except (Int × Nat) (List cc)->Except (Int × Nat) (List cc)
 | .ok bH=>.ok (ws++bH)
 | .error e=>.error e
theorem akE (ws:List cc) (w:cc) (r:Except (Int × Nat) (List cc)):Cl ws (AG w r)=Cl (ws++[w]) r:=by
 cases r with
 | ok bH=>simp [Cl,AG]
 | error e=>rfl
theorem akF (r:Except (Int × Nat) (List cc)):Cl [] r=r:=by cases r<;>rfl
def WS (s:List UInt8) (h:ae) (x:V) (aa:ae):Prop:=Ext h aa/\match lu s with
 | .ok ws=>∃v,x=.tuple [v,.agg [.int .i64 0,.int .i64 0]]/\dc h.next aa 4 v ws.length (iX ws)
 | .error e=>x=.tuple [.bu,.agg [.int .i64 e.1,.int .i64 e.2]]
theorem Ns (c:UInt8):(0<=Lib.indexByte [9,10,13,32] c)=(blank c=true):=by
 have aY:∀d:UInt8,(d == c)=decide (c=d):=fun d=>by
  by_cases q:c=d
  . subst q;simp
  . have fk:¬d=c:=fun e=>q e.symm;simp [q,fk]
 simp only [Lib.indexByte,aY,blank];by_cases U:c=9
 . subst U;decide
 . by_cases ab:c=10
   . subst ab;decide
   . by_cases aI:c=13
     . subst aI;decide
     . by_cases bq:c=32
       . subst bq;decide
       . simp [U,ab,aI,bq]
theorem Te (s:List UInt8) (h:ae):cv Tryz.prog 107 [.str s] h (WS s h):=by
 refine YG.z rfl (cr ?_);unfold NK;by_cases RI:(65536:Int) < (s.length:Int)
 . simp +contextual only [RI,↓ag,al,simprocAttr];refine ⟨((Ext.refl h).new _).set (aps _) _,?_⟩;unfold lu;rw [apB (by omega)];rfl
 simp +contextual only [RI,↓ag,al,simprocAttr];refine bS (alg s (by omega) _) ?_;rintro x U ⟨rfl,ho⟩;have ao:Ext h (h.new (.bT [.int .i64 0,.int .i64 0] 0 false)):=(Ext.refl h).new _;have yJ:=ao.trans ho;have g1:U.get (aC h.next)=.bT [.int .i64 0,.int .i64 0] 0 false:=by rw [ho.get _ (h5 (by rw [ga];omega))];simp only [↓ag,al,simprocAttr]
 have TT:h.next+1<=U.next:=ho.next
 have cK:(aC U.next=aC h.next)=False:=by rw [pg];exact apx (by omega)
 have cL:(aC h.next=aC U.next)=False:=by rw [pg];exact apx (by omega)
 have ob:(U.next=h.next)=False:=apx (by omega);have oc:(h.next=U.next)=False:=apx (by omega);have hlen:¬65536<s.length:=by omega
 by_cases aD:u3 s<s.length
 . have sQ:((u3 s:Int) < (s.length:Int))=True:=apD (by omega);simp +contextual only [sQ,g1,cK,cL,ob,oc,↓ag,al,simprocAttr];refine ⟨yJ.set (aps _) _,?_⟩;unfold lu;rw [apu hlen,apB aD]
 have sQ:((u3 s:Int) < (s.length:Int))=False:=apx (by omega);have lO:lu s=rE s 0:=by unfold lu;rw [apu hlen,apu aD]
 simp +contextual only [sQ,g1,cK,cL,ob,oc,↓ag,al,simprocAttr];have ae3:Ext h (U.new (.bT [.str s,.int .i64 0,.int .i64 0] 0 false)):=yJ.new _
 refine eO (fun r aa=>r 0=.str s/\r 3=.ptr (aC h.next) 0/\r 5=.ptr (aC U.next) 0/\∃(a:Nat) (ws:List cc) (v:V),r 6=v/\aa.get (aC U.next)=.bT [.str s,.int .i64 a,.int .i64 0] 0 false/\a<=s.length/\ws.length<=a/\
  aa.get (aC h.next)=.bT [.int .i64 0,.int .i64 0] 0 false/\Ext h aa/\U.next+1<=aa.next/\dc (U.next+1) aa 4 v ws.length (iX ws)/\lu s=Cl ws (rE (s.drop a) a))
  (fun r aa=>s.length - ((fy (aa.get (aC U.next)) 1).getD .bad).toN) ?_ ?_
 . refine ⟨by simp only [↓ag,al,simprocAttr],by simp only [↓ag,al,simprocAttr],by simp only [↓ag,al,simprocAttr],0,[],.bu,by simp only [↓ag,al,simprocAttr],by simp only [↓ag,al,simprocAttr]<;>rfl,by omega,by simp,by simp only [g1,cK,ob,cL,oc,↓ag,al,simprocAttr],ae3,?_,⟨rfl,rfl⟩,?_⟩
   . rw [ga];exact aps _
   . rw [lO,aqu,akF]
 . rintro r aa ⟨a1,b3,bL,a,ws,v,dI,aG,cm,kw,bm,EZ,mn,hG,bt⟩;unfold NL;have gP:Old aa (aC U.next):=h5 (by omega);by_cases gg:(s.length:Int)<=(a:Int)
   . have bw:a=s.length:=by omega
     have EP:lu s=.ok ws:=by rw [bt,bw,arw];show Except.ok (ws++[])=_;rw [aqB]
     simp +contextual only [a1,b3,bL,dI,aG,bm,gg,cK,cL,ob,oc,↓ag,al,simprocAttr];refine ⟨EZ.set (aps _) _,?_⟩;rw [EP];refine ⟨v,rfl,?_⟩;have:=hG.mod ((Mod.refl (fun q=>q=aC h.next) aa).self (.bT [.int .i64 0,.int .i64 0] 0 false)) (fun q aq e=>by have ab:=hG.base aq;rw [show q=aC h.next from e,cV] at ab;omega);exact this.mono (by omega)
   . have aL:a<s.length:=by omega
     rw [drop_cons aL,Td,<-drop_cons aL] at bt;have f0:(0<=(a:Int))=True:=apD (by omega);have f1:((a:Int) < (s.length:Int))=True:=apD (by omega);have bP:IntKind.i64.wrap ((a:Int)+1)=((a+1:Nat):Int):=by rw [wrap_i64 (by omega) (by omega)];rfl
     simp +contextual only [a1,b3,bL,dI,aG,bm,gg,cK,cL,ob,oc,f0,f1,apo aL,apy,↓ag,al,simprocAttr];refine fZ (St _ _ _) ?_;rw [VY];by_cases Ex:blank s[a]=true
     . have I4:(0<=Lib.indexByte [9,10,13,32] s[a])=True:=by rw [Ns,Ex];exact eq_self _
       rw [apB Ex] at bt;simp +contextual only [I4,bP,a1,b3,bL,dI,aG,bm,gg,cK,cL,ob,oc,f0,f1,apo aL,apy,↓ag,al,simprocAttr];refine ⟨⟨a+1,ws,rfl,by omega,by omega,EZ.set (by omega) _,mn,?_,bt⟩,by omega⟩;exact hG.mod ((Mod.refl (fun q=>q=aC U.next) aa).self _) (fun q aq e=>by have ab:=hG.base aq;rw [show q=aC U.next from e,cV] at ab;omega)
     . have I4:(0<=Lib.indexByte [9,10,13,32] s[a])=False:=by rw [Ns];exact apx Ex
       rw [apu Ex] at bt;simp +contextual only [I4,bP,a1,b3,bL,dI,aG,bm,gg,cK,cL,ob,oc,f0,f1,apo aL,apy,↓ag,al,simprocAttr];have Bm:=I0 s [40,42] (a:Int) [.int .i64 0] (aC U.next) 0 false aa aG (by omega) (by omega);rw [apy] at Bm;refine fZ Bm ?_;cases ry:([40,42]:List UInt8).isPrefixOf (s.drop a) with
       | true=>
         rw [ry,apB rfl] at bt;simp +contextual only [bP,a1,b3,bL,dI,aG,bm,gg,cK,cL,ob,oc,f0,f1,apo aL,apy,↓ag,al,simprocAttr];refine bS (ajo s a 0 (aC U.next) aa aG cm (by omega) gP) ?_;rintro x ab ⟨rfl,hm,aV⟩;have rA:ab.get (aC h.next)=.bT [.int .i64 0,.int .i64 0] 0 false:=by rw [hm.get _ (h5 (by omega)) (by rw [cL];exact id),bm]
         have EX:Ext h ab:=EZ.iq hm (fun b ah=>by rw [show b=aC U.next from ah,cV];omega);have B5:=hm.next
         have lj:=hG.mod hm (fun q aq e=>by have ab:=hG.base aq;rw [show q=aC U.next from e,cV] at ab;omega);cases JO:iF (s.drop a) 0 with
         | some n=>
           rw [JO] at aV bt;obtain ⟨g2,hle⟩:=aV;have Bl:=Fy JO;unfold fl at g2;simp +contextual only [bP,a1,b3,bL,dI,g2,aG,rA,gg,cK,cL,ob,oc,f0,f1,apo aL,apy,↓ag,al,simprocAttr];refine ⟨⟨a+n,ws,rfl,hle,by omega,EX,by omega,lj,?_⟩,by omega⟩;rw [bt];simp only [aqE]
         | none=>
           rw [JO] at aV bt;unfold fl at aV;simp +contextual only [bP,a1,b3,bL,dI,aV,aG,rA,gg,cK,cL,ob,oc,f0,f1,apo aL,apy,↓ag,al,simprocAttr];refine ⟨EX.set (aps _) _,?_⟩;rw [bt];rfl
       | false=>
         rw [ry,apu aqR] at bt;simp +contextual only [bP,a1,b3,bL,dI,aG,bm,gg,cK,cL,ob,oc,f0,f1,apo aL,apy,↓ag,al,simprocAttr];refine bS (ajh s a (aC U.next) aa aG aL (by omega) gP) ?_;rintro x ab w;obtain ⟨hm,k,n,t,rfl,yy⟩:=w;have rA:ab.get (aC h.next)=.bT [.int .i64 0,.int .i64 0] 0 false:=by rw [hm.get _ (h5 (by omega)) (by rw [cL];exact id),bm]
         have EX:Ext h ab:=EZ.iq hm (fun b ah=>by rw [show b=aC U.next from ah,cV];omega);have B5:=hm.next
         have lj:=hG.mod hm (fun q aq e=>by have ab:=hG.base aq;rw [show q=aC U.next from e,cV] at ab;omega);have m0:(aC ab.next=aC h.next)=False:=by rw [pg];exact apx (by omega)
         have m1:(aC ab.next=aC U.next)=False:=by rw [pg];exact apx (by omega)
         have Tr:(ab.next=h.next)=False:=apx (by omega);have Ts:(ab.next=U.next)=False:=apx (by omega);have EY:Ext ab (((ab.new (.bT [.int .i64 0,.int .i64 0,.int .i64 0,.str []] 0 false)).set (aC ab.next) (.bT [.int .i64 k,.int .i64 n,.int .i64 0,.str t] 0 false)).set (aC ab.next) (.bT [.int .i64 k,.int .i64 n,.int .i64 a,.str t] 0 false)):=(((Ext.refl ab).new _).set (aps _) _).set (aps _) _;obtain ⟨v3,aI,aj,an,aJ,bE,cO⟩:=tT (cs:=[.int .i64 k,.int .i64 n,.int .i64 a,.str t]) (by omega) (lj.ext EY) (by simp only [nq,ga];omega) (by unfold top;omega) rfl rfl;simp only [nq,ga] at aj bE;have Sf:Ext h aI:=(EX.trans EY).iq aJ (fun b ah=>aqc (by omega) (lj.base ah));have Bz:aI.get (aC h.next)=.bT [.int .i64 0,.int .i64 0] 0 false:=by rw [aJ.get _ (h5 (by simp only [nq,ga];omega)) (fun aq=>by have:=lj.base aq;rw [cV] at this;omega),EY.get _ (h5 (by omega)),rA]
         have kJ:aI.get (aC U.next)=ab.get (aC U.next):=by rw [aJ.get _ (h5 (by simp only [nq,ga];omega)) (fun aq=>by have:=lj.base aq;rw [cV] at this;omega),EY.get _ (h5 (by omega))]
         cases mn:gG (s.drop a) with
         | ok q=>
           have Bl:=KS mn;rw [mn] at yy bt;obtain ⟨rfl,rfl,rfl,g2,hle⟩:=yy;unfold fl at g2;rw [g2] at kJ;simp +contextual only [aj,m0,m1,Tr,Ts,bP,a1,b3,bL,dI,g2,kJ,aG,rA,gg,cK,cL,ob,oc,f0,f1,apo aL,apy,↓ag,al,simprocAttr];refine ⟨⟨a+q.2.2.2,ws++[⟨q.1,q.2.1,a,q.2.2.1⟩],rfl,hle,by simp;omega,Bz,Sf,by omega,?_,?_⟩,by omega⟩
           . rw [apC,V'];exact an
           . rw [bt,akE];simp only [aqE]
         | error e=>
           rw [mn] at yy bt;obtain ⟨he,bk,g2⟩:=yy;unfold fl at g2;rw [g2] at kJ;simp +contextual only [he,aj,m0,m1,Tr,Ts,bP,a1,b3,bL,dI,g2,kJ,Bz,aG,rA,gg,cK,cL,ob,oc,f0,f1,apo aL,apy,↓ag,al,simprocAttr];refine ⟨Sf.set (aps _) _,?_⟩;rw [bt];rfl
def qG (L:List (List UInt8)):List V:=L.map V.str
theorem SK (h:ae):cv Tryz.prog 90 [] h fun x aa=>x=.slice (aC h.next) 0 20 20/\aa=h.new (.bT (qG uH) 0 false):=by refine ZG.z rfl (cr ?_);unfold Pe;simp +contextual only [↓ag,al,simprocAttr];rfl
theorem L0 (L:List (List UInt8)):(qG L).length=L.length:=by simp [qG]
theorem LZ {L:List (List UInt8)} {i:Nat} (ax:i<L.length):(qG L)[i]? =some (.str L[i]):=by unfold qG;rw [aqb,apo ax];rfl
theorem P6 {t:List UInt8} {L:List (List UInt8)} {i:Nat} (ax:i<L.length):(L.drop i).contains t=(decide (L[i]=t)||(L.drop (i+1)).contains t):=by rw [apW ax,List.contains_cons];congr 1;rw [aqg];simp;exact eq_comm
theorem Kg (t:List UInt8) (L:List (List UInt8)) (b:aO) (cap:Nat) (h:ae) (cX:L.length<=100000) (aG:h.get b=.bT (qG L) 0 false):
 eZ Tryz.prog 89 [.str t,.slice b 0 L.length cap] h (.bool (L.contains t)) h:=by
 refine oj (ZF.z rfl (cr ?_));unfold Pb;simp +contextual only [↓ag,al,simprocAttr];refine eO (fun r aa=>aa=h/\r 0=.str t/\r 1=.slice b 0 L.length cap/\∃i:Nat,r 5=.int .i64 i/\i<=L.length/\L.contains t=(L.drop i).contains t) (fun r aa=>L.length - (r 5).toN) ?_ ?_
 . exact ⟨rfl,by simp only [↓ag,al,simprocAttr],by simp only [↓ag,al,simprocAttr],0,by simp only [↓ag,al,simprocAttr]<;>rfl,by omega,rfl⟩
 . rintro r aa ⟨rfl,a1,a',i,bL,ax,bt⟩;unfold Pc;by_cases aL:i<L.length
   . have g0:((i:Int) < (L.length:Int))=True:=apD (by omega);have g1:(0<=(i:Int))=True:=apD (by omega);rw [P6 aL] at bt;by_cases he:L[i]=t
     . simp +contextual only [a1,a',bL,g0,g1,aG,he,apy,aru,LZ aL,↓ag,al,simprocAttr];rw [bt];simp [he]
     . have w:IntKind.i64.wrap ((i:Int)+1)=((i+1:Nat):Int):=by rw [wrap_i64 (by omega) (by omega)];rfl
       simp +contextual only [a1,a',bL,g0,g1,aG,he,w,apy,aru,LZ aL,↓ag,al,simprocAttr];refine ⟨⟨i+1,rfl,aL,?_⟩,by omega⟩;rw [bt];simp [he]
   . have g0:((i:Int) < (L.length:Int))=False:=apx (by omega);rw [aqf (by omega)] at bt;rw [bt];simp +contextual only [a1,a',bL,g0,↓ag,al,simprocAttr];rfl
def A3:List UInt8->Bool
 | d::_=>m_ d.toNat
 | []=>false
def dh (k:Int) (s:List UInt8):Bool:=
 decide (s≠[])&&decide (s.length<=64)&&s.all fs&&(if k=3 then (mi s||s.head? == some 95)&&!decide (s=[95])&&!pa s else if k=4 then A3 s else mi s)
theorem afn (t:List UInt8) (L:List (List UInt8)) (v:V) (h:ae) (H:e2 h 1 v L.length (qG L)) (cX:L.length<=100000):
 cv Tryz.prog 109 [v,.str t] h fun x aa=>aa=h/\∃i:Int,x=.int .i64 i/\decide (0<=i)=L.contains t:=by
 refine YI.z rfl (cr ?_);unfold NN;simp +contextual only [H.len,↓ag,al,simprocAttr];refine eO (fun r aa=>aa=h/\r 0=v/\r 1=.str t/\r 7=.int .i64 L.length/\∃i:Nat,r 8=.int .i64 i/\i<=L.length/\L.contains t=(L.drop i).contains t) (fun r aa=>L.length - (r 8).toN) ?_ ?_
 . exact ⟨rfl,by simp only [↓ag,al,simprocAttr],by simp only [↓ag,al,simprocAttr],by simp only [↓ag,al,simprocAttr],0,by simp only [↓ag,al,simprocAttr]<;>rfl,by omega,rfl⟩
 . rintro r aa ⟨rfl,a1,a',dN,i,dk,ax,bt⟩;unfold NO;by_cases aL:i<L.length
   . have g0:((i:Int) < (L.length:Int))=True:=apD (by omega);obtain ⟨bR,c8,wM,mS⟩:=H.bW (k:=.i64) aL;have dS:=mS.dS (i:=i * 1) (by rw [L0];omega);simp only [aru] at dS wM;have Jn:(qG L)[i]'(by rw [L0];exact aL)=.str L[i]:=by
      have:=LZ aL;rw [apo (by rw [L0];exact aL)] at this;exact aqF this
     rw [Jn] at dS;rw [P6 aL] at bt;have w:IntKind.i64.wrap ((i:Int)+1)=((i+1:Nat):Int):=by rw [wrap_i64 (by omega) (by omega)];rfl
     by_cases he:t=L[i]
     . have eE:decide (t=L[i])=true:=ap7 he;simp +contextual only [a1,a',dN,dk,g0,wM,dS,eE,↓ag,al,simprocAttr];exact ⟨i,rfl,by rw [bt,<-he];simp⟩
     . have eE:decide (t=L[i])=false:=ap_ he;simp +contextual only [a1,a',dN,dk,g0,wM,dS,eE,w,↓ag,al,simprocAttr];refine ⟨⟨i+1,rfl,aL,?_⟩,by omega⟩;rw [bt,ap_ (fun q=>he q.symm),ars]
   . have g0:((i:Int) < (L.length:Int))=False:=apx (by omega);rw [aqf (by omega)] at bt;simp +contextual only [a1,a',dN,dk,g0,↓ag,al,simprocAttr];exact ⟨_,rfl,by rw [bt];rfl⟩
theorem aaw (t:List UInt8) (L:List (List UInt8)) (v:V) (h:ae) (H:e2 h 1 v L.length (qG L)) (cX:L.length<=100000):
 eZ Tryz.prog 105 [v,.str t] h (.bool (L.contains t)) h:=by
 refine oj (YF.z rfl (cr ?_));unfold NJ;simp +contextual only [↓ag,al,simprocAttr];refine bS (afn t L v h H cX) ?_;rintro x U ⟨rfl,i,rfl,ax⟩;simp +contextual only [ax,↓ag,al,simprocAttr]
def Tb (c:Int):Bool:=nB c 97 122||nB c 65 90||nB c 48 57||decide (c=95)||decide (c=39)
theorem ait (c:UInt8):Tb (c.toNat:Int)=fs c:=by unfold Tb fs uK nB mW ha m_;generalize (c.toNat:Int)=x;cases decide (97<=x)<;>cases decide (x<=122)<;>cases decide (65<=x)<;>cases decide (x<=90)<;>cases decide (48<=x)<;>cases decide (x<=57)<;>cases decide (x=95)<;>cases decide (x=39)<;>rfl
theorem ads {s:List UInt8} {c:UInt8} {r:List UInt8} (h:s=c::r):mi s=ha c.toNat:=by rw [h];rfl
theorem qz (k:Int) (s:List UInt8) (aW:s.length<=17179869184) (aA:k=3\/k=4\/k=5) (h:ae):cv Tryz.prog 51 [.int .i64 k,.str s] h fun x aa=>x=.bool (dh k s)/\Ext h aa:=by
 refine Zk.z rfl (cr ?_);unfold c51;by_cases sP:s=[]
 . subst sP;simp +contextual only [↓ag,al,simprocAttr];exact ⟨rfl,Ext.refl _⟩
 obtain ⟨c,r,Bs⟩:=List.exists_cons_of_ne_nil sP;have c4:(s=([]:List UInt8))=False:=apx sP;have lR:s[0]? =some c:=by rw [Bs];rfl
 by_cases hlen:(64:Int) < (s.length:Int)
 . have aV:dh k s=false:=by
    unfold dh;rw [ap_ (show ¬s.length<=64 by omega)];simp
   have Jy:=apD hlen;simp +contextual only [c4,Jy,aV,↓ag,al,simprocAttr];exact Ext.refl _
 have Jy:=apx hlen;simp +contextual only [c4,Jy,↓ag,al,simprocAttr];refine eO (fun r aa=>aa=h/\r 0=.int .i64 k/\r 1=.str s/\∃i:Nat,r 5=.int .i64 i/\i<=s.length/\s.all fs=(s.drop i).all fs) (fun r aa=>s.length - (r 5).toN) ?_ ?_
 . exact ⟨rfl,by simp only [↓ag,al,simprocAttr],by simp only [↓ag,al,simprocAttr],0,by simp only [↓ag,al,simprocAttr]<;>rfl,by omega,rfl⟩
 . rintro R aa ⟨rfl,a1,a',i,bL,ax,bt⟩;unfold OD;by_cases aL:i<s.length
   . have g0:((i:Int) < (s.length:Int))=True:=apD (by omega);have g1:(0<=(i:Int))=True:=apD (by omega);rw [apW aL,aqT] at bt;have w:IntKind.i64.wrap ((i:Int)+1)=((i+1:Nat):Int):=by rw [wrap_i64 (by omega) (by omega)];rfl
     simp +contextual only [a1,a',bL,g0,g1,apo aL,apy,↓ag,al,simprocAttr];refine fZ (WR _ _) ?_;rw [show (nB (s[i].toNat:Int) 97 122||nB (s[i].toNat:Int) 65 90||nB (s[i].toNat:Int) 48 57||decide ((s[i].toNat:Int)=95)||decide ((s[i].toNat:Int)=39))=fs s[i] from ait _];cases ar:fs s[i] with
     | true=>
       simp +contextual only [a1,a',bL,w,↓ag,al,simprocAttr];exact ⟨⟨i+1,rfl,aL,by rw [bt,ar,aqm]⟩,by omega⟩
     | false=>
       have aV:dh k s=false:=by unfold dh;rw [bt,ar];simp
       simp +contextual only [aV,↓ag,al,simprocAttr];exact Ext.refl _
   . have g0:((i:Int) < (s.length:Int))=False:=apx (by omega);rw [aqf (by omega)] at bt;have dx:s.all fs=true:=by rw [bt];rfl
     have f1:((0:Int) < (s.length:Int))=True:=apD (by rw [Bs];simp only [apz];omega);have aV:dh k s=(if k=3 then (mi s||s.head? == some 95)&&!decide (s=[95])&&!pa s else if k=4 then A3 s else mi s):=by unfold dh;rw [dx,ap7 (show s.length<=64 by omega),ap7 (show s≠[] from sP)];simp
     rw [aV];have ah:(mi s||s.head? == some 95)=(ha c.toNat||decide (c=95)):=by rw [Bs];show (ha c.toNat||(some c == some 95))=_;congr 1
     have aeL:mi s=ha c.toNat:=ads Bs;have adK:A3 s=m_ c.toNat:=by rw [Bs];rfl
     rw [ah];have hu:((c.toNat:Int)=95)=(c=95):=xe c 95 (by omega);rcases aA with rfl | rfl | rfl
     . simp +contextual only [a1,a',bL,g0,f1,lR,arn,ap0,↓ag,al,simprocAttr];refine fZ (zF _ _ _ _) ?_;rw [show nB (c.toNat:Int) 97 122=ha (c.toNat:Int) from rfl];cases qe:ha (c.toNat:Int) with
       | false=>
         by_cases Q8:c=95
         . have pU:=apD Q8;by_cases U:s=[95]
           . have fv:=apD U;simp +contextual only [a1,a',qe,hu,pU,fv,f1,lR,arn,↓ag,al,simprocAttr];exact Ext.refl _
           . have fv:=apx U;simp +contextual only [a1,a',qe,hu,pU,fv,f1,lR,arn,↓ag,al,simprocAttr];refine bS (SK _) ?_;rintro x U ⟨rfl,rfl⟩;simp +contextual only [a1,a',qe,hu,pU,fv,f1,lR,↓ag,al,simprocAttr];refine fZ (Kg s uH _ 20 _ (by decide) (by rw [nU])) ?_;have EH:uH.contains s=pa s:=rfl;rw [EH];simp +contextual only [a1,a',qe,hu,pU,fv,↓ag,al,simprocAttr];exact (Ext.refl _).new _
         . have pU:=apx Q8;simp +contextual only [a1,a',qe,hu,pU,f1,lR,arn,↓ag,al,simprocAttr];exact Ext.refl _
       | true=>
         have pU:True=True:=rfl;by_cases U:s=[95]
         . have fv:=apD U;simp +contextual only [a1,a',qe,hu,pU,fv,f1,lR,arn,↓ag,al,simprocAttr];exact Ext.refl _
         . have fv:=apx U;simp +contextual only [a1,a',qe,hu,pU,fv,f1,lR,arn,↓ag,al,simprocAttr];refine bS (SK _) ?_;rintro x U ⟨rfl,rfl⟩;simp +contextual only [a1,a',qe,hu,pU,fv,f1,lR,↓ag,al,simprocAttr];refine fZ (Kg s uH _ 20 _ (by decide) (by rw [nU])) ?_;have EH:uH.contains s=pa s:=rfl;rw [EH];simp +contextual only [a1,a',qe,hu,pU,fv,↓ag,al,simprocAttr];exact (Ext.refl _).new _
     . simp +contextual only [a1,a',bL,g0,f1,lR,arn,ap0,ap2,↓ag,al,simprocAttr];refine fZ (zF _ _ _ _) ?_;rw [adK];simp +contextual only [↓ag,al,simprocAttr];exact ⟨rfl,Ext.refl _⟩
     . simp +contextual only [a1,a',bL,g0,f1,lR,arn,ap0,ap2,↓ag,al,simprocAttr];refine fZ (zF _ _ _ _) ?_;rw [aeL];simp +contextual only [↓ag,al,simprocAttr];exact ⟨rfl,Ext.refl _⟩
theorem XT {s:List UInt8} (h:∀c ∈ s,c.toNat<128):u3 s=s.length:=by
 have au:∀a,a<s.length->fc s a=1:=by
  intro a bw;have aH:decodeL s a=((s[a]).toNat,1):=by unfold decodeL;rw [Lib.decode_at];simp only [QT,apo bw,aqe];unfold Lib.decodeN;rw [apB (h _ (apV bw))]
  unfold fc;rw [aH,apu (by have:=h _ (apV bw);simp only [aqw,arG];omega)]
 have:∀n a,s.length-a=n->a<=s.length->rS s a=s.length:=by
  intro n
  induction n with
  | zero=>intro a U ab;exact U7 (by omega)
  | succ n bh=>
    intro a U ab;have aL:a<s.length:=by omega
    rw [LH aL (by rw [au a aL];decide),au a aL];exact bh _ (by omega) (by omega)
 exact this s.length 0 (by omega) (by omega)
theorem aiv {s:List UInt8} (h:∀c ∈ s,c.toNat<128):lu s=if 65536<s.length then .error (3,0) else rE s 0:=by unfold lu;rw [XT h,apu (aqP _)]
theorem aiK {c:UInt8} (h:fs c=true):blank c=false/\c≠40:=by
 constructor
 . cases ah:blank c with
   | false=>rfl
   | true=>
     unfold blank at ah;simp only [aqS,apE] at ah;rcases ah with ((rfl | rfl) | rfl) | rfl<;>exact absurd h (by decide)
 . rintro rfl;exact absurd h (by decide)
theorem ajl {c:UInt8} (h:c≠40) (r:List UInt8):([40,42]:List UInt8).isPrefixOf (c::r)=false:=by
 have:((40:UInt8) == c)=false:=by rw [aqK];exact fun q=>h q.symm
 simp [List.isPrefixOf,this]
theorem VA {c:UInt8} (h:ha c.toNat=true):fq c=false/\c≠34:=by unfold ha at h;simp only [apn,apE] at h;refine ⟨?_,by rintro rfl;exact absurd h (by decide)⟩;unfold fq mW;simp only [aqW,aqz];omega
theorem acA {c:UInt8} (h:m_ c.toNat=true):fq c=false/\c≠34/\ha c.toNat=false/\c≠95:=by
 unfold m_ at h;simp only [apn,apE] at h;refine ⟨?_,by rintro rfl;exact absurd h (by decide),?_,by rintro rfl;exact absurd h (by decide)⟩
 . unfold fq mW;simp only [aqW,aqz];omega
 . unfold ha;simp only [aqW,aqz];omega
theorem KO {k:Int} {s:List UInt8} (h:dh k s=true):s≠[]/\s.length<=64/\s.all fs=true/\(if k=3 then (mi s||s.head? == some 95)&&!decide (s=[95])&&!pa s else if k=4 then A3 s else mi s)=true:=by unfold dh at h;rw [apn,apn,apn,apE,apE] at h;exact ⟨h.1.1.1,h.1.1.2,h.1.2,h.2⟩
theorem aji {c:UInt8} {t:List UInt8} (h:ha c.toNat=true\/c=95):gG (c::t)=kk 3 (c::t):=by
 have aH:fq c=false:=h.elim (fun q=>(VA q).1) (fun q=>by rw [q];decide);have acK:c≠34:=h.elim (fun q=>(VA q).2) (fun q=>by rw [q];decide);have aW:(ha c.toNat||decide (c=95))=true:=by simpa using h
 simp only [gG,aH,aW,apu acK,apG,ap2,ap0]
theorem XS {c:UInt8} (h:fs c=true):c.toNat<128:=by unfold fs uK mW ha m_ at h;simp only [aqS,apn,apE] at h;omega
theorem VX {p:UInt8->Bool}:∀s:List UInt8,s.all p=true->s.takeWhile p=s
 | [],_=>rfl
 | c::s,h=>by rw [aqT,apn] at h;rw [aqV,h.1,apB rfl,VX s h.2]
theorem M6 (p:UInt8->Bool):∀s:List UInt8,(s.takeWhile p).all p=true
 | []=>rfl
 | c::s=>by
   rw [aqV]
   split
   . rename_i h;rw [aqT,h,M6 p s];rfl
   . rfl
theorem KN {k:Int} {c:UInt8} {r:List UInt8} {q:Int × Int × List UInt8 × Nat} (aA:(k=3/\(ha c.toNat=true\/c=95))\/(k=4/\m_ c.toNat=true)\/(k=5/\ha c.toNat=true)) (h:kk k (c::r)=.ok q) (aq:q.1=3\/q.1=4\/q.1=5):
 q.1=k/\dh k q.2.2.1=true:=by
 have ar:fs c=true:=by
  rcases aA with ⟨_,q | q⟩ | ⟨_,q⟩ | ⟨_,q⟩
  . exact LP q
  . exact V2 q
  . exact QY q
  . exact LP q
 have aE:(c::r).takeWhile fs=c::r.takeWhile fs:=by rw [aqV,apB ar]
 have bw:=M6 fs (c::r);rw [aE] at bw;unfold kk at h;simp only [aE] at h;generalize r.takeWhile fs=t at *
 split at h
 . cases h;simp at aq
 . rename_i aet
   split at h
   . cases h;simp at aq
   . rename_i n5
     split at h
     . cases h
     . rename_i hlen;cases h;refine ⟨rfl,?_⟩;have iQ:(if k=3 then (mi (c::t)||(c::t).head? == some 95)&&!decide (c::t=[95])&&!pa (c::t) else if k=4 then A3 (c::t) else mi (c::t))=true:=by
        rcases aA with ⟨rfl,z⟩ | ⟨rfl,z⟩ | ⟨rfl,z⟩
        . rw [apB rfl];have U:(mi (c::t)||(c::t).head? == some 95)=true:=by
           rcases z with z | z
           . show (ha c.toNat||_)=true;rw [z];rfl
           . subst z;simp
          rw [U,ap_ (fun z=>aet ⟨rfl,z⟩),Bool.eq_false_iff.2 (fun z=>n5 ⟨rfl,z⟩)];rfl
        . exact z
        . exact z
       show dh k (c::t)=true;unfold dh;rw [iQ,bw,ap7 (show c::t≠[] by simp),ap7 (show (c::t).length<=64 by omega)];rfl
theorem ajd {r:List UInt8} {q:Int × Int × List UInt8 × Nat} (h:gG r=.ok q) (aq:q.1=3\/q.1=4\/q.1=5):dh q.1 q.2.2.1=true:=by
 match r,h with
 | c::r,h=>
   simp only [gG] at h
   split at h
   . unfold y8 at h;simp only at h
     split at h
     . cases h
     . cases h;simp at aq
   . split at h
     . unfold tq at h
       split at h
       . cases h
       . split at h
         . cases h
         . cases h;simp at aq
     . split at h
       . rename_i aW;have:=KN (.inl ⟨rfl,by simpa using aW⟩) h aq;rw [this.1];exact this.2
       . split at h
         . rename_i aW;have:=KN (.inr (.inl ⟨rfl,aW⟩)) h aq;rw [this.1];exact this.2
         . split at h
           . rename_i aW;cases aV:kk 5 r with
             | error e=>rw [aV] at h;cases h
             | ok fk=>
               rw [aV] at h;cases h;obtain ⟨d,t,rfl⟩:∃d t,r=d::t:=by
                cases r with
                | nil=>simp [mi] at aW
                | cons d t=>exact ⟨d,t,rfl⟩
               have:=KN (.inr (.inr ⟨rfl,aW.2⟩)) aV aq;show dh fk.1 fk.2.2.1=true;rw [this.1];exact this.2
           . unfold zr at h
             split at h
             . cases h;simp at aq
             . cases h
theorem BS:∀(f:Nat) (r:List UInt8) (p:Nat) (ws:List cc),nk f r p=.ok ws->∀w ∈ ws,w.kind=3\/w.kind=4\/w.kind=5->dh w.kind w.text=true
 | 0,r,p,ws,h,w,hw,_=>by simp only [nk,Except.ok.injEq] at h;subst h;cases hw
 | f+1,[],p,ws,h,w,hw,_=>by simp only [nk,Except.ok.injEq] at h;subst h;cases hw
 | f+1,c::r,p,ws,h,w,hw,aA=>by
   simp only [nk] at h
   split at h
   . exact BS f _ _ ws h w hw aA
   . split at h
     . split at h
       . cases h
       . exact BS f _ _ ws h w hw aA
     . split at h
       . cases h
       . rename_i q aV;cases aD:nk f ((c::r).drop q.2.2.2) (p+q.2.2.2) with
         | error av=>rw [aD] at h;cases h
         | ok bH=>
           rw [aD] at h;simp only [AG,Except.ok.injEq] at h;subst h;rcases apI.1 hw with rfl | hw
           . exact ajd aV aA
           . exact BS f _ _ bH aD w hw aA
theorem ak5 {k:Int} {s:List UInt8} (aA:k=3\/k=4\/k=5) (h:dh k s=true):lu (if k=5 then 39::s else s)=.ok [⟨k,0,0,s⟩]:=by
 obtain ⟨g1,g2,g3,g4⟩:=KO h;obtain ⟨c,t,rfl⟩:=List.exists_cons_of_ne_nil g1;have ac':∀d ∈ (if k=5 then 39::c::t else c::t),d.toNat<128:=by
  intro d aH;have U:∀d ∈ c::t,d.toNat<128:=fun d aH=>XS (apP.1 g3 d aH)
  split at aH
  . rcases apI.1 aH with rfl | aH
    . decide
    . exact U d aH
  . exact U d aH
 rw [aiv ac',apu (by split<;>simp only [apz] at g2 ⊢<;>omega)];have ar:fs c=true:=by rw [aqT,apn] at g3;exact g3.1
 obtain ⟨bR,b7⟩:=aiK ar;have rd:∀j:Int,(j=3->c::t≠[95]/\pa (c::t)=false)->kk j (c::t)=.ok (j,0,c::t,(c::t).length):=by intro j bC;unfold kk;simp only [VX _ g3];rw [apu (fun q=>(bC q.1).1 q.2),apu (fun q=>by rw [(bC q.1).2] at q;simp at q),apu (by omega)]
 have fin:∀(d:UInt8) (u:List UInt8) (q:Int × Int × List UInt8 × Nat),blank d=false->d≠40->gG (d::u)=.ok q->q.2.2.2=(d::u).length->rE (d::u) 0=.ok [⟨q.1,q.2.1,0,q.2.2.1⟩]:=by intro d u q av aK bF bZ;rw [Td,av,apu aqR,ajl aK,apu aqR,bF];simp only [bZ,arw];rfl
 rcases aA with rfl | rfl | rfl
 . rw [apu (by decide)];rw [apB rfl] at g4;simp only [apn,aqs,aqz,aqS,aq0] at g4;have a7:ha c.toNat=true\/c=95:=g4.1.1.imp id (fun q=>aqF q);exact fin c t _ bR b7 (by rw [aji a7];exact rd 3 (fun _=>⟨g4.1.2,g4.2⟩)) rfl
 . rw [apu (by decide)];rw [apu (by decide),apB rfl] at g4;have aG:m_ c.toNat=true:=g4;obtain ⟨cL,fi,n3,n4⟩:=acA aG;refine fin c t (4,0,c::t,(c::t).length) bR b7 ?_ rfl;simp only [gG,cL,n3,aG,apu fi,apG,ap2,ap0,ars,apE,apu n4];exact rd 4 (fun q=>absurd q (by decide))
 . rw [apB rfl];rw [apu (by decide),apu (by decide)] at g4;refine fin 39 (c::t) (5,0,c::t,(c::t).length+1) (by decide) (by decide) ?_ rfl;simp only [gG];rw [apu (by decide),apu (by decide),apu (by decide),apu (by decide),apB ⟨trivial,g4⟩,rd 5 (fun q=>absurd q (by decide))];rfl
def tw (k:Int) (s:List UInt8):Bool:=decide (s.length<=64)&&decide (s≠[])&&(match lu (if k=5 then 39::s else s) with
 | .ok [w]=>decide (w.kind=k)&&decide (w.pos=0)&&decide (w.text≠[])&&decide ((if k=5 then 39::s else s)=(if w.kind=5 then 39::w.text else w.text))
 | _=>false)
theorem ank {k:Int} (aA:k=3\/k=4\/k=5) (s:List UInt8):tw k s=dh k s:=by
 rw [aqg];refine ⟨fun h=>?_,fun h=>?_⟩
 . unfold tw at h;simp only [apn,apE] at h;obtain ⟨_,aI⟩:=h
   split at aI
   . rename_i w hw;simp only [apn,apE] at aI;obtain ⟨⟨⟨av,_⟩,_⟩,bZ⟩:=aI;subst av;have aV:dh w.kind w.text=true:=by
      generalize (if w.kind=5 then 39::s else s)=z at hw;unfold lu at hw
      split at hw
      . cases hw
      . split at hw
        . cases hw
        . exact BS _ _ _ _ hw w (by simp) aA
     have:s=w.text:=by
      split at bZ
      . exact (List.cons.inj bZ).2
      . exact bZ
     rw [this];exact aV
   . cases aI
 . obtain ⟨g1,g2,_,_⟩:=KO h;unfold tw;rw [ak5 aA h];simp [g1,g2]
theorem aaT (t:aM):t.deep=kY t.l+1:=by cases t;simp only [aM.deep,aM.l]
theorem size_eq (t:aM):t.size=1+cj t.l:=by cases t;simp only [aM.size,aM.l]
theorem Ul:∀l m:List aM,kY (l++m)=max (kY l) (kY m)
 | [],m=>by simp [kY]
 | t::l,m=>by rw [ap3,kY,kY,Ul l m,Nat.max_assoc]
theorem Cn:∀l m:List aM,cj (l++m)=cj l+cj m
 | [],m=>by simp [cj]
 | t::l,m=>by rw [ap3,cj,cj,Cn l m,aqD]
theorem take_one {l:List aM} {i:Nat} (h:i<l.length):l.take (i+1)=l.take i++[l[i]]:=by rw [aqh h]
theorem akx {l:List aM} {i:Nat} (h:i<l.length):kY (l.take (i+1))=max (kY (l.take i)) l[i].deep:=by rw [take_one h,Ul,kY,kY,Nat.max_zero]
theorem FN {l:List aM} {i:Nat} (h:i<l.length):cj (l.take (i+1))=cj (l.take i)+l[i].size:=by rw [take_one h,Cn,cj,cj,aqH]
mutual
theorem aaU:∀t:aM,t.deep<=t.size
 | .mk k n a s l=>by rw [aM.deep,aM.size];have:=Lf l;omega
theorem Lf:∀l:List aM,kY l<=cj l
 | []=>aps _
 | t::l=>by rw [kY,cj];have:=aaU t;have:=Lf l;omega
end
theorem Co (l:List aM) (i:Nat):cj (l.take i)<=cj l:=by have:=Cn (l.take i) (l.drop i);rw [aqN] at this;omega
theorem aiR (a b:Nat):(if (a:Int) < (b:Int) then (b:Int) else (a:Int))=((max a b:Nat):Int):=by
 by_cases h:(a:Int) < (b:Int)
 . rw [apB h,Nat.max_eq_right (by omega)]
 . rw [apu h,Nat.max_eq_left (by omega)]
theorem PT:∀(N:Nat) (t:aM),t.size<=N->N<=1000000000->∀(af:List V) (h:ae),b6 Any h t.enc af->cv Tryz.prog 98 [.agg af] h fun x aa=>x=.int .i64 (t.deep:Nat)/\Ext h aa
 | 0,t,aW,_,_,_,_=>by have:=oi t;omega
 | N+1,t,aW,Rc,af,h,H=>by
   obtain ⟨ca,rfl,L,_⟩:=aM.open H;have bK:N<=1000000000:=by omega
   have ol:=L.one;have ar:=L.len;have hle:=L.le;rw [apv] at ar hle;refine ZN.z rfl (cr ?_);unfold Pq;obtain ⟨U,aj,av,b9⟩:=fE h [.int .i64 t.k,.int .i64 t.n,.int .i64 t.a,.str t.s,ca];simp +contextual only [ol.1,ol.2.1,aj,b9.g,ar,↓ag,al,simprocAttr];refine eO (fun r g=>r 1=.ptr (aC h.next) 0/\r 7=ca/\r 8=.int .i64 t.l.length/\∃i:Nat,r 3=.int .i64 (kY (t.l.take i):Nat)/\r 9=.int .i64 i/\i<=t.l.length/\Ext U g) (fun r g=>t.l.length - (r 9).toN) ?_ ?_
   . exact ⟨by simp only [↓ag,bz,simprocAttr],by simp only [↓ag,bz,simprocAttr],by simp only [↓ag,bz,simprocAttr],0,by simp only [↓ag,bz,simprocAttr]<;>rfl,by simp only [↓ag,bz,simprocAttr]<;>rfl,by omega,Ext.refl U⟩
   rintro r g ⟨a',dN,dk,i,b3,LI,ax,E⟩;unfold Pr;have A:=b9.ext E;have nJ:=L.ext (av.trans E);have kF:=Co t.l i;have pY:=Lf (t.l.take i);have aoj:=size_eq t;by_cases aL:i<t.l.length
   . have g0:((i:Int) < (t.l.length:Int))=True:=apD (by omega);obtain ⟨b,off,wl,bW,X,dK,ld⟩:=aM.lV nJ (k:=.i64) aL;have jg:=ld g (Ext.refl g);have lz:=dK.one;have db:=fW aL (by unfold top at hle;omega);have cn:=uY (t:=t) (apV aL);obtain ⟨g1,eR,bB,B⟩:=hA g [.int .i64 0,.int .i64 0,.int .i64 0,.str [],.bu] [.int .i64 t.l[i].k,.int .i64 t.l[i].n,.int .i64 t.l[i].a,.str t.l[i].s,wl];simp +contextual only [a',b3,dN,dk,LI,g0,bW,jg,eR,B.g,lz.1,lz.2.1,↓ag,al,simprocAttr];refine bS (PT N t.l[i] (by omega) bK _ g1 (X.ext bB)) ?_;rintro x g2 ⟨rfl,aK⟩;have bF:=bB.trans aK;have hm:=aiR (kY (t.l.take i)) t.l[i].deep;rw [<-akx aL] at hm;simp +contextual only [a',b3,dN,dk,LI,db,TD,hm,↓ag,al,simprocAttr];exact ⟨⟨i+1,rfl,rfl,aL,E.trans bF⟩,by omega⟩
   . have g0:((i:Int) < (t.l.length:Int))=False:=apx (by omega);rw [apZ (by omega)] at b3 pY kF;have wd:IntKind.i64.wrap ((kY t.l:Int)+1)=((t.deep:Nat):Int):=by rw [aaT,wrap_i64 (by omega) (by omega)];rfl
     simp +contextual only [a',b3,dN,dk,LI,g0,wd,↓ag,al,simprocAttr];exact av.trans E
structure ia where
 first:List Int:=[]
 rest:Int:=0
 least:Int:=0
 kU:Int:=0
 last:List Int:=[]
 br:Int:=0
 ax:Int:=0
 s:Int:=0
def ia.enc (r:ia):List D:=[.l 1 (r.first.map aZ.gA),.i .i64 r.rest,.i .i64 r.least,.i .i64 r.kU,.l 1 (r.last.map aZ.gA),.i .i64 r.br,.i .i64 r.ax,.i .i64 r.s]
def tj:List (Int × ia):=
 [(1,{s:=3}),(2,{s:=1,rest:=1,kU:=64}),(3,{first:=[1,1]}),(4,{first:=[1,1]}),
  (10,{}),(13,{}),(11,{s:=1}),(12,{br:=-1073741824,ax:=1073741823}),(14,{ax:=1}),(15,{first:=[2,2]}),(16,{s:=2,rest:=2,kU:=1}),
  (20,{br:=-1073741824,ax:=1073741823}),(21,{s:=4}),(22,{}),(23,{ax:=1}),(24,{s:=1}),(25,{s:=2,rest:=3,kU:=1}),(26,{first:=[3,3]}),(28,{first:=[3,3]}),(35,{first:=[3,3]}),(37,{first:=[3,3]}),
  (38,{s:=5,first:=[3,3]}),(34,{first:=[3]}),(36,{first:=[3]}),(39,{first:=[3]}),(31,{first:=[3,3,3]}),(27,{first:=[2,3]}),(29,{first:=[2,3,3]}),
  (30,{rest:=5,least:=1,kU:=1073741824,last:=[3]}),(32,{first:=[3],rest:=4,least:=1,kU:=1073741824}),(33,{first:=[3],rest:=4,least:=1,kU:=1073741824}),
  (45,{first:=[2,3]}),(46,{s:=1,first:=[9]}),(47,{s:=2,rest:=1,kU:=1}),(51,{s:=2,rest:=1,kU:=1}),(52,{first:=[2,3]}),(53,{rest:=5,least:=1,kU:=1073741824}),
  (50,{s:=1,ax:=64,rest:=6,least:=1,kU:=1073741824})]
def Ga:List (Int × List D):=tj.map fun x=>(x.1,x.2.enc)
set_option maxRecDepth 100000 in
theorem alB:FC ctx 100000 95 (fun au v=>FB au 1000 Ga v)=true:=by kernel_rfl
theorem alA (h:ae):cv Tryz.prog 95 [] h fun x aa=>Ext h aa/\oB (hU h) aa Ga x:=
 aai (C:=ctx) follows y2 Ln (by kernel_rfl) (by kernel_rfl) ⟨_,Tryz.func95,by kernel_rfl⟩ alB h
def fG (k:Int):Int:=if 1<=k/\k<=4 then 1 else if 10<=k/\k<=16 then 2 else if 20<=k/\k<=39 then 3 else if k=45 then 4 else if k=46 then 5 else if k=47 then 6 else if 50<=k/\k<=53 then 7 else 0
theorem S6 {a b:Int} (h:a<=b):(a<=b)=True:=apD h
theorem S5 {a b:Int} (h:b<a):(a<=b)=False:=apx (by omega)
theorem x' {a b:Int} (h:b<=a):(a>=b)=True:=apD h
theorem AR {a b:Int} (h:a<b):(a>=b)=False:=apx (by omega)
theorem Sp {a b:Int} (h:a=b):(a=b)=True:=apD h
theorem So {a b:Int} (h:a<b\/b<a):(a=b)=False:=apx (by omega)
theorem Q0 (k:Int) (h:ae):cv Tryz.prog 96 [.int .i64 k] h fun x aa=>x=.int .i64 (fG k)/\aa=h:=by
 refine ZL.z rfl (cr ?_);unfold Pn fG;have ak:k<1\/(1<=k/\k<=4)\/(5<=k/\k<=9)\/(10<=k/\k<=16)\/(17<=k/\k<=19)\/(20<=k/\k<=39)\/(40<=k/\k<=44)\/k=45\/k=46\/k=47\/(48<=k/\k<=49)\/(50<=k/\k<=53)\/54<=k:=by omega
 rcases ak with q | q | q | q | q | q | q | q | q | q | q | q | q<;>simp +contextual (disch:=omega) only [S6,S5,x',AR,Sp,So,arG,arL,ari,arH,ap0,ap2,↓ag,al,simprocAttr]<;>trivial
theorem U6 (k:Int) (h:ae):cv Tryz.prog 66 [.int .i64 k] h fun x aa=>x=.int .i64 (fG k)/\aa=h:=by
 refine Zs.z rfl (cr ?_);unfold OV fG;have ak:k<1\/(1<=k/\k<=4)\/(5<=k/\k<=9)\/(10<=k/\k<=16)\/(17<=k/\k<=19)\/(20<=k/\k<=39)\/(40<=k/\k<=44)\/k=45\/k=46\/k=47\/(48<=k/\k<=49)\/(50<=k/\k<=53)\/54<=k:=by omega
 rcases ak with q | q | q | q | q | q | q | q | q | q | q | q | q<;>simp +contextual (disch:=omega) only [S6,S5,x',AR,Sp,So,arG,arL,ari,arH,ap0,ap2,↓ag,al,simprocAttr]<;>trivial
def uC (k g:Int):Bool:=if g=8 then decide (k=1) else if g=9 then decide (k=27) else decide (fG k=g)
theorem afB (t:aM) (g:Int) (af:List V) (h:ae) (H:b6 Any h t.enc af):cv Tryz.prog 103 [.agg af,.int .i64 g] h fun x aa=>x=.bool (uC t.k g)/\Ext h aa:=by
 obtain ⟨ca,rfl,L,_⟩:=aM.open H;have ol:=L.one;refine YD.z rfl (cr ?_);unfold NH uC;obtain ⟨U,aj,av,b9⟩:=fE h [.int .i64 t.k,.int .i64 t.n,.int .i64 t.a,.str t.s,ca];by_cases a:g=8
 . simp +contextual only [ol.1,ol.2.1,aj,b9.g,apD a,ap0,↓ag,al,simprocAttr];exact av
 . by_cases b:g=9
   . simp +contextual only [ol.1,ol.2.1,aj,b9.g,apx a,apD b,ap0,ap2,↓ag,al,simprocAttr];exact av
   . simp +contextual only [ol.1,ol.2.1,aj,b9.g,apx a,apx b,ap2,↓ag,al,simprocAttr];refine bS (Q0 t.k U) ?_;rintro x ab ⟨rfl,rfl⟩;simp +contextual only [↓ag,al,simprocAttr];exact av
def zo (k:Int):List (Int × ia)->Option ia
 | []=>none
 | (n,r)::l=>if k=n then some r else zo k l
def pq (k:Int):Option ia:=zo k tj
theorem QD (k:Int):∀l:List (Int × ia),np k (l.map fun x=>(x.1,x.2.enc))=(zo k l).map ia.enc
 | []=>rfl
 | (n,r)::l=>by
   simp only [aqt,np,zo]
   split
   . rfl
   . exact QD k l
theorem abN (k:Int):np k Ga=(pq k).map ia.enc:=QD k tj
def opsL:List (List UInt8):=[[43],[45],[42],[47],[109,111,100],[61],[60],[60,61]]
section
variable (named:Int->List UInt8->Bool)
def zA (n2:Int) (s:List UInt8):Bool:=
 if n2=1 then named 3 s else if n2=2 then named 4 s else if n2=3 then named 5 s else if n2=4 then decide (s.length<=4096) else if n2=5 then opsL.contains s else decide (s=[])
def firstM (r:ia) (k n:Int):List Int:=if k=50 then List.replicate n.toNat 8 else r.first
def gU (r:ia) (k n:Int) (len:Nat):Int:=(len:Int) - (firstM r k n).length-r.last.length
def nV (r:ia) (k n:Int) (len:Nat):List Int:=firstM r k n++List.replicate (gU r k n len).toNat r.rest++r.last
def A4 (r:ia) (k n a:Int) (s:List UInt8):Bool:=
 decide (r.br<=n)&&decide (n<=r.ax)&&decide (0<=a)&&decide (a<=65536)&&zA named r.s s
def kR (r:ia) (k n:Int) (len:Nat):Bool:=decide (r.least<=gU r k n len)&&decide (gU r k n len<=r.kU)
mutual
def aM.may:aM->Bool
 | .mk k n a s l=>match pq k with
   | none=>false
   | some r=>A4 named r k n a s&&kR r k n l.length&&nu (nV r k n l.length) l
def nu:List Int->List aM->Bool
 | _,[]=>true
 | [],_::_=>true
 | g::gs,t::l=>uC t.k g&&t.may&&nu gs l
end
def qB (k:Int) (s:List UInt8):Bool:=
 if k=1 then named 5 s else if k=2\/k=11\/k=24\/k=46\/k=50 then named 3 s else if k=16\/k=25\/k=47\/k=51 then named 4 s else
 if k=21 then decide (s.length<=4096) else if k=38 then opsL.contains s else decide (s=[])
def hv (k n:Int) (len:Nat):Bool:=
 if k=12\/k=20 then decide (-1073741824<=n)&&decide (n<=1073741823) else if k=14\/k=23 then decide (n=0)||decide (n=1) else
 if k=50 then decide (0<=n)&&decide (n<=64)&&decide (n < (len:Int)) else decide (n=0)
def IF:List aM->Bool
 | t::_=>decide (t.k=27)
 | []=>false
def di (k n:Int) (l:List aM):List Int × Bool:=
 let len:=l.length
 if k=2 then (List.replicate len 1,decide (len<=64))
 else if k=3\/k=4 then (List.replicate 2 1,decide (len=2))
 else if k=15 then (List.replicate 2 2,decide (len=2))
 else if k=16 then (List.replicate len 2,decide (len<=1))
 else if k=25 then (List.replicate len 3,decide (len<=1))
 else if k=26\/k=28\/k=35\/k=37\/k=38 then (List.replicate 2 3,decide (len=2))
 else if k=34\/k=36\/k=39 then (List.replicate 1 3,decide (len=1))
 else if k=31 then (List.replicate 3 3,decide (len=3))
 else if k=27\/k=45\/k=52 then ([2,3],decide (len=2))
 else if k=29 then ([2,3,3],decide (len=3))
 else if k=30 then (List.replicate (len-1) 5++[3],decide (2<=len))
 else if k=32\/k=33 then ([3]++List.replicate (len-1) 4,decide (2<=len))
 else if k=46 then (List.replicate 1 3,decide (len=1)&&IF l)
 else if k=47\/k=51 then (List.replicate len 1,decide (len<=1))
 else if k=50 then (List.replicate n.toNat 8++List.replicate (len-n.toNat) 6,true)
 else if k=53 then (List.replicate len 5,decide (1<=len))
 else ([],decide (len=0))
def po (k g:Int):Bool:=if g=8 then decide (k=1) else decide (fG k=g)
mutual
def aM.j0:aM->Bool
 | .mk k n a s l=>decide (fG k≠0)&&qB named k s&&hv k n l.length&&decide (0<=a)&&decide (a<=65536)&&(di k n l).2&&ko (di k n l).1 l
def ko:List Int->List aM->Bool
 | _,[]=>true
 | [],_::_=>true
 | g::gs,t::l=>po t.k g&&t.j0&&ko gs l
end
end
theorem F_ {k:Int} {r:ia}:∀{l:List (Int × ia)},zo k l=some r->(k,r) ∈ l
 | [],h=>by cases h
 | (n,q)::l,h=>by
   simp only [zo] at h
   split at h
   . cases h;rename_i e;subst e;simp
   . exact ap6 _ (F_ h)
theorem Ve {k:Int} (h:pq k=none):fG k=0:=by
 by_cases aA:1<=k/\k<=53
 . obtain ⟨n,rfl⟩:=Int.eq_ofNat_of_zero_le (show 0<=k by omega);have key:∀n<54,(pq ((n:Nat):Int)).isNone=true->fG ((n:Nat):Int)=0:=by decide
   exact key n (by omega) (by rw [h];rfl)
 . unfold fG;rw [apu (by omega),apu (by omega),apu (by omega),apu (by omega),apu (by omega),apu (by omega),apu (by omega)]
section
variable {named:Int->List UInt8->Bool}
theorem alh {k g:Int} (h:g≠9):po k g=uC k g:=by
 unfold po uC;by_cases uf:g=8
 . rw [apB uf,apB uf]
 . rw [apu uf,apu uf,apu h]
theorem Ur:∀{gs:List Int} {l:List aM},(∀t ∈ l,t.j0 named=t.may named)->(∀g ∈ gs,g≠9)->ko named gs l=nu named gs l
 | [],[],_,_=>by rw [ko,nu]
 | g::gs,[],_,_=>by rw [ko,nu]
 | [],t::l,_,_=>by rw [ko,nu]
 | g::gs,t::l,h,aG=>by rw [ko,nu,h t (by simp),alh (aG g (by simp)),Ur (fun t aE=>h t (by simp [aE])) (fun g h=>aG g (by simp [h]))]
theorem aiS {k n a:Int} {s:List UInt8} {l:List aM} {r:ia} (aA:fG k≠0) (aY:∀t ∈ l,t.j0 named=t.may named) (aD:pq k=some r)
 (U:qB named k s=zA named r.s s) (ab:(hv k n l.length&&(di k n l).2)=(decide (r.br<=n)&&decide (n<=r.ax)&&kR r k n l.length))
 (aI:kR r k n l.length=true->r.br<=n->(di k n l).1=nV r k n l.length) (IS:∀g ∈ nV r k n l.length,g≠9):(aM.mk k n a s l).j0 named=(aM.mk k n a s l).may named:=by
 rw [aM.j0,aM.may,aD];simp only;unfold A4;rw [ap7 aA,aqm,U];cases cX:kR r k n l.length with
 | false=>
   rw [cX,aqG] at ab;simp only [aqG];have:(hv k n l.length&&(di k n l).2)=false:=ab;rw [aqW] at this;rcases this with q | q<;>rw [q]<;>simp
 | true=>
   rw [cX,aqn] at ab;by_cases dZ:r.br<=n
   . rw [aI cX dZ,Ur aY IS];have:∀x y z w u v:Bool,(x&&y&&z&&w&&u&&v)=(x&&(y&&u)&&z&&w&&v):=by decide
     rw [this,ab];simp only [aqn];have:∀x y z w u v:Bool,(x&&(y&&z)&&w&&u&&v)=(y&&z&&w&&u&&x&&v):=by decide
     rw [this]
   . rw [ap_ dZ,aqd] at ab;rw [ap_ dZ];simp only [aqd];rw [aqW] at ab;rcases ab with q | q<;>rw [q]<;>simp
theorem uO:∀(N:Nat) (t:aM),t.size<=N->N<=1000000000->t.j0 named=t.may named
 | 0,t,aW,_=>by have:=oi t;omega
 | N+1,.mk k n a s l,aW,bK=>by
   have hj:l.length<=1000000000:=by have:=mI l;simp only [aM.size] at aW;omega
   have aY:∀t ∈ l,t.j0 named=t.may named:=fun t aE=>uO N t (by have:=uY (t:=.mk k n a s l) (u:=t) aE;omega) (by omega);cases aD:pq k with
   | none=>
     rw [aM.j0,aM.may,aD,Ve aD];simp
   | some r=>
     have hm:=F_ (l:=tj) aD;by_cases Q7:k=46
     . subst Q7;have:r={s:=1,first:=[9]}:=by
        have:pq 46=some {s:=1,first:=[9]}:=by rfl
        rw [aD] at this;exact aqF this
       subst this;rw [aM.j0,aM.may,aD];simp only;have av:qB named 46 s=zA named 1 s:=by rfl
       have aK:hv 46 n l.length=(decide (0<=n)&&decide (n<=0)):=by rw [aqg];simp [hv];omega
       unfold A4;rw [av,aK,ap7 (show fG 46≠0 by decide)]
       match l,aY with
       | [],_=>simp [di,kR,gU,firstM]
       | [t],aY=>
         have aG:nV {s:=1,first:=[9]} 46 n [t].length=[9]:=by simp [nV,firstM,gU]
         have wq:di 46 n [t]=([3],decide (t.k=27)):=by simp [di,IF]
         rw [aG,wq,ko,nu,ko,nu,aY t (by simp)];have cX:kR {s:=1,first:=[9]} 46 n [t].length=true:=by simp [kR,gU,firstM]
         rw [cX];have ax:uC t.k 9=decide (t.k=27):=by simp [uC]
         rw [ax];by_cases IN:t.k=27
         . rw [ap7 IN];have:po t.k 3=true:=by rw [IN];decide
           rw [this];have:∀x y z w u v:Bool,(true&&x&&(y&&z)&&w&&u&&true&&(true&&v&&true))=(y&&z&&w&&u&&x&&true&&(true&&v&&true)):=by decide
           apply this
         . rw [ap_ IN];simp
       | t::u::l,_=>
         have U:(di 46 n (t::u::l)).2=false:=by simp [di]
         have ab:kR {s:=1,first:=[9]} 46 n (t::u::l).length=false:=by simp [kR,gU,firstM]
         rw [U,ab];simp
     . simp only [tj,apI,aqw,List.not_mem_nil,or_false] at hm;rcases hm with h | h | h | h | h | h | h | h | h | h | h | h | h | h | h | h | h | h | h | h | h | h | h | h | h | h | h | h | h | h | h | h | h | h | h | h | h | h<;>
       obtain ⟨rfl,rfl⟩:=h<;>first | (exact absurd rfl Q7) | skip
       all_goals
        refine aiS (by decide) aY aD (by rfl) ?_ ?_ ?_
        . rw [aqg];simp [hv,di,kR,gU,firstM]
          try omega
        . intro cX dZ;simp [di,kR,gU,firstM,nV] at cX dZ ⊢
          try omega
        . simp [nV,firstM,gU]
          try (intro g aG;omega)
end
end
end Go.Proofs.YtgmhjhgoamjeeaaGreatDoor
