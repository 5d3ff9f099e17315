/- The chapter's functions, walked by the abstract machine: plain lemmas, no condition. Printed by a program from longer texts: names made short. -/
import Derived.Test.YtgmhjhgoamjeeaaGreatDoorM8
import Derived.Test.YtgmhjhgoamjeeaaGreatDoorM9
import Derived.Test.YtgmhjhgoamjeeaaGreatDoorM6
import Derived.Shelf.Unicode.Decode
import Derived.Shelf.Unicode.DecodeSlow
import Derived.Shelf.Unicode.DecodeAny
import Derived.Shelf.Strconv.Atoi
import Derived.Shelf.Pu.ParseUintPublic10
import Derived.Lib.LaidU8T
set_option linter.unusedSectionVars false
set_option linter.unusedSimpArgs false
set_option linter.unusedVariables false
set_option maxHeartbeats 64000000
noncomputable section
namespace Go.Proofs.YtgmhjhgoamjeeaaGreatDoor
section
open Go aX
theorem abG:Extern.findNext Tryz.f128=none:=by kernel_rfl
theorem abF:(Extern.find Tryz.f128)=some Extern.BytealgIndexByte.indexByte:=by kernel_rfl
theorem afo (s:List UInt8) (c:Int) (h:ae):eV Tryz.prog 128 [.str s,.int .u8 c] h (.int .i64 (Lib.indexByte s c.toNat.toUInt8)) h:=
 afr (by decide) Tryz.func128 (by kernel_rfl) (by kernel_rfl) abG abF s c h
theorem afn (s:List UInt8) (c:Int) (h:ae):eV Tryz.prog 118 [.str s,.int .u8 c] h (.int .i64 (Lib.indexByte s c.toNat.toUInt8)) h:=by refine rB (YL.z rfl (cw ?_));unfold N1;simp +contextual only [↓an,aF,simprocAttr];refine hB (afo _ _ _) ?_;simp +contextual only [↓an,aF,simprocAttr]
theorem Sk (s:List UInt8) (c:Int) (h:ae):eV Tryz.prog 113 [.str s,.int .u8 c] h (.int .i64 (Lib.indexByte s c.toNat.toUInt8)) h:=by refine rB (YH.z rfl (cw ?_));unfold NV;simp +contextual only [↓an,aF,simprocAttr];refine hB (afn _ _ _) ?_;simp +contextual only [↓an,aF,simprocAttr]
end
section
open Go Go.Shelf
def Tryz.ah9:Go.Shelf.Ren:=⟨fun | 197=>117 | 260=>127 | n=>n,fun | 9=>9 | 21=>21 | 3=>3 | 4=>4 | 5=>5 | 105=>185 | 119=>196 | 0=>0 | 46=>160 | 139=>199 | 138=>198 | n=>n,fun | 3=>0 | 4=>1 | n=>n⟩
theorem Tryz.ah8:Go.Proofs.Lays.n197 Tryz.prog Tryz.ah9:={
 mixed:=by kernel_rfl,
 f197:=Tryz.func117.trans (congrArg some (by kernel_rfl)),
 f260:=Tryz.func127.trans (congrArg some (by kernel_rfl)),
 t0:=Tryz.underlying0,
 a0:=Tryz.isAgg0,
 z0:=Tryz.sizeOf0,
 v0:=Tryz.zeroValue0,
 t3:=Tryz.underlying3,
 a3:=Tryz.isAgg3,
 z3:=Tryz.sizeOf3,
 v3:=Tryz.zeroValue3,
 t4:=Tryz.underlying4,
 a4:=Tryz.isAgg4,
 z4:=Tryz.sizeOf4,
 v4:=Tryz.zeroValue4,
 t5:=Tryz.underlying5,
 a5:=Tryz.isAgg5,
 z5:=Tryz.sizeOf5,
 v5:=Tryz.zeroValue5,
 t9:=Tryz.underlying9,
 a9:=Tryz.isAgg9,
 z9:=Tryz.sizeOf9,
 v9:=Tryz.zeroValue9,
 t21:=Tryz.underlying21,
 a21:=Tryz.isAgg21,
 z21:=Tryz.sizeOf21,
 v21:=Tryz.zeroValue21,
 t46:=Tryz.underlying160,
 a46:=Tryz.isAgg160,
 z46:=Tryz.sizeOf160,
 v46:=Tryz.zeroValue160,
 t105:=Tryz.underlying185,
 a105:=Tryz.isAgg185,
 z105:=Tryz.sizeOf185,
 v105:=Tryz.zeroValue185,
 t119:=Tryz.underlying196,
 a119:=Tryz.isAgg196,
 z119:=Tryz.sizeOf196,
 t138:=Tryz.underlying198,
 a138:=Tryz.isAgg198,
 z138:=Tryz.sizeOf198,
 v138:=Tryz.zeroValue198,
 t139:=Tryz.underlying199,
 a139:=Tryz.isAgg199,
 z139:=Tryz.sizeOf199,
 v139:=Tryz.zeroValue199,
 g3:=by kernel_rfl,
 g4:=by kernel_rfl}
def Tryz.ah7:Go.Shelf.Ren:=⟨fun | 172=>137 | 244=>145 | 245=>136 | 247=>150 | 279=>141 | 280=>142 | 281=>143 | 282=>144 | 287=>135 | 316=>147 | 171=>149 | 205=>148 | 321=>139 | 322=>140 | 243=>154 | 246=>156 | 283=>157 | 284=>158 | 285=>159 | 286=>160 | 129=>162 | 317=>161 | 318=>163 | 319=>164 | 320=>165 | 337=>166 | 338=>167 | n=>n,fun | 9=>9 | 3=>3 | 75=>190 | 76=>201 | 4=>4 | 5=>5 | 167=>204 | 37=>194 | 0=>0 | 85=>214 | 2=>2 | 168=>206 | 53=>175 | 175=>191 | 46=>160 | 210=>211 | 127=>216 | 145=>219 | 143=>217 | 21=>21 | 171=>222 | 173=>225 | 212=>228 | 51=>172 | 20=>20 | 213=>229 | 232=>233 | 233=>234 | 80=>235 | n=>n,fun | 15=>3 | 16=>4 | 17=>5 | 18=>6 | 19=>7 | n=>n⟩
theorem Tryz.ah6:Go.Proofs.Lays.n172 Tryz.prog Tryz.ah7:={
 mixed:=by kernel_rfl,
 f129:=Tryz.func162.trans (congrArg some (by kernel_rfl)),
 f171:=Tryz.func149.trans (congrArg some (by kernel_rfl)),
 f172:=Tryz.func137.trans (congrArg some (by kernel_rfl)),
 f205:=Tryz.func148.trans (congrArg some (by kernel_rfl)),
 f243:=Tryz.func154.trans (congrArg some (by kernel_rfl)),
 f244:=Tryz.func145.trans (congrArg some (by kernel_rfl)),
 f245:=Tryz.func136.trans (congrArg some (by kernel_rfl)),
 f246:=Tryz.func156.trans (congrArg some (by kernel_rfl)),
 f247:=Tryz.func150.trans (congrArg some (by kernel_rfl)),
 f279:=Tryz.func141.trans (congrArg some (by kernel_rfl)),
 f280:=Tryz.func142.trans (congrArg some (by kernel_rfl)),
 f281:=Tryz.func143.trans (congrArg some (by kernel_rfl)),
 f282:=Tryz.func144.trans (congrArg some (by kernel_rfl)),
 f283:=Tryz.func157.trans (congrArg some (by kernel_rfl)),
 f284:=Tryz.func158.trans (congrArg some (by kernel_rfl)),
 f285:=Tryz.func159.trans (congrArg some (by kernel_rfl)),
 f286:=Tryz.func160.trans (congrArg some (by kernel_rfl)),
 f287:=Tryz.func135.trans (congrArg some (by kernel_rfl)),
 f316:=Tryz.func147.trans (congrArg some (by kernel_rfl)),
 f317:=Tryz.func161.trans (congrArg some (by kernel_rfl)),
 f318:=Tryz.func163.trans (congrArg some (by kernel_rfl)),
 f319:=Tryz.func164.trans (congrArg some (by kernel_rfl)),
 f320:=Tryz.func165.trans (congrArg some (by kernel_rfl)),
 f321:=Tryz.func139.trans (congrArg some (by kernel_rfl)),
 f322:=Tryz.func140.trans (congrArg some (by kernel_rfl)),
 f337:=Tryz.func166.trans (congrArg some (by kernel_rfl)),
 f338:=Tryz.func167.trans (congrArg some (by kernel_rfl)),
 t0:=Tryz.underlying0,
 a0:=Tryz.isAgg0,
 z0:=Tryz.sizeOf0,
 v0:=Tryz.zeroValue0,
 t2:=Tryz.underlying2,
 a2:=Tryz.isAgg2,
 z2:=Tryz.sizeOf2,
 v2:=Tryz.zeroValue2,
 t3:=Tryz.underlying3,
 a3:=Tryz.isAgg3,
 z3:=Tryz.sizeOf3,
 v3:=Tryz.zeroValue3,
 t4:=Tryz.underlying4,
 a4:=Tryz.isAgg4,
 z4:=Tryz.sizeOf4,
 v4:=Tryz.zeroValue4,
 t5:=Tryz.underlying5,
 a5:=Tryz.isAgg5,
 z5:=Tryz.sizeOf5,
 v5:=Tryz.zeroValue5,
 t9:=Tryz.underlying9,
 a9:=Tryz.isAgg9,
 z9:=Tryz.sizeOf9,
 v9:=Tryz.zeroValue9,
 t20:=Tryz.underlying20,
 a20:=Tryz.isAgg20,
 z20:=Tryz.sizeOf20,
 v20:=Tryz.zeroValue20,
 t21:=Tryz.underlying21,
 a21:=Tryz.isAgg21,
 z21:=Tryz.sizeOf21,
 v21:=Tryz.zeroValue21,
 t37:=Tryz.underlying194,
 a37:=Tryz.isAgg194,
 z37:=Tryz.sizeOf194,
 v37:=Tryz.zeroValue194,
 t46:=Tryz.underlying160,
 a46:=Tryz.isAgg160,
 z46:=Tryz.sizeOf160,
 v46:=Tryz.zeroValue160,
 t51:=Tryz.underlying172,
 a51:=Tryz.isAgg172,
 z51:=Tryz.sizeOf172,
 v51:=Tryz.zeroValue172,
 t53:=Tryz.underlying175,
 a53:=Tryz.isAgg175,
 z53:=Tryz.sizeOf175,
 v53:=Tryz.zeroValue175,
 t75:=Tryz.underlying190,
 a75:=Tryz.isAgg190,
 z75:=Tryz.sizeOf190,
 v75:=Tryz.zeroValue190,
 t76:=Tryz.underlying201,
 a76:=Tryz.isAgg201,
 z76:=Tryz.sizeOf201,
 v76:=Tryz.zeroValue201,
 t85:=Tryz.underlying214,
 a85:=Tryz.isAgg214,
 z85:=Tryz.sizeOf214,
 v85:=Tryz.zeroValue214,
 t127:=Tryz.underlying216,
 a127:=Tryz.isAgg216,
 z127:=Tryz.sizeOf216,
 v127:=Tryz.zeroValue216,
 t143:=Tryz.underlying217,
 a143:=Tryz.isAgg217,
 z143:=Tryz.sizeOf217,
 v143:=Tryz.zeroValue217,
 t145:=Tryz.underlying219,
 a145:=Tryz.isAgg219,
 z145:=Tryz.sizeOf219,
 v145:=Tryz.zeroValue219,
 t167:=Tryz.underlying204,
 a167:=Tryz.isAgg204,
 z167:=Tryz.sizeOf204,
 v167:=Tryz.zeroValue204,
 t168:=Tryz.underlying206,
 a168:=Tryz.isAgg206,
 z168:=Tryz.sizeOf206,
 v168:=Tryz.zeroValue206,
 t171:=Tryz.underlying222,
 a171:=Tryz.isAgg222,
 z171:=Tryz.sizeOf222,
 v171:=Tryz.zeroValue222,
 t173:=Tryz.underlying225,
 a173:=Tryz.isAgg225,
 z173:=Tryz.sizeOf225,
 v173:=Tryz.zeroValue225,
 t175:=Tryz.underlying191,
 a175:=Tryz.isAgg191,
 z175:=Tryz.sizeOf191,
 v175:=Tryz.zeroValue191,
 t210:=Tryz.underlying211,
 a210:=Tryz.isAgg211,
 z210:=Tryz.sizeOf211,
 v210:=Tryz.zeroValue211,
 t212:=Tryz.underlying228,
 a212:=Tryz.isAgg228,
 z212:=Tryz.sizeOf228,
 v212:=Tryz.zeroValue228,
 t213:=Tryz.underlying229,
 a213:=Tryz.isAgg229,
 z213:=Tryz.sizeOf229,
 t232:=Tryz.underlying233,
 a232:=Tryz.isAgg233,
 z232:=Tryz.sizeOf233,
 v232:=Tryz.zeroValue233,
 t233:=Tryz.underlying234,
 a233:=Tryz.isAgg234,
 z233:=Tryz.sizeOf234,
 v233:=Tryz.zeroValue234,
 g15:=by kernel_rfl,
 g16:=by kernel_rfl,
 g17:=by kernel_rfl,
 g18:=by kernel_rfl,
 g19:=by kernel_rfl}
def Tryz.Ks:Go.Shelf.Ren:=⟨fun | 14=>130 | 16=>135 | 17=>136 | 19=>139 | 20=>140 | 21=>141 | 22=>142 | 23=>143 | 24=>144 | 25=>147 | 27=>149 | 26=>148 | 28=>154 | 29=>156 | 30=>157 | 31=>158 | 32=>159 | 33=>160 | 35=>162 | 34=>161 | 36=>163 | 37=>164 | 38=>165 | 39=>166 | 40=>167 | n=>n,fun | 9=>9 | 3=>3 | 22=>175 | 24=>190 | 25=>191 | 4=>4 | 34=>204 | 5=>5 | 36=>160 | 37=>194 | 0=>0 | 39=>206 | 21=>21 | 44=>211 | 47=>216 | 50=>219 | 48=>217 | 2=>2 | 52=>222 | 55=>225 | 59=>228 | 60=>172 | 20=>20 | 61=>229 | 65=>233 | 66=>234 | 67=>235 | n=>n,fun | 0=>3 | 1=>4 | 2=>5 | 3=>6 | 4=>7 | n=>n⟩
theorem Tryz.SK:Go.Proofs.LaysPu.n14 Tryz.prog Tryz.Ks:={
 mixed:=by kernel_rfl,
 f14:=Tryz.func130.trans (congrArg some (by kernel_rfl)),
 f16:=Tryz.func135.trans (congrArg some (by kernel_rfl)),
 f17:=Tryz.func136.trans (congrArg some (by kernel_rfl)),
 f19:=Tryz.func139.trans (congrArg some (by kernel_rfl)),
 f20:=Tryz.func140.trans (congrArg some (by kernel_rfl)),
 f21:=Tryz.func141.trans (congrArg some (by kernel_rfl)),
 f22:=Tryz.func142.trans (congrArg some (by kernel_rfl)),
 f23:=Tryz.func143.trans (congrArg some (by kernel_rfl)),
 f24:=Tryz.func144.trans (congrArg some (by kernel_rfl)),
 f25:=Tryz.func147.trans (congrArg some (by kernel_rfl)),
 f26:=Tryz.func148.trans (congrArg some (by kernel_rfl)),
 f27:=Tryz.func149.trans (congrArg some (by kernel_rfl)),
 f28:=Tryz.func154.trans (congrArg some (by kernel_rfl)),
 f29:=Tryz.func156.trans (congrArg some (by kernel_rfl)),
 f30:=Tryz.func157.trans (congrArg some (by kernel_rfl)),
 f31:=Tryz.func158.trans (congrArg some (by kernel_rfl)),
 f32:=Tryz.func159.trans (congrArg some (by kernel_rfl)),
 f33:=Tryz.func160.trans (congrArg some (by kernel_rfl)),
 f34:=Tryz.func161.trans (congrArg some (by kernel_rfl)),
 f35:=Tryz.func162.trans (congrArg some (by kernel_rfl)),
 f36:=Tryz.func163.trans (congrArg some (by kernel_rfl)),
 f37:=Tryz.func164.trans (congrArg some (by kernel_rfl)),
 f38:=Tryz.func165.trans (congrArg some (by kernel_rfl)),
 f39:=Tryz.func166.trans (congrArg some (by kernel_rfl)),
 f40:=Tryz.func167.trans (congrArg some (by kernel_rfl)),
 t0:=Tryz.underlying0,
 a0:=Tryz.isAgg0,
 z0:=Tryz.sizeOf0,
 v0:=Tryz.zeroValue0,
 i0:=by kernel_rfl,
 t2:=Tryz.underlying2,
 a2:=Tryz.isAgg2,
 z2:=Tryz.sizeOf2,
 v2:=Tryz.zeroValue2,
 i2:=by kernel_rfl,
 t3:=Tryz.underlying3,
 a3:=Tryz.isAgg3,
 z3:=Tryz.sizeOf3,
 v3:=Tryz.zeroValue3,
 i3:=by kernel_rfl,
 t4:=Tryz.underlying4,
 a4:=Tryz.isAgg4,
 z4:=Tryz.sizeOf4,
 v4:=Tryz.zeroValue4,
 i4:=by kernel_rfl,
 t5:=Tryz.underlying5,
 a5:=Tryz.isAgg5,
 z5:=Tryz.sizeOf5,
 v5:=Tryz.zeroValue5,
 i5:=by kernel_rfl,
 t9:=Tryz.underlying9,
 a9:=Tryz.isAgg9,
 z9:=Tryz.sizeOf9,
 v9:=Tryz.zeroValue9,
 i9:=by kernel_rfl,
 t20:=Tryz.underlying20,
 a20:=Tryz.isAgg20,
 z20:=Tryz.sizeOf20,
 v20:=Tryz.zeroValue20,
 i20:=by kernel_rfl,
 t21:=Tryz.underlying21,
 a21:=Tryz.isAgg21,
 z21:=Tryz.sizeOf21,
 v21:=Tryz.zeroValue21,
 i21:=by kernel_rfl,
 t22:=Tryz.underlying175,
 a22:=Tryz.isAgg175,
 z22:=Tryz.sizeOf175,
 v22:=Tryz.zeroValue175,
 i22:=by kernel_rfl,
 t24:=Tryz.underlying190,
 a24:=Tryz.isAgg190,
 z24:=Tryz.sizeOf190,
 v24:=Tryz.zeroValue190,
 i24:=by kernel_rfl,
 t25:=Tryz.underlying191,
 a25:=Tryz.isAgg191,
 z25:=Tryz.sizeOf191,
 v25:=Tryz.zeroValue191,
 i25:=by kernel_rfl,
 t34:=Tryz.underlying204,
 a34:=Tryz.isAgg204,
 z34:=Tryz.sizeOf204,
 v34:=Tryz.zeroValue204,
 i34:=by kernel_rfl,
 c34:=by kernel_rfl,
 t36:=Tryz.underlying160,
 a36:=Tryz.isAgg160,
 z36:=Tryz.sizeOf160,
 v36:=Tryz.zeroValue160,
 i36:=by kernel_rfl,
 t37:=Tryz.underlying194,
 a37:=Tryz.isAgg194,
 z37:=Tryz.sizeOf194,
 v37:=Tryz.zeroValue194,
 i37:=by kernel_rfl,
 t39:=Tryz.underlying206,
 a39:=Tryz.isAgg206,
 z39:=Tryz.sizeOf206,
 v39:=Tryz.zeroValue206,
 i39:=by kernel_rfl,
 t44:=Tryz.underlying211,
 a44:=Tryz.isAgg211,
 z44:=Tryz.sizeOf211,
 v44:=Tryz.zeroValue211,
 i44:=by kernel_rfl,
 t47:=Tryz.underlying216,
 a47:=Tryz.isAgg216,
 z47:=Tryz.sizeOf216,
 v47:=Tryz.zeroValue216,
 i47:=by kernel_rfl,
 t48:=Tryz.underlying217,
 a48:=Tryz.isAgg217,
 z48:=Tryz.sizeOf217,
 v48:=Tryz.zeroValue217,
 i48:=by kernel_rfl,
 t50:=Tryz.underlying219,
 a50:=Tryz.isAgg219,
 z50:=Tryz.sizeOf219,
 v50:=Tryz.zeroValue219,
 i50:=by kernel_rfl,
 t52:=Tryz.underlying222,
 a52:=Tryz.isAgg222,
 z52:=Tryz.sizeOf222,
 v52:=Tryz.zeroValue222,
 i52:=by kernel_rfl,
 t55:=Tryz.underlying225,
 a55:=Tryz.isAgg225,
 z55:=Tryz.sizeOf225,
 v55:=Tryz.zeroValue225,
 i55:=by kernel_rfl,
 t59:=Tryz.underlying228,
 a59:=Tryz.isAgg228,
 z59:=Tryz.sizeOf228,
 v59:=Tryz.zeroValue228,
 i59:=by kernel_rfl,
 t60:=Tryz.underlying172,
 a60:=Tryz.isAgg172,
 z60:=Tryz.sizeOf172,
 v60:=Tryz.zeroValue172,
 i60:=by kernel_rfl,
 t61:=Tryz.underlying229,
 a61:=Tryz.isAgg229,
 z61:=Tryz.sizeOf229,
 t65:=Tryz.underlying233,
 a65:=Tryz.isAgg233,
 z65:=Tryz.sizeOf233,
 v65:=Tryz.zeroValue233,
 i65:=by kernel_rfl,
 t66:=Tryz.underlying234,
 a66:=Tryz.isAgg234,
 z66:=Tryz.sizeOf234,
 v66:=Tryz.zeroValue234,
 i66:=by kernel_rfl,
 t67:=Tryz.underlying235,
 a67:=Tryz.isAgg235,
 z67:=Tryz.sizeOf235,
 v67:=Tryz.zeroValue235,
 i67:=by kernel_rfl,
 g0:=by kernel_rfl,
 m0:=by kernel_rfl,
 g1:=by kernel_rfl,
 m1:=by kernel_rfl,
 g2:=by kernel_rfl,
 m2:=by kernel_rfl,
 g3:=by kernel_rfl,
 m3:=by kernel_rfl,
 g4:=by kernel_rfl,
 m4:=by kernel_rfl}
def Tryz.BM:Go.Shelf.Ren:=⟨fun | 260=>127 | n=>n,fun | 9=>9 | 21=>21 | 3=>3 | 4=>4 | 5=>5 | 119=>196 | 0=>0 | 46=>160 | 139=>199 | 138=>198 | n=>n,fun | 3=>0 | 4=>1 | n=>n⟩
theorem Tryz.ah':Go.Proofs.Lays.n260 Tryz.prog Tryz.BM:={
 mixed:=by kernel_rfl,
 f260:=Tryz.func127.trans (congrArg some (by kernel_rfl)),
 t0:=Tryz.underlying0,
 a0:=Tryz.isAgg0,
 z0:=Tryz.sizeOf0,
 v0:=Tryz.zeroValue0,
 t3:=Tryz.underlying3,
 a3:=Tryz.isAgg3,
 z3:=Tryz.sizeOf3,
 v3:=Tryz.zeroValue3,
 t4:=Tryz.underlying4,
 a4:=Tryz.isAgg4,
 z4:=Tryz.sizeOf4,
 v4:=Tryz.zeroValue4,
 t5:=Tryz.underlying5,
 a5:=Tryz.isAgg5,
 z5:=Tryz.sizeOf5,
 v5:=Tryz.zeroValue5,
 t9:=Tryz.underlying9,
 a9:=Tryz.isAgg9,
 z9:=Tryz.sizeOf9,
 v9:=Tryz.zeroValue9,
 t21:=Tryz.underlying21,
 a21:=Tryz.isAgg21,
 z21:=Tryz.sizeOf21,
 v21:=Tryz.zeroValue21,
 t46:=Tryz.underlying160,
 a46:=Tryz.isAgg160,
 z46:=Tryz.sizeOf160,
 v46:=Tryz.zeroValue160,
 t119:=Tryz.underlying196,
 a119:=Tryz.isAgg196,
 z119:=Tryz.sizeOf196,
 t138:=Tryz.underlying198,
 a138:=Tryz.isAgg198,
 z138:=Tryz.sizeOf198,
 v138:=Tryz.zeroValue198,
 t139:=Tryz.underlying199,
 a139:=Tryz.isAgg199,
 z139:=Tryz.sizeOf199,
 v139:=Tryz.zeroValue199,
 g3:=by kernel_rfl,
 g4:=by kernel_rfl}
end
section
open Go aX Go.RowKit
section
open Go.Shelf
theorem aaz (s:ByteArray) (w:World) (dN:Lib.Utf8Tabs 0 1 w):
 Calls Tryz.prog 117 #[.string s] w fun e w'=>e=.returned (.tuple #[.int .i32 (Lib.decodeGo s).1,.int .i64 (Lib.decodeGo s).2])/\Below w.heap.size w w':=Any.utf8_DecodeRuneInString Tryz.ah8 s w dN
theorem X8 (s:ByteArray) (n:Int) (aA:s.size<=18) (h:Lib.atoi s.data.toList=some n) (w:World):
 Calls Tryz.prog 137 #[.string s] w fun e w'=>e=.returned (.tuple #[.int .i64 n,.nilIface])/\Below w.heap.size w w':=(Any.strconv_Atoi Tryz.ah6 s n aA h w).mono fun e w' q=>⟨q.1,by obtain ⟨t,rfl⟩:=q.2;exact Lib.bytesWorld_below _ _ _⟩
theorem ako (s:ByteArray) (ad8:s.size<=9223372036854775806) (u:Nat) (h:Lib.parseUintB 64 s.data.toList=.ok u) (w:World):
 Calls Tryz.prog 130 #[.string s,.int .i64 10,.int .i64 64] w fun e w'=>e=.returned (.tuple #[.int .u64 u,.nilIface])/\Below w.heap.size w w':=(Any.strconv_ParseUint_10_at64_ok Tryz.SK s ad8 u h w).mono fun e w' q=>⟨q.1,by
  rcases q.2 with rfl | rfl
  . exact Below.refl _ _
  . exact Lib.bytesWorld_below _ _ _⟩
theorem akq (s:ByteArray) (v':s.size<=281474976710656) (h:Lib.parseUintB 64 s.data.toList=.range) (w:World) (he:xm w 4):
 Calls Tryz.prog 130 #[.string s,.int .i64 10,.int .i64 64] w fun e w'=>(∃p,e=.returned (.tuple #[.int .u64 18446744073709551615,.iface (Tryz.Ks.t 39) p]))/\Below w.heap.size w w':=by
 obtain ⟨aP,aa,ad⟩:=he;refine (Any.strconv_ParseUint_10_at64_range Tryz.SK s v' h aP w aa ad).mono fun e w' q=>?_;obtain ⟨N,aJ,_,_,fX⟩:=q;exact ⟨⟨_,aJ⟩,fX⟩
end
theorem BK {f:FuncId} (a6:Nat.beq f dr=false) {args:List V} {v:V} {h:ae} (ho:∃fn,Tryz.prog.funcs[f]? =some fn/\fn.body.isSome=true) (H:∀E xs w,Ha w->bf E args xs->Calls Tryz.prog f xs.toArray w fun e w'=>∃x,e=.returned x/\Rel E v x/\Below w.heap.size w w'):eV Tryz.prog f args h v h:=by refine ⟨fun e=>by subst e;simp at a6,.inl ⟨ho,fun ay E w xs aj s=>?_⟩⟩;refine (H E xs w (Lay.eR s.laid s.frame) aj).mono fun e w' q=>?_;obtain ⟨x,rfl,bs,ah⟩:=q;exact ⟨E,x,rfl,fun _ _ q=>q,bs,s.below ah⟩
theorem aax (s:List UInt8) (h:ae):eV Tryz.prog 117 [.str s] h (.tuple [.int .i32 (Lib.decodeGo ⟨⟨s⟩⟩).1,.int .i64 (Lib.decodeGo ⟨⟨s⟩⟩).2]) h:=by refine BK (by decide) ⟨_,Tryz.func117,by kernel_rfl⟩ fun E xs w aA aj=>?_;obtain ⟨y,cp,rfl,ak,rfl⟩:=aj;simp only [Rel] at ak;subst ak;refine (aaz ⟨⟨s⟩⟩ w aA.VL).mono fun e w' q=>?_;obtain ⟨rfl,ah⟩:=q;refine ⟨_,rfl,?_,ah⟩;simp only [Rel];exact ⟨_,rfl,_,_,rfl,rfl,_,_,rfl,rfl,rfl⟩
theorem aab (s sub:List UInt8) (aZ:s.length<=100000) (h:ae):eV Tryz.prog 134 [.str s,.str sub] h (.bool (Lib.contains s sub)) h:=by refine BK (by decide) ⟨_,Tryz.func134,by kernel_rfl⟩ fun E xs w aA aj=>?_;obtain ⟨y,cp,rfl,ak,z,u5,rfl,al,rfl⟩:=aj;simp only [Rel] at ak al;subst ak al;obtain ⟨m,hm⟩:=aA.maxLen;refine (Pw ⟨⟨s⟩⟩ ⟨⟨sub⟩⟩ m w (by show s.length<4294967281;omega) hm).mono fun e w' q=>?_;obtain ⟨rfl,rfl⟩:=q;refine ⟨_,rfl,?_,Below.refl _ _⟩;simp only [Rel]
theorem X7 (s:List UInt8) (n:Int) (aA:s.length<=18) (h:Lib.atoi s=some n) (af:ae):eV Tryz.prog 137 [.str s] af (.tuple [.int .i64 n,.nilIface]) af:=by refine BK (by decide) ⟨_,Tryz.func137,by kernel_rfl⟩ fun E xs w v8 aj=>?_;obtain ⟨y,cp,rfl,ak,rfl⟩:=aj;simp only [Rel] at ak;subst ak;refine (X8 ⟨⟨s⟩⟩ n aA h w).mono fun e w' q=>?_;obtain ⟨rfl,ah⟩:=q;refine ⟨_,rfl,?_,ah⟩;simp only [Rel];exact ⟨_,rfl,_,_,rfl,rfl,_,_,rfl,rfl,rfl⟩
theorem akn (s:List UInt8) (u:Nat) (aA:s.length<=100000) (h:Lib.parseUintB 64 s=.ok u) (af:ae):eV Tryz.prog 130 [.str s,.int .i64 10,.int .i64 64] af (.tuple [.int .u64 u,.nilIface]) af:=by refine BK (by decide) ⟨_,Tryz.func130,by kernel_rfl⟩ fun E xs w v8 aj=>?_;obtain ⟨y,cp,rfl,ak,z,u5,rfl,al,t,bq,rfl,aI,rfl⟩:=aj;simp only [Rel] at ak al aI;subst ak al aI;refine (ako ⟨⟨s⟩⟩ (by show s.length<=9223372036854775806;omega) u h w).mono fun e w' q=>?_;obtain ⟨rfl,ah⟩:=q;refine ⟨_,rfl,?_,ah⟩;simp only [Rel];exact ⟨_,rfl,_,_,rfl,rfl,_,_,rfl,rfl,rfl⟩
def abg:TypeId:=Tryz.Ks.t 39
theorem akp (s:List UInt8) (aA:s.length<=100000) (h:Lib.parseUintB 64 s=.range) (af:ae):eV Tryz.prog 130 [.str s,.int .i64 10,.int .i64 64] af (.tuple [.int .u64 18446744073709551615,.iface abg .bad]) af:=by refine BK (by decide) ⟨_,Tryz.func130,by kernel_rfl⟩ fun E xs w v8 aj=>?_;obtain ⟨y,cp,rfl,ak,z,u5,rfl,al,t,bq,rfl,aI,rfl⟩:=aj;simp only [Rel] at ak al aI;subst ak al aI;refine (akq ⟨⟨s⟩⟩ (by show s.length<=281474976710656;omega) h w v8.Qk).mono fun e w' q=>?_;obtain ⟨⟨p,rfl⟩,ah⟩:=q;refine ⟨_,rfl,?_,ah⟩;simp only [Rel];exact ⟨_,rfl,_,_,rfl,rfl,_,_,rfl,⟨p,rfl,trivial⟩,rfl⟩
end
section
open Go aX
def fW (s:List UInt8) (i:Nat):Nat:=if decodeL s i=(65533,1) then 0 else (decodeL s i).2
def s_:Nat->List UInt8->Nat->Nat
 | 0,s,_=>s.length
 | f+1,s,a=>if a<s.length then (if fW s a=0 then a else s_ f s (a+fW s a)) else s.length
def rE (s:List UInt8) (a:Nat):Nat:=s_ (s.length-a) s a
def uS (s:List UInt8):Nat:=rE s 0
theorem US (s:List UInt8):∀(f g a:Nat),s.length-a<=f->s.length-a<=g->s_ f s a=s_ g s a
 | 0,g,a,aa,ad=>by
   cases g with
   | zero=>rfl
   | succ g=>simp only [s_];rw [apw (by omega)]
 | f+1,0,a,aa,ad=>by simp only [s_];rw [apw (by omega)]
 | f+1,g+1,a,aa,ad=>by
   simp only [s_];by_cases bt:a<s.length
   . rw [apz bt,apz bt];by_cases ao:fW s a=0
     . rw [apz ao,apz ao]
     . rw [apw ao,apw ao];exact US s f g _ (by omega) (by omega)
   . rw [apw bt,apw bt]
theorem UR {s:List UInt8} {a:Nat} (h:s.length<=a):rE s a=s.length:=by unfold rE;rw [show s.length-a=0 from by omega];rfl
theorem ala {s:List UInt8} {a:Nat} (h:a<s.length) (ao:fW s a=0):rE s a=a:=by unfold rE;rw [show s.length-a=s.length-a-1+1 from by omega,s_,apz h,apz ao]
theorem LD {s:List UInt8} {a:Nat} (h:a<s.length) (ao:fW s a≠0):rE s a=rE s (a+fW s a):=by unfold rE;rw [show s.length-a=s.length-a-1+1 from by omega,s_,apz h,apw ao];exact US s _ _ _ (by omega) (by omega)
def e_ (c:UInt8):Bool:=nG c.toNat
def f' (c:UInt8):Bool:=wF c.toNat
def iZ (l:List UInt8):Nat:=l.foldl (fun n c=>10 * n + (c.toNat-48)) 0
abbrev tG:=Except Int (Int × Int × List UInt8 × Nat)
def y2 (r:List UInt8):tG:=
 let t:=r.takeWhile e_
 if 2147483647<iZ t then .error 254 else .ok (1,(if 1073741823 < (iZ t:Int) then (iZ t:Int)-2147483648 else iZ t),[],t.length)
def pG:List UInt8->Option (UInt8 × Nat)
 | []=>none
 | c::r=>if c=110 then some (10,1) else if c=116 then some (9,1) else if c=34 then some (34,1) else if c=92 then some (92,1) else
   if 2<=r.length/\e_ c/\e_ (r[0]?.getD 0)/\e_ (r[1]?.getD 0)/\iZ (c::r.take 2)<256 then some ((iZ (c::r.take 2)).toUInt8,3) else none
def xb:Nat->List UInt8->Option (List UInt8 × Nat)
 | 0,_=>none
 | _+1,[]=>none
 | f+1,c::r=>if c=34 then some ([],1) else if c=92 then (match pG r with
    | none=>none
    | some (b,n)=>(xb f (r.drop n)).map fun q=>(b::q.1,q.2+n+1))
   else if c<32\/c=127 then none else (xb f r).map fun q=>(c::q.1,q.2+1)
def qt (r:List UInt8):Option (List UInt8 × Nat):=xb r.length r
def tg (r:List UInt8):tG:=
 match qt r with
 | none=>.error 252
 | some (b,n)=>if 4096<b.length then .error 255 else .ok (2,0,b,n+1)
def Km:List (List UInt8):=[[97,110,100],[98,101,103,105,110],[101,108,115,101],[101,110,100],[101,120,99,101,112,116,105,111,110],[102,97,108,115,101],[102,117,110],[105,102],[105,110],[108,101,116],[109,97,116,99,104],[109,111,100],[111,102],[114,97,105,115,101],[114,101,99],[116,104,101,110],[116,114,117,101],[116,114,121],[116,121,112,101],[119,105,116,104]]
def ju:List (List UInt8):=[[59,59],[58,61],[45,62],[60,61],[59],[40],[41],[44],[61],[60],[43],[45],[42],[47],[124],[33],[95]]
def sS (t:List UInt8):Bool:=Km.contains t
def j_ (kind:Int) (r:List UInt8):tG:=
 let t:=r.takeWhile f'
 if kind=3/\t=[95] then .ok (7,0,t,t.length) else if kind=3/\sS t then .ok (6,0,t,t.length) else if 64<t.length then .error 255 else .ok (kind,0,t,t.length)
def zn (r:List UInt8):tG:=
 match ju.find? (·.isPrefixOf r) with
 | some t=>.ok (7,0,t,t.length)
 | none=>.error 251
def q1:List UInt8->Bool
 | d::_=>iX d.toNat
 | []=>false
def gm:List UInt8->tG
 | []=>.error 0
 | c::r=>if e_ c then y2 (c::r) else if c=34 then tg r else if iX c.toNat||c=95 then j_ 3 (c::r) else if oJ c.toNat then j_ 4 (c::r) else
   if c=39/\q1 r then (j_ 5 r).map fun q=>(q.1,q.2.1,q.2.2.1,q.2.2.2+1) else zn (c::r)
structure b4 where
 kind:Int
 num:Int
 pos:Nat
 text:List UInt8
deriving DecidableEq
def blank (c:UInt8):Bool:=c=9||c=10||c=13||c=32
def Ay (w:b4):Except (Int × Nat) (List b4)->Except (Int × Nat) (List b4)
 | .ok ws=>.ok (w::ws)
 | .error e=>.error e
def m_:Nat->List UInt8->Nat->Except (Int × Nat) (List b4)
 | 0,_,_=>.ok []
 | _+1,[],_=>.ok []
 | f+1,c::r,p=>if blank c then m_ f r (p+1) else if ([40,42]:List UInt8).isPrefixOf (c::r) then (match ik (c::r) 0 with
    | none=>.error (253,p)
    | some n=>m_ f ((c::r).drop n) (p+n))
   else match gm (c::r) with
    | .error e=>.error (e,p)
    | .ok q=>Ay ⟨q.1,q.2.1,p,q.2.2.1⟩ (m_ f ((c::r).drop q.2.2.2) (p+q.2.2.2))
def rl (r:List UInt8) (p:Nat):Except (Int × Nat) (List b4):=m_ r.length r p
def lk (s:List UInt8):Except (Int × Nat) (List b4):=
 if 65536<s.length then .error (3,0) else if uS s<s.length then .error (250,uS s) else rl s 0
theorem L0 {p:UInt8->Bool} {c:UInt8} {r:List UInt8} (h:p c=true):1<=((c::r).takeWhile p).length:=by simp only [aqT,h,ap3,apB];omega
theorem alL {t:List UInt8} (h:t ∈ ju):1<=t.length:=by revert t;decide
theorem LM {c:UInt8} (h:iX c.toNat=true):f' c=true:=by unfold f' wF;rw [h];simp
theorem QT {c:UInt8} (h:oJ c.toNat=true):f' c=true:=by unfold f' wF;rw [h];simp
theorem VF {c:UInt8} (h:c=95):f' c=true:=by subst h;decide
theorem Tt {k:Int} {r:List UInt8} {q:Int × Int × List UInt8 × Nat} (h:j_ k r=.ok q):q.2.2.2=(r.takeWhile f').length:=by
 unfold j_ at h;simp only at h
 split at h
 . cases h;rfl
 . split at h
   . cases h;rfl
   . split at h
     . cases h
     . cases h;rfl
theorem KO {r:List UInt8} {q:Int × Int × List UInt8 × Nat} (h:gm r=.ok q):1<=q.2.2.2:=by
 match r,h with
 | c::r,h=>
   simp only [gm] at h
   split at h
   . rename_i aH;unfold y2 at h;simp only at h
     split at h
     . cases h
     . cases h;exact L0 aH
   . split at h
     . unfold tg at h
       split at h
       . cases h
       . split at h
         . cases h
         . cases h;simp only;omega
     . split at h
       . rename_i aZ;rw [Tt h];simp only [aqA,apF] at aZ;exact L0 (aZ.elim LM VF)
       . split at h
         . rename_i aZ;rw [Tt h];exact L0 (QT aZ)
         . split at h
           . cases aV:j_ 5 r with
             | error e=>rw [aV] at h;cases h
             | ok fj=>rw [aV] at h;cases h;simp only;omega
           . unfold zn at h
             split at h
             . rename_i t aE;cases h;exact alL (List.mem_of_find?_eq_some aE)
             . cases h
theorem FD:∀{r:List UInt8} {d:Int} {n:Nat},ik r d=some n->2<=n
 | [],d,n,h=>by simp [ik] at h
 | [_],d,n,h=>by simp [ik] at h
 | x::y::r,d,n,h=>by
   rw [ik] at h
   split at h
   . cases az:ik r (d+1) with
     | none=>rw [az] at h;cases h
     | some m=>rw [az] at h;cases h;simp only;omega
   . split at h
     . split at h
       . cases h;omega
       . cases az:ik r (d-1) with
         | none=>rw [az] at h;cases h
         | some m=>rw [az] at h;cases h;simp only;omega
     . cases az:ik (y::r) d with
       | none=>rw [az] at h;cases h
       | some m=>rw [az] at h;cases h;have:=FD az;simp only;omega
theorem BS:∀(f g:Nat) (r:List UInt8) (p:Nat),r.length<=f->r.length<=g->m_ f r p=m_ g r p
 | 0,g,r,p,aa,ad=>by have:r=[]:=aq6.1 (by omega);subst this;cases g<;>rfl
 | f+1,0,r,p,aa,ad=>by have:r=[]:=aq6.1 (by omega);subst this;rfl
 | f+1,g+1,[],p,aa,ad=>rfl
 | f+1,g+1,c::r,p,aa,ad=>by
   simp only [apB] at aa ad;simp only [m_]
   split
   . exact BS f g _ _ (by omega) (by omega)
   . split
     . split
       . rfl
       . rename_i n aV;have:=FD aV;exact BS f g _ _ (by rw [aqa,apB];omega) (by rw [aqa,apB];omega)
     . split
       . rfl
       . rename_i q az;have:=KO az;rw [BS f g _ _ (by rw [aqa,apB];omega) (by rw [aqa,apB];omega)]
theorem S1 (c:UInt8) (r:List UInt8) (p:Nat):rl (c::r) p=if blank c then rl r (p+1) else if ([40,42]:List UInt8).isPrefixOf (c::r) then (match ik (c::r) 0 with
 | none=>.error (253,p)
 | some n=>rl ((c::r).drop n) (p+n))
 else match gm (c::r) with
  | .error e=>.error (e,p)
  | .ok q=>Ay ⟨q.1,q.2.1,p,q.2.2.1⟩ (rl ((c::r).drop q.2.2.2) (p+q.2.2.2)):=by
 unfold rl;simp only [apB,m_]
 split
 . rfl
 . split
   . split
     . rfl
     . rename_i n aV;have:=FD aV;exact BS _ _ _ _ (by rw [aqa,apB];omega) (apv _)
   . split
     . rfl
     . rename_i q az;have:=KO az;rw [BS _ _ _ _ (by rw [aqa,apB];omega) (apv _)]
theorem L2:∀(f g:Nat) (r:List UInt8),r.length<=f->r.length<=g->xb f r=xb g r
 | 0,g,r,aa,ad=>by have:r=[]:=aq6.1 (by omega);subst this;cases g<;>rfl
 | f+1,0,r,aa,ad=>by have:r=[]:=aq6.1 (by omega);subst this;rfl
 | f+1,g+1,[],aa,ad=>rfl
 | f+1,g+1,c::r,aa,ad=>by
   simp only [apB] at aa ad;simp only [xb]
   split
   . rfl
   . split
     . split
       . rfl
       . rw [L2 f g _ (by rw [aqa];omega) (by rw [aqa];omega)]
     . split
       . rfl
       . rw [L2 f g _ (by omega) (by omega)]
theorem amv:qt []=none:=rfl
theorem amu (c:UInt8) (r:List UInt8):qt (c::r)=if c=34 then some ([],1) else if c=92 then (match pG r with
 | none=>none
 | some (b,n)=>(qt (r.drop n)).map fun q=>(b::q.1,q.2+n+1))
 else if c<32\/c=127 then none else (qt r).map fun q=>(c::q.1,q.2+1):=by
 unfold qt;simp only [apB,xb]
 split
 . rfl
 . split
   . split
     . rfl
     . rw [L2 _ _ _ (by rw [aqa];omega) (apv _)]
   . rfl
theorem QG:∀(l:List UInt8) (a:Nat),a<=l.foldl (fun n c=>10 * n + (c.toNat-48)) a
 | [],a=>apv _
 | c::l,a=>by simp only [List.foldl_cons];exact aqo (by omega) (QG l _)
def k5 (a:Nat) (l:List UInt8):Nat:=l.foldl (fun n c=>10 * n + (c.toNat-48)) a
theorem abV (a:Nat) (c:UInt8) (l:List UInt8):k5 a (c::l)=k5 (10 * a + (c.toNat-48)) l:=by unfold k5;rw [List.foldl_cons]
theorem akm (M:Nat) (cJ:M<18446744073709551620) (l:List UInt8):∀(a:Nat),(∀c ∈ l,e_ c=true)->(k5 a l<=M->Lib.parseUintM M a l=.ok (k5 a l))/\(a<=M->¬k5 a l<=M->Lib.parseUintM M a l=.range):=by
 induction l with
 | nil=>
   intro a _;refine ⟨fun _=>?_,fun aa ad=>absurd aa ad⟩;simp only [Lib.parseUintM,k5,List.foldl_nil]
 | cons c l afj=>
   intro a h;have ao:=h c (aqb ..);simp only [e_,nG,apq,apF] at ao;have adk:48<=c.toNat/\c.toNat<=57:=by omega
   have bb:=afj (10 * a + (c.toNat-48)) (fun x aj=>h x (apZ _ aj));have hm:10 * a + (c.toNat-48)<=k5 (10 * a + (c.toNat-48)) l:=QG l (10 * a + (c.toNat-48));simp only [Lib.parseUintM,adk,and_self,ap3];rw [Nat.mul_comm a 10,abV];have jF:10 * a<=10 * a + (c.toNat-48):=Nat.le_add_right _ _;generalize 10 * a + (c.toNat-48)=A at bb hm jF ⊢;refine ⟨fun aR=>?_,fun bt ie=>?_⟩
   . rw [apw (by omega),apw (by omega)];exact bb.1 aR
   . by_cases aa:1844674407370955162<=a
     . rw [apz aa]
     . rw [apw aa];by_cases ad:M<A
       . rw [apz ad]
       . rw [apw ad];exact bb.2 (by omega) ie
theorem akl (l:List UInt8) (h:∀c ∈ l,e_ c=true) (aA:l≠[]):(iZ l<=18446744073709551615->Lib.parseUintB 64 l=.ok (iZ l))/\(¬iZ l<=18446744073709551615->Lib.parseUintB 64 l=.range):=by unfold Lib.parseUintB;rw [apw aA,show (2 ^ 64-1:Nat)=18446744073709551615 from by decide];have:=akm 18446744073709551615 (by omega) l 0 h;exact ⟨this.1,this.2 (aqS _)⟩
structure ot (s:List UInt8) (p:Nat) (b:aL) (h:ae) (res:tG) (x:V) (ab:ae):Prop where
 mod:Mod (fun q=>q=b) h ab
 res:∃k n t,x=.agg [.int .i64 k,.int .i64 n,.int .i64 0,.str t]/\match res with
  | .ok q=>k=q.1/\n=q.2.1/\t=q.2.2.1/\ab.get b=e6 s ((p+q.2.2.2:Nat):Int) 0/\p+q.2.2.2<=s.length
  | .error e=>e≠0/\∃bl:Int,ab.get b=e6 s bl e
theorem KN {P:Program}:(e1.k3 true 5).run P .nilIface .nilIface=some (.bool false):=rfl
theorem ajd {P:Program} (T:TypeId) (x:V):(e1.k3 true 5).run P (.iface T x) .nilIface=some (.bool true):=rfl
theorem Vs {p:UInt8->Bool} {l:List UInt8}:∀c ∈ l.takeWhile p,p c=true:=fun c ao=>by
 induction l with
 | nil=>simp at ao
 | cons x l bb=>
   simp only [aqT] at ao
   split at ao
   . rename_i aj;rcases apJ.1 ao with rfl | ao
     . exact aj
     . exact bb ao
   . simp at ao
theorem Vt (p:UInt8->Bool) (s:List UInt8) (a:Nat):((s.drop a).takeWhile p).length<=s.length-a:=by have:=Vu p (s.drop a);rwa [aqa] at this
theorem ajt (s:List UInt8) (a0:Nat) (b:aL) (h:ae) (ah:h.get b=e6 s a0 0) (aY:a0<s.length) (aZ:s.length<=100000) (gf:Old h b) (aH:e_ s[a0]=true):
 c9 Tryz.prog 121 [.ptr b 0] h (ot s a0 b h (y2 (s.drop a0))):=by
 refine YO.z rfl (cw ?_);unfold N3;have cU:(b=aw h.next)=False:=B3 gf (apv _);have c2:(aw h.next=b)=False:=by rw [<-cU];exact propext eq_comm
 simp +contextual only [ah,cU,c2,↓an,aF,simprocAttr];have aj:Ext h (h.new (.bQ [.int .i64 0,.int .i64 0,.int .i64 0,.str []] 0 false)):=(Ext.refl h).new _;refine cu (UU s a0 0 b 120 nG _ (by rw [aj.get _ gf,ah]) (by omega) aZ (by decide) (fun c h=>xS c h)) ?_;rintro x aa ⟨rfl,hm,aG⟩;have kp:(fun c:UInt8=>nG (c.toNat:Int))=e_:=rfl;rw [kp] at aG ⊢;have v_:Mod (fun q=>q=b) h aa:=(aj.mod _).trans hm;have g1:aa.get (aw h.next)=.bQ [.int .i64 0,.int .i64 0,.int .i64 0,.str []] 0 false:=by rw [hm.get _ (hv (by rw [f_];omega)) (by rw [c2];exact id)];simp only [↓an,aF,simprocAttr]
 have c4:(s.drop a0).takeWhile e_≠[]:=by rw [drop_cons aY,aqT,aH];simp
 have hlen:=Vt e_ s a0;have af:=akl ((s.drop a0).takeWhile e_) Vs c4;unfold e6 at aG;have ue:y2 (s.drop a0)=if 2147483647<iZ ((s.drop a0).takeWhile e_) then .error 254 else .ok (1,(if 1073741823 < (iZ ((s.drop a0).takeWhile e_):Int) then (iZ ((s.drop a0).takeWhile e_):Int)-2147483648 else iZ ((s.drop a0).takeWhile e_)),[],((s.drop a0).takeWhile e_).length):=rfl;rw [ue];generalize (s.drop a0).takeWhile e_=t at *;simp +contextual only [↓an,aF,simprocAttr];by_cases AZ:iZ t<=18446744073709551615
 . refine hB (akn t (iZ t) (by omega) (af.1 AZ) aa) ?_;generalize iZ t=u at *;by_cases IE:(2147483647:Int) < (u:Int)
   . have x_:2147483647<u:=by omega
     simp +contextual only [KN,IE,g1,aG,cU,c2,↓an,aF,simprocAttr];refine ⟨(v_.set (fun _=>rfl) _).set (fun q=>absurd (show bX (aw h.next)<h.next from q) (by rw [c1];omega)) _,?_⟩;rw [apz x_];refine ⟨_,_,_,rfl,by decide,((a0+t.length:Nat):Int),?_⟩;simp only [e6,cU,c2,↓an,aF,simprocAttr]
   . have x_:¬2147483647<u:=by omega
     have bW:IntKind.i64.wrap (u:Int)=(u:Int):=wrap_i64 (by omega) (by omega);have bx:IntKind.i64.wrap ((u:Int)-2147483648)=(u:Int)-2147483648:=wrap_i64 (by omega) (by omega);by_cases vG:(1073741823:Int) < (u:Int)
     . simp +contextual only [KN,IE,x_,vG,g1,aG,cU,c2,bW,bx,↓an,aF,simprocAttr];refine ⟨(v_.set (fun q=>absurd (show bX (aw h.next)<h.next from q) (by rw [c1];omega)) _),?_⟩;refine ⟨_,_,_,rfl,rfl,rfl,rfl,?_,by show a0+t.length<=s.length;omega⟩;simp only [e6,aG,cU,c2,↓an,aF,simprocAttr]
     . simp +contextual only [KN,IE,x_,vG,g1,aG,cU,c2,bW,bx,↓an,aF,simprocAttr];refine ⟨(v_.set (fun q=>absurd (show bX (aw h.next)<h.next from q) (by rw [c1];omega)) _),?_⟩;refine ⟨_,_,_,rfl,rfl,rfl,rfl,?_,by show a0+t.length<=s.length;omega⟩;simp only [e6,aG,cU,c2,↓an,aF,simprocAttr]
 . refine hB (akp t (by omega) (af.2 AZ) aa) ?_;have x_:2147483647<iZ t:=by omega
   rw [apz x_];simp +contextual only [ajd,g1,aG,cU,c2,↓an,aF,simprocAttr];refine ⟨(v_.set (fun _=>rfl) _).set (fun q=>absurd (show bX (aw h.next)<h.next from q) (by rw [c1];omega)) _,?_⟩;refine ⟨_,_,_,rfl,by decide,((a0+t.length:Nat):Int),?_⟩;simp only [e6,cU,c2,↓an,aF,simprocAttr]
theorem VC (c:UInt8):((c.toNat:Int)).toNat.toUInt8=c:=by rw [apx];simp
theorem zz (c:UInt8) (n:Nat) (aV:n<256):((c.toNat:Int)=(n:Int))=(c=n.toUInt8):=by
 apply propext;constructor
 . intro q;have:c.toNat=n:=by omega
   rw [<-arw,this];simp;omega
 . intro q;subst q;simp;omega
theorem abi (c:UInt8):Lib.indexByte [110,116,34,92] c=if c=110 then 0 else if c=116 then 1 else if c=34 then 2 else if c=92 then 3 else -1:=by
 simp only [Lib.indexByte,aqZ];by_cases aa:c=110
 . subst aa;decide
 . by_cases ad:c=116
   . subst ad;decide
   . by_cases aJ:c=34
     . subst aJ;decide
     . by_cases bu:c=92
       . subst bu;decide
       . have aK:¬(110:UInt8)=c:=fun q=>aa q.symm;have aS:¬(116:UInt8)=c:=fun q=>ad q.symm;have bU:¬(34:UInt8)=c:=fun q=>aJ q.symm;have b9:¬(92:UInt8)=c:=fun q=>bu q.symm;simp only [aa,ad,aJ,bu,aK,aS,bU,b9,ap9];rfl
theorem H7 {c:UInt8} (h:e_ c=true):Lib.digitVal c=some (c.toNat-48):=by unfold Lib.digitVal;unfold e_ nG at h;simp only [apq,apF] at h;rw [apz (by omega)]
theorem X6 {a b c:UInt8} (aa:e_ a=true) (ad:e_ b=true) (aJ:e_ c=true):Lib.atoi [a,b,c]=some ((iZ [a,b,c]:Nat):Int):=by
 have bt:=aa;unfold e_ nG at bt;simp only [apq,apF] at bt;have di:(a == 45)=false:=by rw [aqL];rintro rfl;revert bt;decide
 have iO:(a == 43)=false:=by rw [aqL];rintro rfl;revert bt;decide
 simp [Lib.atoi,di,iO,Lib.decNat,Lib.decFrom,H7 aa,H7 ad,H7 aJ,iZ];omega
theorem abj (s:List UInt8) (a0:Nat) (b:aL) (h:ae) (ah:h.get b=e6 s a0 0) (aY:a0<s.length) (aZ:s.length<=100000) (gf:Old h b):
 c9 Tryz.prog 132 [.ptr b 0] h fun x ab=>Mod (fun q=>q=b) h ab/\match pG (s.drop (a0+1)) with
  | some (c,n)=>x=.int .u8 (c.toNat:Int)/\ab.get b=e6 s ((a0+1+n:Nat):Int) 0/\a0+1+n<=s.length
  | none=>x=.int .u8 0/\ab.get b=e6 s ((a0+1:Nat):Int) 252:=by
 refine YW.z rfl (cw ?_);unfold Ob;unfold e6 at ah ⊢;have bW:IntKind.i64.wrap ((a0:Int)+1)=((a0+1:Nat):Int):=by rw [wrap_i64 (by omega) (by omega)];rfl
 have f0:(0<=((a0+1:Nat):Int))=True:=apC (by omega);have f1:(((a0+1:Nat):Int)<=(s.length:Int))=True:=apC (by omega);have v7:(s.drop (a0+1)).length=s.length - (a0+1):=aqa;have z0:((0:Int)<=0)=True:=apC (by omega);have lO:∀v,aX.Mod (fun q=>q=b) h ((h.set b v)):=fun v=>(Mod.refl (fun q=>q=b) h).set (fun _=>rfl) _;cases cQ:s.drop (a0+1) with
 | nil=>
   simp +contextual only [ah,bW,f0,f1,apx,cQ,ap_,Int.natCast_zero,↓an,aF,simprocAttr];refine ⟨(lO _).set (fun _=>rfl) _,?_⟩;simp only [pG,dV,ap3,arj]
 | cons c r=>
   rw [cQ] at v7;rw [apB] at v7;have dw:(c::r=[])=False:=apy (by simp);have f2:((0:Int) < ((r.length+1:Nat):Int))=True:=apC (by omega);simp +contextual only [ah,bW,f0,f1,f2,dw,apx,cQ,Int.reduceToNat,z0,↓an,aF,simprocAttr];refine hB (Sk _ _ _) ?_;rw [VC,abi];have bx:IntKind.i64.wrap (((a0+1:Nat):Int)+1)=((a0+2:Nat):Int):=by rw [wrap_i64 (by omega) (by omega)];omega
   by_cases bK:c=110
   . subst bK;simp +contextual only [ah,bW,bx,f0,f1,f2,dw,apx,cQ,Int.reduceToNat,z0,apB,ap_,Nat.reduceAdd,Int.reduceLT,aqq,↓an,aF,simprocAttr];refine ⟨(lO _).set (fun _=>rfl) _,rfl,?_⟩;simp only [dV,ap3];refine ⟨trivial,by omega⟩
   by_cases bR:c=116
   . subst bR;simp +contextual only [ah,bW,bx,f0,f1,f2,dw,apx,cQ,Int.reduceToNat,z0,apB,ap_,Nat.reduceAdd,Int.reduceLT,aqq,bK,↓an,aF,simprocAttr];refine ⟨(lO _).set (fun _=>rfl) _,rfl,?_⟩;simp only [dV,ap3];refine ⟨trivial,by omega⟩
   by_cases c3:c=34
   . subst c3;simp +contextual only [ah,bW,bx,f0,f1,f2,dw,apx,cQ,Int.reduceToNat,z0,apB,ap_,Nat.reduceAdd,Int.reduceLT,aqq,bK,bR,↓an,aF,simprocAttr];refine ⟨(lO _).set (fun _=>rfl) _,rfl,?_⟩;simp only [dV,ap3];refine ⟨trivial,by omega⟩
   by_cases hU:c=92
   . subst hU;simp +contextual only [ah,bW,bx,f0,f1,f2,dw,apx,cQ,Int.reduceToNat,z0,apB,ap_,Nat.reduceAdd,Int.reduceLT,aqq,bK,bR,c3,↓an,aF,simprocAttr];refine ⟨(lO _).set (fun _=>rfl) _,rfl,?_⟩;simp only [dV,ap3];refine ⟨trivial,by omega⟩
   match r,cQ,v7,f2,dw with
   | [],cQ,v7,f2,dw=>
     simp +contextual only [ah,bW,bx,f0,f1,f2,dw,apx,cQ,Int.reduceToNat,z0,apB,ap_,Nat.reduceAdd,Int.reduceLT,aqq,bK,bR,c3,hU,↓an,aF,simprocAttr];refine ⟨(lO _).set (fun _=>rfl) _,?_⟩;simp [pG,bK,bR,c3,hU,dV]
   | [_],cQ,v7,f2,dw=>
     simp +contextual only [ah,bW,bx,f0,f1,f2,dw,apx,cQ,Int.reduceToNat,z0,apB,ap_,Nat.reduceAdd,Int.reduceLT,aqq,bK,bR,c3,hU,↓an,aF,simprocAttr];refine ⟨(lO _).set (fun _=>rfl) _,?_⟩;simp [pG,bK,bR,c3,hU,dV]
   | d1::d2::a_,cQ,v7,f2,dw=>
     simp only [apB] at v7;have g3:((3:Int)<=((a_.length+3:Nat):Int))=True:=apC (by omega);have g2:((2:Int) < ((a_.length+3:Nat):Int))=True:=apC (by omega);have g1:((1:Int) < ((a_.length+3:Nat):Int))=True:=apC (by omega);have g0:((0:Int) < ((a_.length+3:Nat):Int))=True:=apC (by omega);have em:pG (c::d1::d2::a_)=if e_ c/\e_ d1/\e_ d2/\iZ [c,d1,d2]<256 then some ((iZ [c,d1,d2]).toUInt8,3) else none:=by simp [pG,bK,bR,c3,hU]
     rw [em];simp +contextual only [ah,bW,bx,f0,f1,g0,g1,g2,g3,dw,apx,cQ,Int.reduceToNat,z0,apB,ap_,Nat.reduceAdd,Int.reduceLT,aqq,bK,bR,c3,hU,↓an,aF,simprocAttr];refine hB (xS _ _) ?_;have dg:∀x:UInt8,nG (x.toNat:Int)=e_ x:=fun _=>rfl;simp only [dg];cases adr:e_ c with
     | false=>
       simp +contextual only [ah,bW,bx,f0,f1,g0,g1,g2,g3,dw,apx,cQ,Int.reduceToNat,z0,apB,ap_,Nat.reduceAdd,Int.reduceLT,aqq,bK,bR,c3,hU,arI,apH,↓an,aF,simprocAttr];exact (lO _).set (fun _=>rfl) _
     | true=>
       simp +contextual only [ah,bW,bx,f0,f1,g0,g1,g2,g3,dw,apx,cQ,Int.reduceToNat,z0,apB,ap_,Nat.reduceAdd,Int.reduceLT,aqq,bK,bR,c3,hU,↓an,aF,simprocAttr];refine hB (xS _ _) ?_;simp only [dg];cases Ez:e_ d1 with
       | false=>
         simp +contextual only [ah,bW,bx,f0,f1,g0,g1,g2,g3,dw,apx,cQ,Int.reduceToNat,z0,apB,ap_,Nat.reduceAdd,Int.reduceLT,aqq,bK,bR,c3,hU,arI,and_false,apH,↓an,aF,simprocAttr];exact (lO _).set (fun _=>rfl) _
       | true=>
         simp +contextual only [ah,bW,bx,f0,f1,g0,g1,g2,g3,dw,apx,cQ,Int.reduceToNat,z0,apB,ap_,Nat.reduceAdd,Int.reduceLT,aqq,bK,bR,c3,hU,↓an,aF,simprocAttr];refine hB (xS _ _) ?_;simp only [dg];cases EA:e_ d2 with
         | false=>
           simp +contextual only [ah,bW,bx,f0,f1,g0,g1,g2,g3,dw,apx,cQ,Int.reduceToNat,z0,apB,ap_,Nat.reduceAdd,Int.reduceLT,aqq,bK,bR,c3,hU,arI,and_false,apH,↓an,aF,simprocAttr];exact (lO _).set (fun _=>rfl) _
         | true=>
           have z3:((0:Int)<=3)=True:=apC (by omega);simp +contextual only [ah,bW,bx,f0,f1,g0,g1,g2,g3,z3,dw,apx,cQ,Int.reduceToNat,z0,apB,ap_,Nat.reduceAdd,Int.reduceLT,aqq,bK,bR,c3,hU,↓an,aF,simprocAttr];refine hB (X7 [c,d1,d2] _ (by simp) (X6 adr Ez EA) _) ?_;have np:IntKind.i64.wrap (((a0+1:Nat):Int)+3)=((a0+4:Nat):Int):=by rw [wrap_i64 (by omega) (by omega)];omega
           generalize bs:iZ [c,d1,d2]=v;by_cases EY:(v:Int)<256
           . have i':IntKind.u8.wrap (v:Int)=((v.toUInt8).toNat:Int):=by
              simp [IntKind.wrap,IntKind.bits,IntKind.signed]
             have J3:v<256:=by omega
             simp +contextual only [ah,bW,bx,np,i',f0,f1,g0,g1,g2,g3,dw,EY,J3,apx,cQ,Int.reduceToNat,z0,apB,ap_,Nat.reduceAdd,Int.reduceLT,aqq,bK,bR,c3,hU,and_self,arj,↓an,aF,simprocAttr];refine ⟨(lO _).set (fun _=>rfl) _,?_⟩
             first | omega | (refine ⟨?_,by omega⟩;simp [dV]) | skip
           . have J3:¬v<256:=by omega
             simp +contextual only [ah,bW,bx,np,f0,f1,g0,g1,g2,g3,dw,EY,J3,apx,cQ,Int.reduceToNat,z0,apB,ap_,Nat.reduceAdd,Int.reduceLT,aqq,bK,bR,c3,hU,and_false,↓an,aF,simprocAttr];exact (lO _).set (fun _=>rfl) _
theorem amO (c:UInt8) (n:Nat) (aV:n<256):((c.toNat:Int) < (n:Int))=(c<n.toUInt8):=by
 apply propext;rw [UInt8.lt_iff_toNat_lt];have:(n.toUInt8).toNat=n:=by simp;omega
 rw [this];omega
theorem amw (s:List UInt8) (a0:Nat) (b:aL) (h:ae) (ah:h.get b=e6 s a0 0) (aY:a0<s.length) (aZ:s.length<=100000) (gf:Old h b):
 c9 Tryz.prog 122 [.ptr b 0] h (ot s a0 b h (tg (s.drop (a0+1)))):=by
 refine YP.z rfl (cw ?_);unfold N4;have cU:(b=aw h.next)=False:=B3 gf (apv _);have c2:(aw h.next=b)=False:=by rw [<-cU];exact propext eq_comm
 have bW:IntKind.i64.wrap ((a0:Int)+1)=((a0+1:Nat):Int):=by rw [wrap_i64 (by omega) (by omega)];rfl
 unfold e6 at ah;simp +contextual only [ah,cU,c2,bW,↓an,aF,simprocAttr];have y1:∀{v:V} {ab:ae} {n:Nat} {us:List V},dS (h.next+1) ab 1 v n us->∀q,v.aW q->¬(fun q=>q=b) q:=by
  intro v ab n us gy q az he;have aa:=gy.base az;rw [show q=b from he] at aa;have ad:bX b<h.next:=gf
  omega
 have Yn:∀{v:V} {ab:ae} {n:Nat} {us:List V},dS (h.next+1) ab 1 v n us->∀i,i<h.next+1->¬v.aW (aw i):=by intro v ab n us gy i ax az;have aa:=gy.base az;rw [c1] at aa;omega
 refine gl (fun r ab=>r 0=.ptr b 0/\r 2=.ptr (aw h.next) 0/\∃(a:Nat) (e:Int) (e4:List UInt8) (v:V),r 3=v/\ab.get b=.bQ [.str s,.int .i64 a,.int .i64 e] 0 false/\a<=s.length/\a0+1<=a/\e4.length<=a/\
  ab.get (aw h.next)=.bQ [.int .i64 0,.int .i64 0,.int .i64 0,.str []] 0 false/\Mod (fun q=>q=b) h ab/\h.next+1<=ab.next/\dS (h.next+1) ab 1 v e4.length (h' e4)/\
  ((e=0/\qt (s.drop (a0+1))=(qt (s.drop a)).map fun q=>(e4++q.1,q.2 + (a - (a0+1))))\/(e=252/\qt (s.drop (a0+1))=none)))
  (fun r ab=>(s.length - ((fZ (ab.get b) 1).getD .bad).toN) + (252 - ((fZ (ab.get b) 2).getD .bad).toN)) ?_ ?_
 . refine ⟨by simp only [cU,c2,↓an,aF,simprocAttr],by simp only [cU,c2,↓an,aF,simprocAttr],a0+1,0,[],.bg,by simp only [cU,c2,↓an,aF,simprocAttr],by simp only [cU,c2,↓an,aF,simprocAttr],by omega,by omega,by simp,by simp only [cU,c2,↓an,aF,simprocAttr],?_,?_,⟨rfl,rfl⟩,.inl ⟨rfl,?_⟩⟩
   . exact (((Ext.refl h).new _).mod (fun q=>q=b)).self _
   . rw [nd,f_];exact apv _
   . rw [aq7];cases qt (s.drop (a0+1))<;>rfl
 . rintro r ab ⟨bh,dc,a,e,e4,v,ct,aG,b7,jK,g',bk,hm,l',gy,bz⟩;unfold N5;have RS:Old ab b:=hm.bG gf;have fin:∀(ad:ae) (bl:Int),qt (s.drop (a0+1))=none->Mod (fun q=>q=b) h ad->ad.get b=.bQ [.str s,.int .i64 bl,.int .i64 252] 0 false->
    ot s a0 b h (tg (s.drop (a0+1))) (.agg [.int .i64 0,.int .i64 0,.int .i64 0,.str []]) (ad.set (aw h.next) (.bQ [.int .i64 0,.int .i64 0,.int .i64 0,.str []] 0 false)):=by
    intro ad bl aV nQ vS;unfold tg;rw [aV];refine ⟨nQ.set (fun q=>absurd (show bX (aw h.next)<h.next from q) (by rw [c1];omega)) _,_,_,_,rfl,by decide,bl,?_⟩;rw [dV,apw (by rw [c2];exact id),vS];rfl
   have step:∀(ad:ae),Mod (fun q=>q=b) h ad->ab.next<=ad.next->dS (h.next+1) ad 1 v e4.length (h' e4)->∀(c:UInt8),∃v3 aJ,jZ 1 v (.slice (aw ad.next) 0 1 1) (ad.new (.bQ [.int .u8 (c.toNat:Int)] 0 false))=.val v3 aJ/\dS (h.next+1) aJ 1 v3 (e4++[c]).length (h' (e4++[c]))/\Mod (fun q=>q=b) h aJ/\h.next+1<=aJ.next/\aJ.get b=ad.get b/\aJ.get (aw h.next)=ad.get (aw h.next):=by
    intro ad nQ aoo ji c;obtain ⟨v3,aJ,ak,al,aI,bB,cG⟩:=Ai (cs:=[.int .u8 (c.toNat:Int)]) (by omega) ji (by omega) (by unfold top;omega) rfl rfl;refine ⟨v3,aJ,ak,by rw [apD,NG];exact al,nQ.amz aI (fun q az=>aqo (Nat.le_succ _) (ji.base az)),by omega,?_,?_⟩
    . exact aI.get _ (nQ.bG gf) (fun az=>y1 ji _ az rfl)
    . exact aI.get _ (hv (by omega)) (Yn ji _ (by omega))
   rcases bz with ⟨rfl,bz⟩ | ⟨rfl,bz⟩
   . by_cases fO:(s.length:Int)<=(a:Int)
     . have bt:a=s.length:=by omega
       rw [bt,are,amv] at bz;simp +contextual only [bh,dc,ct,aG,fO,bk,cU,c2,↓an,aF,simprocAttr];exact fin _ _ bz (hm.set (fun _=>rfl) _) (by rw [dV,apz rfl])
     . have aR:a<s.length:=by omega
       rw [drop_cons aR,amu] at bz;have f0:(0<=(a:Int))=True:=apC (by omega);have f1:((a:Int) < (s.length:Int))=True:=apC (by omega);have bx:IntKind.i64.wrap ((a:Int)+1)=((a+1:Nat):Int):=by rw [wrap_i64 (by omega) (by omega)];rfl
       have k1:(((s[a]).toNat:Int)=34)=(s[a]=34):=zz _ 34 (by omega);have Ie:(((s[a]).toNat:Int)=92)=(s[a]=92):=zz _ 92 (by omega);have P0:(((s[a]).toNat:Int)=127)=(s[a]=127):=zz _ 127 (by omega);have SH:(((s[a]).toNat:Int)<32)=(s[a]<32):=amO _ 32 (by omega);by_cases bK:s[a]=34
       . rw [apz bK] at bz;replace bK:(s[a]=34)=True:=apC bK;simp only [aqV,aqF] at bz;by_cases AZ:(4096:Int) < (e4.length:Int)
         . have ji:∀k cj,dS (h.next+1) ((ab.set b k).set b cj) 1 v e4.length (h' e4):=fun k cj=>gy.mod (((Mod.refl (fun q=>q=b) ab).set (fun _=>rfl) _).set (fun _=>rfl) _) (y1 gy);simp +contextual only [bh,dc,ct,aG,fO,bk,cU,c2,f0,f1,bx,k1,bK,gy.v.len,AZ,Px (ji _ _),apr aR,apx,↓an,aF,simprocAttr];refine ⟨((hm.set (fun _=>rfl) _).set (fun _=>rfl) _).set (fun q=>absurd (show bX (aw h.next)<h.next from q) (by rw [c1];omega)) _,_,_,_,rfl,?_⟩;unfold tg;rw [bz];simp only;rw [apz (by omega)];refine ⟨by decide,((a+1:Nat):Int),?_⟩;simp only [e6,cU,c2,↓an,aF,simprocAttr]
         . have ji:∀k,dS (h.next+1) (ab.set b k) 1 v e4.length (h' e4):=fun k=>gy.mod ((Mod.refl (fun q=>q=b) ab).set (fun _=>rfl) _) (y1 gy);simp +contextual only [bh,dc,ct,aG,fO,bk,cU,c2,f0,f1,bx,k1,bK,gy.v.len,AZ,Px (ji _),apr aR,apx,↓an,aF,simprocAttr];refine ⟨(hm.set (fun _=>rfl) _).set (fun q=>absurd (show bX (aw h.next)<h.next from q) (by rw [c1];omega)) _,_,_,_,rfl,?_⟩;unfold tg;rw [bz];simp only;rw [apw (by omega)];refine ⟨rfl,rfl,rfl,?_,?_⟩
           . simp only [e6,cU,c2,↓an,aF,simprocAttr];rw [show a0 + (1 + (a - (a0+1))+1)=a+1 from by omega]
           . simp only;omega
       rw [apw bK] at bz;by_cases bR:s[a]=92
       . rw [apz bR] at bz;replace bR:(s[a]=92)=True:=apC bR;simp +contextual only [bh,dc,ct,aG,fO,bk,cU,c2,f0,f1,bx,k1,Ie,bK,bR,apr aR,apx,↓an,aF,simprocAttr];refine cu (abj s a b ab aG aR aZ RS) ?_;rintro x ad ⟨nQ,aj⟩;have ji:=gy.mod nQ (y1 gy);have ri:ad.get (aw h.next)=.bQ [.int .i64 0,.int .i64 0,.int .i64 0,.str []] 0 false:=by
          rw [nQ.get _ (hv (by omega)) (by rw [c2];exact id),bk]
         have B5:=nQ.next
         obtain ⟨c,ao,yw⟩:∃c:UInt8,x=.int .u8 (c.toNat:Int)/\((∃n,pG (s.drop (a+1))=some (c,n)/\ad.get b=e6 s ((a+1+n:Nat):Int) 0/\a+1+n<=s.length)\/(pG (s.drop (a+1))=none/\ad.get b=e6 s ((a+1:Nat):Int) 252)):=by
          cases ym:pG (s.drop (a+1)) with
          | none=>rw [ym] at aj;exact ⟨0,aj.1,.inr ⟨rfl,aj.2⟩⟩
          | some q=>rw [ym] at aj;exact ⟨q.1,aj.1,.inl ⟨q.2,rfl,aj.2⟩⟩
         subst ao;obtain ⟨v3,aJ,ak,al,aI,bB,cG,ef⟩:=step ad (hm.trans nQ) B5 ji c;have Uw:dS (h.next+1) aJ 1 v3 (e4.length+1) (h' (e4++[c])):=by rw [apD] at al;exact al
         have By:aJ.get (aw h.next)=.bQ [.int .i64 0,.int .i64 0,.int .i64 0,.str []] 0 false:=by rw [ef,ri]
         unfold e6 at yw;rcases yw with ⟨n,ym,vS,hle⟩ | ⟨ym,vS⟩
         . simp +contextual only [ak,bh,dc,aG,vS,cG,cU,c2,↓an,aF,simprocAttr];rw [ym] at bz;simp only at bz;refine ⟨⟨a+1+n,0,e4++[c],rfl,hle,by omega,by simp;omega,By,aI,bB,al,.inl ⟨rfl,?_⟩⟩,by omega⟩;rw [bz,aqU,arH];congr 1;funext q;simp only [Function.comp,aqc,List.singleton_append,aqD,arj];omega
         . simp +contextual only [ak,bh,dc,aG,vS,cG,cU,c2,↓an,aF,simprocAttr];rw [ym] at bz;exact ⟨⟨a+1,252,e4++[c],rfl,by omega,by omega,by simp;omega,By,aI,bB,al,.inr ⟨rfl,bz⟩⟩,by omega⟩
       rw [apw bR] at bz;by_cases c3:s[a]<32\/s[a]=127
       . rw [apz c3] at bz;have px:(decide (s[a]<32)||decide (s[a]=127))=true:=by simpa using c3
         simp +contextual only [bh,dc,ct,aG,fO,bk,cU,c2,f0,f1,bx,k1,Ie,P0,SH,bK,bR,px,apr aR,apx,↓an,aF,simprocAttr];exact ⟨⟨a,252,e4,rfl,b7,jK,g',hm.self _,l',gy.mod ((Mod.refl (fun q=>q=b) ab).self _) (y1 gy),.inr ⟨rfl,bz⟩⟩,by omega⟩
       . rw [apw c3] at bz;have px:(decide (s[a]<32)||decide (s[a]=127))=false:=by simpa using c3
         obtain ⟨v3,aJ,ak,al,aI,bB,cG,ef⟩:=step (ab.set b (.bQ [.str s,.int .i64 ((a+1:Nat):Int),.int .i64 0] 0 false)) (hm.self _) (by rw [nd];exact apv _) (gy.mod ((Mod.refl (fun q=>q=b) ab).self _) (y1 gy)) s[a];simp only [nd,dV,cU,c2,ap3,ap9] at ak cG ef;simp +contextual only [ak,bh,dc,ct,aG,fO,bk,cU,c2,f0,f1,bx,k1,Ie,P0,SH,bK,bR,px,cG,apr aR,apx,↓an,aF,simprocAttr];refine ⟨⟨a+1,0,e4++[s[a]],rfl,by omega,by omega,by simp;omega,by rw [ef,bk],aI,bB,al,.inl ⟨rfl,?_⟩⟩,by omega⟩;rw [bz,arH];congr 1;funext q;simp only [Function.comp,aqc,List.singleton_append,aqD,arj];omega
   . simp +contextual only [bh,dc,ct,aG,bk,cU,c2,↓an,aF,simprocAttr];exact fin _ _ bz hm aG
def Kn:List UInt8:=[32,97,110,100,32,98,101,103,105,110,32,101,108,115,101,32,101,110,100,32,101,120,99,101,112,116,105,111,110,32,102,97,108,115,101,32,102,117,110,32,105,102,32,105,110,32,108,101,116,32,109,97,116,99,104,32,109,111,100,32,111,102,32,114,97,105,115,101,32,114,101,99,32,116,104,101,110,32,116,114,117,101,32,116,114,121,32,116,121,112,101,32,119,105,116,104,32]
def tS:List (List UInt8)->List UInt8
 | []=>[32]
 | w::L=>32::(w++tS L)
theorem abP:tS Km=Kn:=by decide
theorem abO (L:List (List UInt8)):∃r,tS L=32::r:=by cases L<;>exact ⟨_,rfl⟩
theorem index_ge (sub:List UInt8):∀l:List UInt8,-1<=Lib.index l sub
 | []=>by simp only [Lib.index];split<;>decide
 | b::l=>by
   have:=index_ge sub l;simp only [Lib.index]
   split
   . decide
   . split<;>omega
theorem Sm (sub:List UInt8) (b:UInt8) (l:List UInt8):(0<=Lib.index (b::l) sub)↔(sub.isPrefixOf (b::l)=true\/0<=Lib.index l sub):=by
 have:=index_ge sub l;simp only [Lib.index]
 split
 . rename_i h;simp [h]
 . rename_i h
   split
   . rename_i ad;have:Lib.index l sub=-1:=by simpa using ad
     simp [h,this]
   . rename_i ad;have aJ:¬Lib.index l sub=-1:=by simpa using ad
     simp only [h,apH,false_or];omega
theorem So (x:List UInt8) (r:List UInt8):∀w:List UInt8,(32:UInt8) ∉ w->((0<=Lib.index (w++r) (32::x))↔0<=Lib.index r (32::x))
 | [],_=>Iff.rfl
 | b::w,h=>by
   rw [apS,Sm,So x r w (fun q=>h (apZ _ q))];have ah:((32:UInt8) == b)=false:=by rw [aqL];rintro rfl;exact h (aqb ..)
   simp [List.isPrefixOf,ah]
theorem Ug (r:List UInt8):∀(t w:List UInt8),(32:UInt8) ∉ t->(32:UInt8) ∉ w->((t++[32]).isPrefixOf (w++32::r)=true↔t=w)
 | [],[],_,_=>by simp [List.isPrefixOf]
 | [],b::w,_,h=>by
   have ah:((32:UInt8) == b)=false:=by rw [aqL];rintro rfl;exact h (aqb ..)
   simp [List.isPrefixOf,ah]
 | a::t,[],h,_=>by
   have ah:(a == (32:UInt8))=false:=by rw [aqL];rintro rfl;exact h (aqb ..)
   simp [List.isPrefixOf,ah]
 | a::t,b::w,h,ab=>by have bb:=Ug r t w (fun q=>h (apZ _ q)) (fun q=>ab (apZ _ q));simp only [apS,List.isPrefixOf,apq,aqZ,bb,ary]
theorem Sn (t:List UInt8) (aE:(32:UInt8) ∉ t):∀L:List (List UInt8),(∀w ∈ L,(32:UInt8) ∉ w)->((0<=Lib.index (tS L) (32::(t++[32])))↔t ∈ L)
 | [],_=>by cases t<;>simp [tS,Lib.index,List.isPrefixOf]
 | w::L,h=>by
   have bb:=Sn t aE L (fun x aj=>h x (apZ _ aj));have hw:=h w (aqb ..);obtain ⟨r,aC⟩:=abO L;simp only [tS];rw [Sm,So _ _ _ hw,bb,apJ];have:(32::(t++[32])).isPrefixOf (32::(w++tS L))=(t++[32]).isPrefixOf (w++tS L):=by simp [List.isPrefixOf]
   rw [this,aC,Ug r t w aE hw]
theorem aac (t:List UInt8) (aE:(32:UInt8) ∉ t):Lib.contains Kn (32::(t++[32]))=sS t:=by have:=Sn t aE Km (by decide);rw [abP] at this;unfold Lib.contains sS;rw [aqm,apF,this];simp
theorem aiH {l:List UInt8}:(32:UInt8) ∉ l.takeWhile f':=fun h=>by have:=Vs _ h;revert this;decide
theorem Fv (s:List UInt8) (a0:Nat) (k:Int) (b:aL) (h:ae) (ah:h.get b=e6 s a0 0) (aY:a0<=s.length) (aZ:s.length<=100000) (gf:Old h b):
 c9 Tryz.prog 124 [.ptr b 0,.int .i64 k] h (ot s a0 b h (j_ k (s.drop a0))):=by
 refine YR.z rfl (cw ?_);unfold N7;have cU:(b=aw h.next)=False:=B3 gf (apv _);have c2:(aw h.next=b)=False:=by rw [<-cU];exact propext eq_comm
 simp +contextual only [ah,cU,c2,↓an,aF,simprocAttr];have aj:Ext h (h.new (.bQ [.int .i64 0,.int .i64 0,.int .i64 0,.str []] 0 false)):=(Ext.refl h).new _;refine cu (UU s a0 0 b 133 wF _ (by rw [aj.get _ gf,ah]) aY aZ (by decide) (fun c h=>ais c h)) ?_;rintro x aa ⟨rfl,hm,aG⟩;have kp:(fun c:UInt8=>wF (c.toNat:Int))=f':=rfl;rw [kp] at aG ⊢;have v_:Mod (fun q=>q=b) h aa:=(aj.mod _).trans hm;have g1:aa.get (aw h.next)=.bQ [.int .i64 0,.int .i64 0,.int .i64 0,.str []] 0 false:=by rw [hm.get _ (hv (by rw [f_];omega)) (by rw [c2];exact id)];simp only [↓an,aF,simprocAttr]
 have hlen:=Vt f' s a0;have acN:(32:UInt8) ∉ (s.drop a0).takeWhile f':=aiH;unfold e6 at aG;have ue:j_ k (s.drop a0)=if k=3/\(s.drop a0).takeWhile f'=[95] then .ok (7,0,(s.drop a0).takeWhile f',((s.drop a0).takeWhile f').length) else if k=3/\sS ((s.drop a0).takeWhile f') then .ok (6,0,(s.drop a0).takeWhile f',((s.drop a0).takeWhile f').length) else if 64 < ((s.drop a0).takeWhile f').length then .error 255 else .ok (k,0,(s.drop a0).takeWhile f',((s.drop a0).takeWhile f').length):=rfl;rw [ue];generalize (s.drop a0).takeWhile f'=t at *;have FF:∀(cT:Int),ot s a0 b h (.ok (cT,0,t,t.length)) (.agg [.int .i64 cT,.int .i64 0,.int .i64 0,.str t]) (aa.set (aw h.next) (.bQ [.int .i64 cT,.int .i64 0,.int .i64 0,.str t] 0 false)):=by intro cT;refine ⟨v_.fresh (apv _) _,_,_,_,rfl,rfl,rfl,rfl,?_,by show a0+t.length<=s.length;omega⟩;rw [dV,apw (by rw [c2];exact id),aG];rfl
 have tail:(64<t.length->ot s a0 b h (.error 255) (.agg [.int .i64 k,.int .i64 0,.int .i64 0,.str t]) ((aa.set b (.bQ [.str s,.int .i64 ((a0+t.length:Nat):Int),.int .i64 255] 0 false)).set (aw h.next) (.bQ [.int .i64 k,.int .i64 0,.int .i64 0,.str t] 0 false))):=by intro aA;refine ⟨(v_.self _).fresh (apv _) _,_,_,_,rfl,by decide,((a0+t.length:Nat):Int),?_⟩;simp only [e6,cU,c2,↓an,aF,simprocAttr]
 by_cases aB:k=3
 . subst aB;by_cases hu:t=[95]
   . simp +contextual only [g1,aG,cU,c2,hu,arj,↓an,aF,simprocAttr];subst hu;exact FF 7
   . have t1:(1+t.length<=top)=True:=apC (by unfold top;omega);have t2:(t.length+1+1<=top)=True:=apC (by unfold top;omega);simp only [top] at t1 t2;simp +contextual only [g1,aG,cU,c2,hu,arj,apD,t1,t2,↓an,aF,simprocAttr];refine hB (aab Kn (32::(t++[32])) (by decide) _) ?_;rw [aac t acN];cases Jn:sS t with
     | true=>
       simp +contextual only [g1,aG,cU,c2,hu,arj,and_false,Jn,apD,t1,t2,↓an,aF,simprocAttr];exact FF 6
     | false=>
       by_cases aA:64<t.length
       . have fg:(64:Int) < (t.length:Int):=by omega
         simp +contextual only [g1,aG,cU,c2,hu,aA,fg,arj,and_false,Jn,apD,t1,t2,apH,↓an,aF,simprocAttr];exact tail aA
       . have fg:¬(64:Int) < (t.length:Int):=by omega
         simp +contextual only [g1,aG,cU,c2,hu,aA,fg,arj,and_false,Jn,apD,t1,t2,apH,↓an,aF,simprocAttr];exact FF 3
 . by_cases aA:64<t.length
   . have fg:(64:Int) < (t.length:Int):=by omega
     simp +contextual only [g1,aG,cU,c2,aB,aA,fg,arI,↓an,aF,simprocAttr];exact tail aA
   . have fg:¬(64:Int) < (t.length:Int):=by omega
     simp +contextual only [g1,aG,cU,c2,aB,aA,fg,arI,↓an,aF,simprocAttr];exact FF k
def zo:List V:=ju.map V.str
theorem alM (h:ae):c9 Tryz.prog 126 [] h fun x ab=>x=.slice (aw h.next) 0 17 17/\ab=h.new (.bQ zo 0 false):=by refine YT.z rfl (cw ?_);unfold N9;simp +contextual only [↓an,aF,simprocAttr];rfl
theorem alK {i:Nat} (ax:i<17):zo[i]? =some (.str (ju[i]'ax)):=by unfold zo;rw [aqi,apr (show i<ju.length from ax)];rfl
theorem abJ (p:List UInt8->Bool) {i:Nat} (ax:i<17):(ju.drop i).find? p=if p (ju[i]'ax) then some (ju[i]'ax) else (ju.drop (i+1)).find? p:=by rw [ap0 (show i<ju.length from ax),List.find?_cons];cases p ju[i]<;>rfl
theorem ot.store {s:List UInt8} {p:Nat} {b:aL} {h:ae} {z cj:b1} {res:tG} {x:V} {aa:ae} (w:ot s p b (h.new z) res x aa) (gf:Old h b):ot s p b h res x (aa.set (aw h.next) cj):=by
 have c2:¬(aw h.next=b):=by
  intro q;have:bX b<h.next:=gf
  rw [<-q,c1] at this;omega
 obtain ⟨hm,k,n,t,aj,aC⟩:=w;refine ⟨((((Ext.refl h).new z).mod _).trans hm).fresh (apv _) _,k,n,t,aj,?_⟩;cases res with
 | ok q=>simpa only [dV,apw c2] using aC
 | error e=>simpa only [dV,apw c2] using aC
theorem ajk (s:List UInt8) (a0:Nat) (b:aL) (h:ae) (ah:h.get b=e6 s a0 0) (aY:a0<s.length) (aZ:s.length<=100000) (gf:Old h b):
 c9 Tryz.prog 116 [.ptr b 0] h (ot s a0 b h (gm (s.drop a0))):=by
 refine YK.z rfl (cw ?_);unfold NZ;have cU:(b=aw h.next)=False:=B3 gf (apv _);have c2:(aw h.next=b)=False:=by rw [<-cU];exact propext eq_comm
 have iz:=ah;unfold e6 at ah;have f0:(0<=(a0:Int))=True:=apC (by omega);have f1:((a0:Int) < (s.length:Int))=True:=apC (by omega);have aj:Ext h (h.new (.bQ [.int .i64 0,.int .i64 0,.int .i64 0,.str []] 0 false)):=(Ext.refl h).new _;have ys:Old (h.new (.bQ [.int .i64 0,.int .i64 0,.int .i64 0,.str []] 0 false)) b:=aj.bG gf;have A1:(h.new (.bQ [.int .i64 0,.int .i64 0,.int .i64 0,.str []] 0 false)).get b=e6 s a0 0:=by rw [aj.get _ gf,iz]
 have x7:∀{res:tG} {x:V} {aa:ae},ot s a0 b (h.new (.bQ [.int .i64 0,.int .i64 0,.int .i64 0,.str []] 0 false)) res x aa->aa.get (aw h.next)=.bQ [.int .i64 0,.int .i64 0,.int .i64 0,.str []] 0 false:=by intro res x aa w;rw [w.mod.get _ (hv (by rw [f_];omega)) (by rw [c2];exact id)];simp only [↓an,aF,simprocAttr]
 have aH:=drop_cons aY;rw [aH];have dg:nG ((s[a0]).toNat:Int)=e_ s[a0]:=rfl;have k1:(((s[a0]).toNat:Int)=34)=(s[a0]=34):=zz _ 34 (by omega);have tP:(((s[a0]).toNat:Int)=95)=(s[a0]=95):=zz _ 95 (by omega);have xU:(((s[a0]).toNat:Int)=39)=(s[a0]=39):=zz _ 39 (by omega);simp +contextual only [ah,cU,c2,f0,f1,apr aY,apx,↓an,aF,simprocAttr];refine hB (xS _ _) ?_;rw [dg];cases aa:e_ s[a0] with
 | true=>
   have cI:gm (s[a0]::s.drop (a0+1))=y2 (s.drop a0):=by rw [aH];simp only [gm,aa,ap3]
   rw [cI];simp +contextual only [ah,cU,c2,f0,f1,apr aY,apx,↓an,aF,simprocAttr];refine cu (ajt s a0 b _ A1 aY aZ ys aa) ?_;rintro x af w;have g1:=x7 w;obtain ⟨k,n,t,rfl,_⟩:=w.res;simp +contextual only [g1,ah,cU,c2,f0,f1,↓an,aF,simprocAttr];exact w.store gf
 | false=>
   by_cases ad:s[a0]=34
   . have cI:gm (s[a0]::s.drop (a0+1))=tg (s.drop (a0+1)):=by simp only [gm];rw [apw (by rw [aa];exact aqP),apz ad]
     rw [cI];replace ad:=apC ad;simp +contextual only [ah,cU,c2,f0,f1,k1,ad,apr aY,apx,↓an,aF,simprocAttr];refine cu (amw s a0 b _ A1 aY aZ ys) ?_;rintro x af w;have g1:=x7 w;obtain ⟨k,n,t,rfl,_⟩:=w.res;simp +contextual only [g1,ah,cU,c2,f0,f1,↓an,aF,simprocAttr];exact w.store gf
   simp +contextual only [ah,cU,c2,f0,f1,k1,ad,apr aY,apx,↓an,aF,simprocAttr];refine hB (Gu _ _) ?_;by_cases aJ:(iX ((s[a0]).toNat:Int)||decide (s[a0]=95))=true
   . have cI:gm (s[a0]::s.drop (a0+1))=j_ 3 (s.drop a0):=by rw [aH];simp only [gm,aa,ad,aJ,apH,ap9,ap3]
     rw [cI];have fin:qL Tryz.prog 124 [.ptr b 0,.int .i64 3] (some 33) none [] [] (fun _=>.bad) h (fun _ _ _=>True)->True:=fun _=>trivial;cases JX:iX ((s[a0]).toNat:Int) with
     | true=>
       simp +contextual only [ah,cU,c2,f0,f1,k1,ad,JX,apr aY,apx,↓an,aF,simprocAttr];refine cu (Fv s a0 3 b _ A1 (by omega) aZ ys) ?_;rintro x af w;have g1:=x7 w;obtain ⟨k,n,t,rfl,_⟩:=w.res;simp +contextual only [g1,ah,cU,c2,f0,f1,↓an,aF,simprocAttr];exact w.store gf
     | false=>
       rw [JX,arF,apF] at aJ;replace aJ:=apC aJ;simp +contextual only [ah,cU,c2,f0,f1,k1,tP,ad,aJ,JX,apr aY,apx,↓an,aF,simprocAttr];refine cu (Fv s a0 3 b _ A1 (by omega) aZ ys) ?_;rintro x af w;have g1:=x7 w;obtain ⟨k,n,t,rfl,_⟩:=w.res;simp +contextual only [g1,ah,cU,c2,f0,f1,↓an,aF,simprocAttr];exact w.store gf
   . have Q6:=aJ;rw [ap2,aq5,aql] at Q6;obtain ⟨acP,acQ⟩:=Q6;simp +contextual only [ah,cU,c2,f0,f1,k1,tP,ad,acP,acQ,apr aY,apx,↓an,aF,simprocAttr];refine hB (QU _ _) ?_;cases bu:oJ ((s[a0]).toNat:Int) with
     | true=>
       have cI:gm (s[a0]::s.drop (a0+1))=j_ 4 (s.drop a0):=by rw [aH];simp only [gm,aa,ad,aJ,bu,apH,ap9,ap3]
       rw [cI];simp +contextual only [ah,cU,c2,f0,f1,apr aY,apx,↓an,aF,simprocAttr];refine cu (Fv s a0 4 b _ A1 (by omega) aZ ys) ?_;rintro x af w;have g1:=x7 w;obtain ⟨k,n,t,rfl,_⟩:=w.res;simp +contextual only [g1,ah,cU,c2,f0,f1,↓an,aF,simprocAttr];exact w.store gf
     | false=>
       have bW:IntKind.i64.wrap ((a0:Int)+1)=((a0+1:Nat):Int):=by rw [wrap_i64 (by omega) (by omega)];rfl
       have f2:(0<=((a0+1:Nat):Int))=True:=apC (by omega);by_cases cV:s[a0]=39/\q1 (s.drop (a0+1))
       . have cI:gm (s[a0]::s.drop (a0+1))=(j_ 5 (s.drop (a0+1))).map fun q=>(q.1,q.2.1,q.2.2.1,q.2.2.2+1):=by simp only [gm];rw [apw (by rw [aa];exact aqP),apw ad,apw aJ,apw (by rw [bu];exact aqP),apz cV]
         rw [cI];obtain ⟨Ek,El⟩:=cV;replace Ek:=apC Ek;have aR:a0+1<s.length:=by
          by_cases q:a0+1<s.length
          . exact q
          . rw [aqv (by omega)] at El;cases El
         rw [drop_cons aR] at El;have f3:(((a0+1:Nat):Int) < (s.length:Int))=True:=apC (by omega);simp +contextual (maxSteps:=1000000) only [ah,cU,c2,f0,f1,f2,f3,bW,k1,tP,xU,ad,Ek,apr aY,apr aR,apx,↓an,aF,simprocAttr];refine hB (Gu _ _) ?_;rw [show iX ((s[a0+1]).toNat:Int)=true from El];simp +contextual (maxSteps:=1000000) only [ah,cU,c2,f0,f1,f2,f3,bW,k1,tP,xU,ad,Ek,apr aY,apr aR,apx,↓an,aF,simprocAttr];have RP:Mod (fun q=>q=b) (h.new (.bQ [.int .i64 0,.int .i64 0,.int .i64 0,.str []] 0 false)) ((h.new (.bQ [.int .i64 0,.int .i64 0,.int .i64 0,.str []] 0 false)).set b (.bQ [.str s,.int .i64 ((a0+1:Nat):Int),.int .i64 0] 0 false)):=(Mod.refl _ _).self _;refine cu (Fv s (a0+1) 5 b _ (by rw [dV,apz rfl];rfl) (by omega) aZ (RP.bG ys)) ?_;rintro x af w;have w':ot s a0 b (h.new (.bQ [.int .i64 0,.int .i64 0,.int .i64 0,.str []] 0 false)) ((j_ 5 (s.drop (a0+1))).map fun q=>(q.1,q.2.1,q.2.2.1,q.2.2.2+1)) x af:=by
          obtain ⟨am6,k,n,t,anh,wr⟩:=w;refine ⟨RP.trans am6,k,n,t,anh,?_⟩;cases aV:j_ 5 (s.drop (a0+1)) with
          | error e=>rw [aV] at wr;exact wr
          | ok q=>
            rw [aV] at wr;obtain ⟨bM,dc,ct,cL,bT⟩:=wr;refine ⟨bM,dc,ct,?_,?_⟩
            . rw [cL];show e6 s ((a0+1+q.2.2.2:Nat):Int) 0=e6 s ((a0 + (q.2.2.2+1):Nat):Int) 0;rw [show a0+1+q.2.2.2=a0 + (q.2.2.2+1) from by omega]
            . show a0 + (q.2.2.2+1)<=s.length;omega
         have g1:=x7 w';obtain ⟨k,n,t,rfl,_⟩:=w'.res;simp +contextual only [g1,ah,cU,c2,f0,f1,↓an,aF,simprocAttr];exact w'.store gf
       . have cI:gm (s[a0]::s.drop (a0+1))=zn (s.drop a0):=by rw [aH];simp only [gm];rw [apw (by rw [aa];exact aqP),apw ad,apw aJ,apw (by rw [bu];exact aqP),apw cV]
         rw [cI];have adl:((s[a0]=39)=False)\/(((s[a0]=39)=True)/\¬a0+1<s.length)\/(((s[a0]=39)=True)/\∃aR:a0+1<s.length,iX ((s[a0+1]).toNat:Int)=false):=by
          by_cases q:s[a0]=39
          . by_cases aR:a0+1<s.length
            . refine .inr (.inr ⟨apC q,aR,?_⟩);cases az:iX ((s[a0+1]).toNat:Int) with
              | false=>rfl
              | true=>exact absurd ⟨q,by rw [drop_cons aR];exact az⟩ cV
            . exact .inr (.inl ⟨apC q,aR⟩)
          . exact .inl (apy q)
         have two:∀t ∈ ju,t.length<=2:=by decide
         have Au:((17:Nat):Int)=17:=rfl;rcases adl with ak | ⟨ak,al⟩ | ⟨ak,aR,al⟩
         case' neg.inl=>
          simp +contextual (maxSteps:=1000000) only [ah,cU,c2,f0,f1,f2,bW,k1,tP,xU,ad,ak,apr aY,apx,↓an,aF,simprocAttr]
         case' neg.inr.inl=>
          have f3:(((a0+1:Nat):Int) < (s.length:Int))=False:=apy (by omega);simp +contextual (maxSteps:=1000000) only [ah,cU,c2,f0,f1,f2,f3,bW,k1,tP,xU,ad,ak,apr aY,apx,↓an,aF,simprocAttr]
         case' neg.inr.inr=>
          have f3:(((a0+1:Nat):Int) < (s.length:Int))=True:=apC (by omega);simp +contextual (maxSteps:=1000000) only [ah,cU,c2,f0,f1,f2,f3,bW,k1,tP,xU,ad,ak,apr aY,apr aR,apx,↓an,aF,simprocAttr];refine hB (Gu _ _) ?_;rw [al];simp +contextual (maxSteps:=1000000) only [ah,cU,c2,f0,f1,f2,f3,bW,k1,tP,xU,ad,ak,apr aY,apr aR,apx,↓an,aF,simprocAttr]
         all_goals
          refine cu (alM _) ?_;rintro x af ⟨rfl,rfl⟩;simp +contextual only [↓an,aF,simprocAttr]
          refine gl (fun r ab=>r 0=.ptr b 0/\r 2=.ptr (aw h.next) 0/\r 77=.slice (aw (h.next+1)) 0 17 17/\r 78=.int .i64 17/\∃i:Nat,i<=17/\r 79=.int .i64 i/\ab=(h.new (.bQ [.int .i64 0,.int .i64 0,.int .i64 0,.str []] 0 false)).new (.bQ zo 0 false)/\
           ju.find? (·.isPrefixOf (s.drop a0))=(ju.drop i).find? (·.isPrefixOf (s.drop a0))) (fun r ab=>17 - (r 79).toN) ?_ ?_
          . exact ⟨by simp only [↓an,aF,simprocAttr],by simp only [↓an,aF,simprocAttr],by simp only [↓an,aF,simprocAttr],by simp only [Au,↓an,aF,simprocAttr],0,by omega,by simp only [↓an,aF,simprocAttr]<;>rfl,rfl,rfl⟩
          . rintro r ab ⟨bh,dc,F4,F5,i,ax,F6,rfl,t_⟩;unfold N0;have RS:Old ((h.new (.bQ [.int .i64 0,.int .i64 0,.int .i64 0,.str []] 0 false)).new (.bQ zo 0 false)) b:=(aj.new _).bG gf;have sx:((h.new (.bQ [.int .i64 0,.int .i64 0,.int .i64 0,.str []] 0 false)).new (.bQ zo 0 false)).get b=.bQ [.str s,.int .i64 a0,.int .i64 0] 0 false:=by rw [(aj.new _).get _ gf,ah]
            have B1:(b=aw (h.next+1))=False:=B3 gf (by omega);have Dv:(aw (h.next+1)=b)=False:=by rw [<-B1];exact propext eq_comm
            by_cases pT:i<17
            . have g0:((i:Int)<17)=True:=apC (by omega);have g1:(0<=(i:Int))=True:=apC (by omega);rw [abJ _ pT] at t_;have hlen:=two _ (ap1 (h:=(show i<ju.length from pT)));simp +contextual only [Au,bh,dc,F4,F5,F6,g0,g1,cU,c2,B1,Dv,apx,arC,alK pT,↓an,aF,simprocAttr];refine hB (IP s _ (a0:Int) [.int .i64 0] b 0 false _ sx (by omega) (by omega)) ?_;rw [apx];cases oR:(ju[i]'pT).isPrefixOf (s.drop a0) with
              | true=>
                rw [oR,apz rfl] at t_;have kB:(ju[i]'pT).length<=s.length-a0:=by rw [arc] at oR;have:=oR.length_le;rwa [aqa] at this
                have np:IntKind.i64.wrap ((a0:Int) + ((ju[i]'pT).length:Int))=((a0 + (ju[i]'pT).length:Nat):Int):=by rw [wrap_i64 (by omega) (by omega)];rfl
                simp +contextual only [Au,bh,dc,F4,F5,F6,g0,g1,np,cU,c2,B1,Dv,ah,↓an,aF,simprocAttr];unfold zn;rw [t_];refine ⟨(((aj.new _).mod _).self _).fresh (apv _) _,_,_,_,rfl,rfl,rfl,rfl,?_,by show a0 + (ju[i]'pT).length<=s.length;omega⟩;simp only [e6,cU,c2,↓an,aF,simprocAttr]
              | false=>
                rw [oR,apw aqP] at t_;have np:IntKind.i64.wrap ((i:Int)+1)=((i+1:Nat):Int):=by rw [wrap_i64 (by omega) (by omega)];rfl
                simp +contextual only [Au,bh,dc,F4,F5,F6,g0,g1,np,cU,c2,B1,Dv,ah,↓an,aF,simprocAttr];exact ⟨⟨i+1,by omega,rfl,t_⟩,by omega⟩
            . obtain rfl:i=17:=by omega
              have dp:ju.find? (·.isPrefixOf (s.drop a0))=none:=by rw [t_];rfl
              have g0:((17:Int)<17)=False:=apy (by omega);simp +contextual only [Au,bh,dc,F4,F5,F6,g0,sx,cU,c2,B1,Dv,ah,↓an,aF,simprocAttr];unfold zn;rw [dp];refine ⟨(((aj.new _).mod _).self _).fresh (apv _) _,_,_,_,rfl,by decide,(a0:Int),?_⟩;simp only [e6,cU,c2,↓an,aF,simprocAttr]
theorem QP (s:List UInt8) (i:Nat):(ByteArray.mk ⟨s⟩).get! i=(s[i]?).getD 0:=by show (Array.mk s)[i]! =_;simp;rfl
theorem aay (s:List UInt8) (a:Nat):Lib.decodeGo ⟨⟨s.drop a⟩⟩=if a<s.length then decodeL s a else (65533,0):=by
 unfold Lib.decodeGo decodeL;have bk:(ByteArray.mk ⟨s.drop a⟩).size=s.length-a:=by show (s.drop a).length=_;rw [aqa]
 have ri:(ByteArray.mk ⟨s⟩).size=s.length:=rfl;by_cases bt:a<s.length
 . rw [apz bt,apw (by rw [bk];omega),Lib.decode_at,Lib.decode_at,bk,ri];simp only [QP,aqJ,aqC,arD,apW]
 . rw [apw bt,apz (by rw [bk];omega)]
theorem aji {h:ae} {b:aL} {s:List UInt8} {a:Nat} (aG:h.get b=.iter s a):
 wO (.ptr b 0) h=if a<s.length then .val (.tuple [.bool true,.int .i64 a,.int .i32 (decodeL s a).1]) (h.set b (.iter s (a + (decodeL s a).2))) else .val (.tuple [.bool false]) h:=by
 unfold wO;simp only [V.iQ,aG];rw [show Nat.beq 0 0=true from rfl];simp only [apu];by_cases bt:a<s.length
 . rw [apz bt,show Nat.blt a s.length=true from by rw [apR];exact bt];rfl
 . rw [apw bt,show Nat.blt a s.length=false from by rw [<-ap2,apR];exact bt];rfl
def afE (s:List UInt8):b1->Nat
 | .iter _ a=>s.length-a
 | _=>0
theorem aaw (s:List UInt8) (a:Nat):1<=(decodeL s a).2:=by
 unfold decodeL;rw [Lib.decode_at];unfold Lib.decodeN
 repeat' split
 all_goals simp
theorem alb (s:List UInt8) (aZ:s.length<=100000) (h:ae):c9 Tryz.prog 112 [.str s] h fun x ab=>x=.int .i64 (uS s:Nat)/\Ext h ab:=by
 refine YG.z rfl (cw ?_);unfold NT;simp +contextual only [↓an,aF,simprocAttr];refine gl (fun r ab=>r 0=.str s/\r 8=.ptr (aw h.next) 0/\Ext h ab/\∃a,ab.get (aw h.next)=.iter s a/\uS s=rE s a) (fun r ab=>afE s (ab.get (aw h.next))) ?_ ?_
 . exact ⟨by simp only [↓an,aF,simprocAttr],by simp only [↓an,aF,simprocAttr],(Ext.refl h).new _,0,by simp only [↓an,aF,simprocAttr],rfl⟩
 . rintro r ab ⟨bh,ch,aj,a,aG,bt⟩;unfold NU;have l':=aji aG;by_cases aR:a<s.length
   . rw [apz aR] at l';have af:=aaw s a;by_cases ao:(decodeL s a).1=65533
     . have pN:(((decodeL s a).1:Int)=65533)=True:=apC (by omega);have f0:(0<=(a:Int))=True:=apC (by omega);have f1:((a:Int)<=(s.length:Int))=True:=apC (by omega);simp +contextual only [bh,ch,l',pN,f0,f1,apx,↓an,aF,simprocAttr];refine hB (aax _ _) ?_;rw [aay,apz aR];by_cases hw:(decodeL s a).2=1
       . have jo:(((decodeL s a).2:Int)=1)=True:=apC (by omega);have vN:fW s a=0:=by unfold fW;rw [apz (Prod.ext ao hw)]
         rw [ala aR vN] at bt;simp +contextual only [bh,ch,l',pN,jo,f0,f1,apx,↓an,aF,simprocAttr];rw [bt];exact ⟨rfl,aj.set (apv _) _⟩
       . have jo:(((decodeL s a).2:Int)=1)=False:=apy (by omega);have vN:fW s a=(decodeL s a).2:=by unfold fW;rw [apw (fun q=>hw (congrArg Prod.snd q))]
         rw [LD aR (by rw [vN];omega),vN] at bt;simp +contextual only [bh,ch,l',pN,jo,f0,f1,apx,↓an,aF,simprocAttr];refine ⟨⟨aj.set (apv _) _,_,rfl,bt⟩,?_⟩;rw [aG];show s.length - (a + (decodeL s a).2)<s.length-a;omega
     . have pN:(((decodeL s a).1:Int)=65533)=False:=apy (by omega);have vN:fW s a=(decodeL s a).2:=by unfold fW;rw [apw (fun q=>ao (congrArg Prod.fst q))]
       rw [LD aR (by rw [vN];omega),vN] at bt;simp +contextual only [bh,ch,l',pN,apx,↓an,aF,simprocAttr];refine ⟨⟨aj.set (apv _) _,_,rfl,bt⟩,?_⟩;rw [aG];show s.length - (a + (decodeL s a).2)<s.length-a;omega
   . rw [apw aR] at l';rw [UR (by omega)] at bt;simp +contextual only [bh,ch,l',apx,↓an,aF,simprocAttr];rw [bt];exact ⟨rfl,aj⟩
def b4.enc (w:b4):List V:=[.int .i64 w.kind,.int .i64 w.num,.int .i64 w.pos,.str w.text]
def iE:List b4->List V
 | []=>[]
 | w::ws=>w.enc++iE ws
theorem VQ:∀a b:List b4,iE (a++b)=iE a++iE b
 | [],b=>rfl
 | w::a,b=>by simp only [iE,apS,VQ a b,aqc]
def Ch (ws:List b4):Except (Int × Nat) (List b4)->Except (Int × Nat) (List b4)
 | .ok bx=>.ok (ws++bx)
 | .error e=>.error e
theorem akA (ws:List b4) (w:b4) (r:Except (Int × Nat) (List b4)):Ch ws (Ay w r)=Ch (ws++[w]) r:=by
 cases r with
 | ok bx=>simp [Ch,Ay]
 | error e=>rfl
theorem akB (r:Except (Int × Nat) (List b4)):Ch [] r=r:=by cases r<;>rfl
def WA (s:List UInt8) (h:ae) (x:V) (ab:ae):Prop:=Ext h ab/\match lk s with
 | .ok ws=>∃v,x=.tuple [v,.agg [.int .i64 0,.int .i64 0]]/\dS h.next ab 4 v ws.length (iE ws)
 | .error e=>x=.tuple [.bg,.agg [.int .i64 e.1,.int .i64 e.2]]
theorem Ny (c:UInt8):(0<=Lib.indexByte [9,10,13,32] c)=(blank c=true):=by
 have aY:∀d:UInt8,(d == c)=decide (c=d):=fun d=>by
  by_cases q:c=d
  . subst q;simp
  . have fj:¬d=c:=fun e=>q e.symm;simp [q,fj]
 simp only [Lib.indexByte,aY,blank];by_cases aa:c=9
 . subst aa;decide
 . by_cases ad:c=10
   . subst ad;decide
   . by_cases aJ:c=13
     . subst aJ;decide
     . by_cases bu:c=32
       . subst bu;decide
       . simp [aa,ad,aJ,bu]
theorem S2 (s:List UInt8) (h:ae):c9 Tryz.prog 107 [.str s] h (WA s h):=by
 refine YD.z rfl (cw ?_);unfold NO;by_cases RG:(65536:Int) < (s.length:Int)
 . simp +contextual only [RG,↓an,aF,simprocAttr];refine ⟨((Ext.refl h).new _).set (apv _) _,?_⟩;unfold lk;rw [apz (by omega)];rfl
 simp +contextual only [RG,↓an,aF,simprocAttr];refine cu (alb s (by omega) _) ?_;rintro x aa ⟨rfl,gA⟩;have aj:Ext h (h.new (.bQ [.int .i64 0,.int .i64 0] 0 false)):=(Ext.refl h).new _;have yE:=aj.trans gA;have g1:aa.get (aw h.next)=.bQ [.int .i64 0,.int .i64 0] 0 false:=by rw [gA.get _ (hv (by rw [f_];omega))];simp only [↓an,aF,simprocAttr]
 have TD:h.next+1<=aa.next:=gA.next
 have b_:(aw aa.next=aw h.next)=False:=by rw [mr];exact apy (by omega)
 have di:(aw h.next=aw aa.next)=False:=by rw [mr];exact apy (by omega)
 have n0:(aa.next=h.next)=False:=apy (by omega);have n1:(h.next=aa.next)=False:=apy (by omega);have hlen:¬65536<s.length:=by omega
 by_cases aC:uS s<s.length
 . have sG:((uS s:Int) < (s.length:Int))=True:=apC (by omega);simp +contextual only [sG,g1,b_,di,n0,n1,↓an,aF,simprocAttr];refine ⟨yE.set (apv _) _,?_⟩;unfold lk;rw [apw hlen,apz aC]
 have sG:((uS s:Int) < (s.length:Int))=False:=apy (by omega);have lF:lk s=rl s 0:=by unfold lk;rw [apw hlen,apw aC]
 simp +contextual only [sG,g1,b_,di,n0,n1,↓an,aF,simprocAttr];have ae4:Ext h (aa.new (.bQ [.str s,.int .i64 0,.int .i64 0] 0 false)):=yE.new _
 refine gl (fun r ab=>r 0=.str s/\r 3=.ptr (aw h.next) 0/\r 5=.ptr (aw aa.next) 0/\∃(a:Nat) (ws:List b4) (v:V),r 6=v/\ab.get (aw aa.next)=.bQ [.str s,.int .i64 a,.int .i64 0] 0 false/\a<=s.length/\ws.length<=a/\
  ab.get (aw h.next)=.bQ [.int .i64 0,.int .i64 0] 0 false/\Ext h ab/\aa.next+1<=ab.next/\dS (aa.next+1) ab 4 v ws.length (iE ws)/\lk s=Ch ws (rl (s.drop a) a))
  (fun r ab=>s.length - ((fZ (ab.get (aw aa.next)) 1).getD .bad).toN) ?_ ?_
 . refine ⟨by simp only [↓an,aF,simprocAttr],by simp only [↓an,aF,simprocAttr],by simp only [↓an,aF,simprocAttr],0,[],.bg,by simp only [↓an,aF,simprocAttr],by simp only [↓an,aF,simprocAttr]<;>rfl,by omega,by simp,by simp only [g1,b_,n0,di,n1,↓an,aF,simprocAttr],ae4,?_,⟨rfl,rfl⟩,?_⟩
   . rw [f_];exact apv _
   . rw [lF,aqy,akB]
 . rintro r ab ⟨bh,ct,bT,a,ws,v,eU,aG,b7,kw,bk,E1,l',gy,bz⟩;unfold NP;have gf:Old ab (aw aa.next):=hv (by omega);by_cases fO:(s.length:Int)<=(a:Int)
   . have bt:a=s.length:=by omega
     have ES:lk s=.ok ws:=by rw [bz,bt,are];show Except.ok (ws++[])=_;rw [aqF]
     simp +contextual only [bh,ct,bT,eU,aG,bk,fO,b_,di,n0,n1,↓an,aF,simprocAttr];refine ⟨E1.set (apv _) _,?_⟩;rw [ES];refine ⟨v,rfl,?_⟩;have:=gy.mod ((Mod.refl (fun q=>q=aw h.next) ab).self (.bQ [.int .i64 0,.int .i64 0] 0 false)) (fun q az e=>by have ad:=gy.base az;rw [show q=aw h.next from e,c1] at ad;omega);exact this.mono (by omega)
   . have aR:a<s.length:=by omega
     rw [drop_cons aR,S1,<-drop_cons aR] at bz;have f0:(0<=(a:Int))=True:=apC (by omega);have f1:((a:Int) < (s.length:Int))=True:=apC (by omega);have bW:IntKind.i64.wrap ((a:Int)+1)=((a+1:Nat):Int):=by rw [wrap_i64 (by omega) (by omega)];rfl
     simp +contextual only [bh,ct,bT,eU,aG,bk,fO,b_,di,n0,n1,f0,f1,apr aR,apx,↓an,aF,simprocAttr];refine hB (Sk _ _ _) ?_;rw [VC];by_cases Eu:blank s[a]=true
     . have IU:(0<=Lib.indexByte [9,10,13,32] s[a])=True:=by rw [Ny,Eu];exact eq_self _
       rw [apz Eu] at bz;simp +contextual only [IU,bW,bh,ct,bT,eU,aG,bk,fO,b_,di,n0,n1,f0,f1,apr aR,apx,↓an,aF,simprocAttr];refine ⟨⟨a+1,ws,rfl,by omega,by omega,E1.set (by omega) _,l',?_,bz⟩,by omega⟩;exact gy.mod ((Mod.refl (fun q=>q=aw aa.next) ab).self _) (fun q az e=>by have ad:=gy.base az;rw [show q=aw aa.next from e,c1] at ad;omega)
     . have IU:(0<=Lib.indexByte [9,10,13,32] s[a])=False:=by rw [Ny];exact apy Eu
       rw [apw Eu] at bz;simp +contextual only [IU,bW,bh,ct,bT,eU,aG,bk,fO,b_,di,n0,n1,f0,f1,apr aR,apx,↓an,aF,simprocAttr];have Bm:=IP s [40,42] (a:Int) [.int .i64 0] (aw aa.next) 0 false ab aG (by omega) (by omega);rw [apx] at Bm;refine hB Bm ?_;cases oR:([40,42]:List UInt8).isPrefixOf (s.drop a) with
       | true=>
         rw [oR,apz rfl] at bz;simp +contextual only [bW,bh,ct,bT,eU,aG,bk,fO,b_,di,n0,n1,f0,f1,apr aR,apx,↓an,aF,simprocAttr];refine cu (ajs s a 0 (aw aa.next) ab aG b7 (by omega) gf) ?_;rintro x ad ⟨rfl,hm,aV⟩;have ri:ad.get (aw h.next)=.bQ [.int .i64 0,.int .i64 0] 0 false:=by rw [hm.get _ (hv (by omega)) (by rw [di];exact id),bk]
         have E0:Ext h ad:=E1.nZ hm (fun b ah=>by rw [show b=aw aa.next from ah,c1];omega);have B5:=hm.next
         have ji:=gy.mod hm (fun q az e=>by have ad:=gy.base az;rw [show q=aw aa.next from e,c1] at ad;omega);cases JG:ik (s.drop a) 0 with
         | some n=>
           rw [JG] at aV bz;obtain ⟨g2,hle⟩:=aV;have sE:=FD JG;unfold e6 at g2;simp +contextual only [bW,bh,ct,bT,eU,g2,aG,ri,fO,b_,di,n0,n1,f0,f1,apr aR,apx,↓an,aF,simprocAttr];refine ⟨⟨a+n,ws,rfl,hle,by omega,E0,by omega,ji,?_⟩,by omega⟩;rw [bz];simp only [aqU]
         | none=>
           rw [JG] at aV bz;unfold e6 at aV;simp +contextual only [bW,bh,ct,bT,eU,aV,aG,ri,fO,b_,di,n0,n1,f0,f1,apr aR,apx,↓an,aF,simprocAttr];refine ⟨E0.set (apv _) _,?_⟩;rw [bz];rfl
       | false=>
         rw [oR,apw aqP] at bz;simp +contextual only [bW,bh,ct,bT,eU,aG,bk,fO,b_,di,n0,n1,f0,f1,apr aR,apx,↓an,aF,simprocAttr];refine cu (ajk s a (aw aa.next) ab aG aR (by omega) gf) ?_;rintro x ad w;obtain ⟨hm,k,n,t,rfl,yv⟩:=w;have ri:ad.get (aw h.next)=.bQ [.int .i64 0,.int .i64 0] 0 false:=by rw [hm.get _ (hv (by omega)) (by rw [di];exact id),bk]
         have E0:Ext h ad:=E1.nZ hm (fun b ah=>by rw [show b=aw aa.next from ah,c1];omega);have B5:=hm.next
         have ji:=gy.mod hm (fun q az e=>by have ad:=gy.base az;rw [show q=aw aa.next from e,c1] at ad;omega);have m0:(aw ad.next=aw h.next)=False:=by rw [mr];exact apy (by omega)
         have m1:(aw ad.next=aw aa.next)=False:=by rw [mr];exact apy (by omega)
         have Te:(ad.next=h.next)=False:=apy (by omega);have Tf:(ad.next=aa.next)=False:=apy (by omega);have wo:Ext ad (((ad.new (.bQ [.int .i64 0,.int .i64 0,.int .i64 0,.str []] 0 false)).set (aw ad.next) (.bQ [.int .i64 k,.int .i64 n,.int .i64 0,.str t] 0 false)).set (aw ad.next) (.bQ [.int .i64 k,.int .i64 n,.int .i64 a,.str t] 0 false)):=(((Ext.refl ad).new _).set (apv _) _).set (apv _) _;obtain ⟨v3,aJ,ak,al,aI,bB,cG⟩:=Ai (cs:=[.int .i64 k,.int .i64 n,.int .i64 a,.str t]) (by omega) (ji.ext wo) (by simp only [nd,f_];omega) (by unfold top;omega) rfl rfl;simp only [nd,f_] at ak bB;have Sa:Ext h aJ:=(E0.trans wo).nZ aI (fun b ah=>aqo (by omega) (ji.base ah));have By:aJ.get (aw h.next)=.bQ [.int .i64 0,.int .i64 0] 0 false:=by rw [aI.get _ (hv (by simp only [nd,f_];omega)) (fun az=>by have:=ji.base az;rw [c1] at this;omega),wo.get _ (hv (by omega)),ri]
         have kz:aJ.get (aw aa.next)=ad.get (aw aa.next):=by rw [aI.get _ (hv (by simp only [nd,f_];omega)) (fun az=>by have:=ji.base az;rw [c1] at this;omega),wo.get _ (hv (by omega))]
         cases l':gm (s.drop a) with
         | ok q=>
           have sE:=KO l';rw [l'] at yv bz;obtain ⟨rfl,rfl,rfl,g2,hle⟩:=yv;unfold e6 at g2;rw [g2] at kz;simp +contextual only [ak,m0,m1,Te,Tf,bW,bh,ct,bT,eU,g2,kz,aG,ri,fO,b_,di,n0,n1,f0,f1,apr aR,apx,↓an,aF,simprocAttr];refine ⟨⟨a+q.2.2.2,ws++[⟨q.1,q.2.1,a,q.2.2.1⟩],rfl,hle,by simp;omega,By,Sa,by omega,?_,?_⟩,by omega⟩
           . rw [apD,VQ];exact al
           . rw [bz,akA];simp only [aqU]
         | error e=>
           rw [l'] at yv bz;obtain ⟨he,bl,g2⟩:=yv;unfold e6 at g2;rw [g2] at kz;simp +contextual only [he,ak,m0,m1,Te,Tf,bW,bh,ct,bT,eU,g2,kz,By,aG,ri,fO,b_,di,n0,n1,f0,f1,apr aR,apx,↓an,aF,simprocAttr];refine ⟨Sa.set (apv _) _,?_⟩;rw [bz];rfl
def xa (L:List (List UInt8)):List V:=L.map V.str
theorem LV (L:List (List UInt8)):(xa L).length=L.length:=by simp [xa]
theorem ama {L:List (List UInt8)} {i:Nat} (ax:i<L.length):(xa L)[i]? =some (.str L[i]):=by unfold xa;rw [aqi,apr ax];rfl
theorem aaN {t:List UInt8} {L:List (List UInt8)} {i:Nat} (ax:i<L.length):(L.drop i).contains t=(decide (L[i]=t)||(L.drop (i+1)).contains t):=by rw [ap0 ax,List.contains_cons];congr 1;rw [aqm];simp;exact eq_comm
def I3:List UInt8->Bool
 | d::_=>oJ d.toNat
 | []=>false
def ew (k:Int) (s:List UInt8):Bool:=
 decide (s≠[])&&decide (s.length<=64)&&s.all f'&&(if k=3 then (q1 s||s.head? == some 95)&&!decide (s=[95])&&!sS s else if k=4 then I3 s else q1 s)
theorem afp (t:List UInt8) (L:List (List UInt8)) (v:V) (h:ae) (H:fq h 1 v L.length (xa L)) (df:L.length<=100000):
 c9 Tryz.prog 109 [v,.str t] h fun x ab=>ab=h/\∃i:Int,x=.int .i64 i/\decide (0<=i)=L.contains t:=by
 refine YF.z rfl (cw ?_);unfold NR;simp +contextual only [H.len,↓an,aF,simprocAttr];refine gl (fun r ab=>ab=h/\r 0=v/\r 1=.str t/\r 7=.int .i64 L.length/\∃i:Nat,r 8=.int .i64 i/\i<=L.length/\L.contains t=(L.drop i).contains t) (fun r ab=>L.length - (r 8).toN) ?_ ?_
 . exact ⟨rfl,by simp only [↓an,aF,simprocAttr],by simp only [↓an,aF,simprocAttr],by simp only [↓an,aF,simprocAttr],0,by simp only [↓an,aF,simprocAttr]<;>rfl,by omega,rfl⟩
 . rintro r ab ⟨rfl,bh,bM,cY,i,ch,ax,bz⟩;unfold NS;by_cases aR:i<L.length
   . have g0:((i:Int) < (L.length:Int))=True:=apC (by omega);obtain ⟨b8,cX,sK,mH⟩:=H.cr (k:=.i64) aR;have dJ:=mH.dJ (i:=i * 1) (by rw [LV];omega);simp only [arC] at dJ sK;have Jd:(xa L)[i]'(by rw [LV];exact aR)=.str L[i]:=by
      have:=ama aR;rw [apr (by rw [LV];exact aR)] at this;exact aqB this
     rw [Jd] at dJ;rw [aaN aR] at bz;have w:IntKind.i64.wrap ((i:Int)+1)=((i+1:Nat):Int):=by rw [wrap_i64 (by omega) (by omega)];rfl
     by_cases he:t=L[i]
     . have ee:decide (t=L[i])=true:=aqf he;simp +contextual only [bh,bM,cY,ch,g0,sK,dJ,ee,↓an,aF,simprocAttr];exact ⟨i,rfl,by rw [bz,<-he];simp⟩
     . have ee:decide (t=L[i])=false:=aqj he;simp +contextual only [bh,bM,cY,ch,g0,sK,dJ,ee,w,↓an,aF,simprocAttr];refine ⟨⟨i+1,rfl,aR,?_⟩,by omega⟩;rw [bz,aqj (fun q=>he q.symm),arF]
   . have g0:((i:Int) < (L.length:Int))=False:=apy (by omega);rw [aqv (by omega)] at bz;simp +contextual only [bh,bM,cY,ch,g0,↓an,aF,simprocAttr];exact ⟨_,rfl,by rw [bz];rfl⟩
theorem Z_ (t:List UInt8) (L:List (List UInt8)) (v:V) (h:ae) (H:fq h 1 v L.length (xa L)) (df:L.length<=100000):
 eV Tryz.prog 105 [v,.str t] h (.bool (L.contains t)) h:=by
 refine rB (YC.z rfl (cw ?_));unfold NN;simp +contextual only [↓an,aF,simprocAttr];refine cu (afp t L v h H df) ?_;rintro x aa ⟨rfl,i,rfl,ax⟩;simp +contextual only [ax,↓an,aF,simprocAttr]
theorem XS {s:List UInt8} (h:∀c ∈ s,c.toNat<128):uS s=s.length:=by
 have ao:∀a,a<s.length->fW s a=1:=by
  intro a bt;have aH:decodeL s a=((s[a]).toNat,1):=by unfold decodeL;rw [Lib.decode_at];simp only [QP,apr bt,apX];unfold Lib.decodeN;rw [apz (h _ (ap1 bt))]
  unfold fW;rw [aH,apw (by have:=h _ (ap1 bt);simp only [aqD,and_true];omega)]
 have:∀n a,s.length-a=n->a<=s.length->rE s a=s.length:=by
  intro n
  induction n with
  | zero=>intro a aa ad;exact UR (by omega)
  | succ n bb=>
    intro a aa ad;have aR:a<s.length:=by omega
    rw [LD aR (by rw [ao a aR];decide),ao a aR];exact bb _ (by omega) (by omega)
 exact this s.length 0 (by omega) (by omega)
theorem ait {s:List UInt8} (h:∀c ∈ s,c.toNat<128):lk s=if 65536<s.length then .error (3,0) else rl s 0:=by unfold lk;rw [XS h,apw (aqM _)]
theorem aiI {c:UInt8} (h:f' c=true):blank c=false/\c≠40:=by
 constructor
 . cases ah:blank c with
   | false=>rfl
   | true=>
     unfold blank at ah;simp only [aqA,apF] at ah;rcases ah with ((rfl | rfl) | rfl) | rfl<;>exact absurd h (by decide)
 . rintro rfl;exact absurd h (by decide)
theorem ajp {c:UInt8} (h:c≠40) (r:List UInt8):([40,42]:List UInt8).isPrefixOf (c::r)=false:=by
 have:((40:UInt8) == c)=false:=by rw [aqL];exact fun q=>h q.symm
 simp [List.isPrefixOf,this]
theorem U' {c:UInt8} (h:iX c.toNat=true):e_ c=false/\c≠34:=by unfold iX at h;simp only [apq,apF] at h;refine ⟨?_,by rintro rfl;exact absurd h (by decide)⟩;unfold e_ nG;simp only [aq0,aql];omega
theorem acA {c:UInt8} (h:oJ c.toNat=true):e_ c=false/\c≠34/\iX c.toNat=false/\c≠95:=by
 unfold oJ at h;simp only [apq,apF] at h;refine ⟨?_,by rintro rfl;exact absurd h (by decide),?_,by rintro rfl;exact absurd h (by decide)⟩
 . unfold e_ nG;simp only [aq0,aql];omega
 . unfold iX;simp only [aq0,aql];omega
theorem KM {k:Int} {s:List UInt8} (h:ew k s=true):s≠[]/\s.length<=64/\s.all f'=true/\(if k=3 then (q1 s||s.head? == some 95)&&!decide (s=[95])&&!sS s else if k=4 then I3 s else q1 s)=true:=by unfold ew at h;rw [apq,apq,apq,apF,apF] at h;exact ⟨h.1.1.1,h.1.1.2,h.1.2,h.2⟩
theorem ajl {c:UInt8} {t:List UInt8} (h:iX c.toNat=true\/c=95):gm (c::t)=j_ 3 (c::t):=by
 have aH:e_ c=false:=h.elim (fun q=>(U' q).1) (fun q=>by rw [q];decide);have acO:c≠34:=h.elim (fun q=>(U' q).2) (fun q=>by rw [q];decide);have aZ:(iX c.toNat||decide (c=95))=true:=by simpa using h
 simp only [gm,aH,aZ,apw acO,apH,ap9,ap3]
theorem XR {c:UInt8} (h:f' c=true):c.toNat<128:=by unfold f' wF nG iX oJ at h;simp only [aqA,apq,apF] at h;omega
theorem VB {p:UInt8->Bool}:∀s:List UInt8,s.all p=true->s.takeWhile p=s
 | [],_=>rfl
 | c::s,h=>by rw [arh,apq] at h;rw [aqT,h.1,apz rfl,VB s h.2]
theorem Nc (p:UInt8->Bool):∀s:List UInt8,(s.takeWhile p).all p=true
 | []=>rfl
 | c::s=>by
   rw [aqT]
   split
   . rename_i h;rw [arh,h,Nc p s];rfl
   . rfl
theorem KL {k:Int} {c:UInt8} {r:List UInt8} {q:Int × Int × List UInt8 × Nat} (aB:(k=3/\(iX c.toNat=true\/c=95))\/(k=4/\oJ c.toNat=true)\/(k=5/\iX c.toNat=true)) (h:j_ k (c::r)=.ok q) (az:q.1=3\/q.1=4\/q.1=5):
 q.1=k/\ew k q.2.2.1=true:=by
 have aA:f' c=true:=by
  rcases aB with ⟨_,q | q⟩ | ⟨_,q⟩ | ⟨_,q⟩
  . exact LM q
  . exact VF q
  . exact QT q
  . exact LM q
 have aE:(c::r).takeWhile f'=c::r.takeWhile f':=by rw [aqT,apz aA]
 have bt:=Nc f' (c::r);rw [aE] at bt;unfold j_ at h;simp only [aE] at h;generalize r.takeWhile f'=t at *
 split at h
 . cases h;simp at az
 . rename_i aes
   split at h
   . cases h;simp at az
   . rename_i rb
     split at h
     . cases h
     . rename_i hlen;cases h;refine ⟨rfl,?_⟩;have k':(if k=3 then (q1 (c::t)||(c::t).head? == some 95)&&!decide (c::t=[95])&&!sS (c::t) else if k=4 then I3 (c::t) else q1 (c::t))=true:=by
        rcases aB with ⟨rfl,z⟩ | ⟨rfl,z⟩ | ⟨rfl,z⟩
        . rw [apz rfl];have aa:(q1 (c::t)||(c::t).head? == some 95)=true:=by
           rcases z with z | z
           . show (iX c.toNat||_)=true;rw [z];rfl
           . subst z;simp
          rw [aa,aqj (fun z=>aes ⟨rfl,z⟩),Bool.eq_false_iff.2 (fun z=>rb ⟨rfl,z⟩)];rfl
        . exact z
        . exact z
       show ew k (c::t)=true;unfold ew;rw [k',bt,aqf (show c::t≠[] by simp),aqf (show (c::t).length<=64 by omega)];rfl
theorem ajg {r:List UInt8} {q:Int × Int × List UInt8 × Nat} (h:gm r=.ok q) (az:q.1=3\/q.1=4\/q.1=5):ew q.1 q.2.2.1=true:=by
 match r,h with
 | c::r,h=>
   simp only [gm] at h
   split at h
   . unfold y2 at h;simp only at h
     split at h
     . cases h
     . cases h;simp at az
   . split at h
     . unfold tg at h
       split at h
       . cases h
       . split at h
         . cases h
         . cases h;simp at az
     . split at h
       . rename_i aZ;have:=KL (.inl ⟨rfl,by simpa using aZ⟩) h az;rw [this.1];exact this.2
       . split at h
         . rename_i aZ;have:=KL (.inr (.inl ⟨rfl,aZ⟩)) h az;rw [this.1];exact this.2
         . split at h
           . rename_i aZ;cases aV:j_ 5 r with
             | error e=>rw [aV] at h;cases h
             | ok fj=>
               rw [aV] at h;cases h;obtain ⟨d,t,rfl⟩:∃d t,r=d::t:=by
                cases r with
                | nil=>simp [q1] at aZ
                | cons d t=>exact ⟨d,t,rfl⟩
               have:=KL (.inr (.inr ⟨rfl,aZ.2⟩)) aV az;show ew fj.1 fj.2.2.1=true;rw [this.1];exact this.2
           . unfold zn at h
             split at h
             . cases h;simp at az
             . cases h
theorem BR:∀(f:Nat) (r:List UInt8) (p:Nat) (ws:List b4),m_ f r p=.ok ws->∀w ∈ ws,w.kind=3\/w.kind=4\/w.kind=5->ew w.kind w.text=true
 | 0,r,p,ws,h,w,hw,_=>by simp only [m_,Except.ok.injEq] at h;subst h;cases hw
 | f+1,[],p,ws,h,w,hw,_=>by simp only [m_,Except.ok.injEq] at h;subst h;cases hw
 | f+1,c::r,p,ws,h,w,hw,aB=>by
   simp only [m_] at h
   split at h
   . exact BR f _ _ ws h w hw aB
   . split at h
     . split at h
       . cases h
       . exact BR f _ _ ws h w hw aB
     . split at h
       . cases h
       . rename_i q aV;cases aC:m_ f ((c::r).drop q.2.2.2) (p+q.2.2.2) with
         | error aK=>rw [aC] at h;cases h
         | ok bx=>
           rw [aC] at h;simp only [Ay,Except.ok.injEq] at h;subst h;rcases apJ.1 hw with rfl | hw
           . exact ajg aV aB
           . exact BR f _ _ bx aC w hw aB
theorem ak1 {k:Int} {s:List UInt8} (aB:k=3\/k=4\/k=5) (h:ew k s=true):lk (if k=5 then 39::s else s)=.ok [⟨k,0,0,s⟩]:=by
 obtain ⟨g1,g2,g3,g4⟩:=KM h;obtain ⟨c,t,rfl⟩:=List.exists_cons_of_ne_nil g1;have adh:∀d ∈ (if k=5 then 39::c::t else c::t),d.toNat<128:=by
  intro d aH;have aa:∀d ∈ c::t,d.toNat<128:=fun d aH=>XR (apU.1 g3 d aH)
  split at aH
  . rcases apJ.1 aH with rfl | aH
    . decide
    . exact aa d aH
  . exact aa d aH
 rw [ait adh,apw (by split<;>simp only [apB] at g2 ⊢<;>omega)];have aA:f' c=true:=by rw [arh,apq] at g3;exact g3.1
 obtain ⟨b8,cg⟩:=aiI aA;have rd:∀j:Int,(j=3->c::t≠[95]/\sS (c::t)=false)->j_ j (c::t)=.ok (j,0,c::t,(c::t).length):=by intro j bp;unfold j_;simp only [VB _ g3];rw [apw (fun q=>(bp q.1).1 q.2),apw (fun q=>by rw [(bp q.1).2] at q;simp at q),apw (by omega)]
 have fin:∀(d:UInt8) (u:List UInt8) (q:Int × Int × List UInt8 × Nat),blank d=false->d≠40->gm (d::u)=.ok q->q.2.2.2=(d::u).length->rl (d::u) 0=.ok [⟨q.1,q.2.1,0,q.2.2.1⟩]:=by intro d u q aK aS bU b9;rw [S1,aK,apw aqP,ajp aS,apw aqP,bU];simp only [b9,are];rfl
 rcases aB with rfl | rfl | rfl
 . rw [apw (by decide)];rw [apz rfl] at g4;simp only [apq,aqh,aql,aqA,aqZ] at g4;have a':iX c.toNat=true\/c=95:=g4.1.1.imp id (fun q=>aqB q);exact fin c t _ b8 cg (by rw [ajl a'];exact rd 3 (fun _=>⟨g4.1.2,g4.2⟩)) rfl
 . rw [apw (by decide)];rw [apw (by decide),apz rfl] at g4;have aG:oJ c.toNat=true:=g4;obtain ⟨di,iO,n3,n4⟩:=acA aG;refine fin c t (4,0,c::t,(c::t).length) b8 cg ?_ rfl;simp only [gm,di,n3,aG,apw iO,apH,ap9,ap3,arF,apF,apw n4];exact rd 4 (fun q=>absurd q (by decide))
 . rw [apz rfl];rw [apw (by decide),apw (by decide)] at g4;refine fin 39 (c::t) (5,0,c::t,(c::t).length+1) (by decide) (by decide) ?_ rfl;simp only [gm];rw [apw (by decide),apw (by decide),apw (by decide),apw (by decide),apz ⟨trivial,g4⟩,rd 5 (fun q=>absurd q (by decide))];rfl
def tm (k:Int) (s:List UInt8):Bool:=decide (s.length<=64)&&decide (s≠[])&&(match lk (if k=5 then 39::s else s) with
 | .ok [w]=>decide (w.kind=k)&&decide (w.pos=0)&&decide (w.text≠[])&&decide ((if k=5 then 39::s else s)=(if w.kind=5 then 39::w.text else w.text))
 | _=>false)
theorem am7 {k:Int} (aB:k=3\/k=4\/k=5) (s:List UInt8):tm k s=ew k s:=by
 rw [aqm];refine ⟨fun h=>?_,fun h=>?_⟩
 . unfold tm at h;simp only [apq,apF] at h;obtain ⟨_,aJ⟩:=h
   split at aJ
   . rename_i w hw;simp only [apq,apF] at aJ;obtain ⟨⟨⟨aK,_⟩,_⟩,b9⟩:=aJ;subst aK;have aV:ew w.kind w.text=true:=by
      generalize (if w.kind=5 then 39::s else s)=z at hw;unfold lk at hw
      split at hw
      . cases hw
      . split at hw
        . cases hw
        . exact BR _ _ _ _ hw w (by simp) aB
     have:s=w.text:=by
      split at b9
      . exact (List.cons.inj b9).2
      . exact b9
     rw [this];exact aV
   . cases aJ
 . obtain ⟨g1,g2,_,_⟩:=KM h;unfold tm;rw [ak1 aB h];simp [g1,g2]
theorem aaA (t:aQ):t.deep=kM t.l+1:=by cases t;simp only [aQ.deep,aQ.l]
theorem size_eq (t:aQ):t.size=1+cA t.l:=by cases t;simp only [aQ.size,aQ.l]
theorem T3:∀l m:List aQ,kM (l++m)=max (kM l) (kM m)
 | [],m=>by simp [kM]
 | t::l,m=>by rw [apS,kM,kM,T3 l m,Nat.max_assoc]
theorem Cj:∀l m:List aQ,cA (l++m)=cA l+cA m
 | [],m=>by simp [cA]
 | t::l,m=>by rw [apS,cA,cA,Cj l m,aqx]
theorem take_one {l:List aQ} {i:Nat} (h:i<l.length):l.take (i+1)=l.take i++[l[i]]:=by rw [aqd h]
theorem aks {l:List aQ} {i:Nat} (h:i<l.length):kM (l.take (i+1))=max (kM (l.take i)) l[i].deep:=by rw [take_one h,T3,kM,kM,Nat.max_zero]
theorem Uh {l:List aQ} {i:Nat} (h:i<l.length):cA (l.take (i+1))=cA (l.take i)+l[i].size:=by rw [take_one h,Cj,cA,cA,aqC]
mutual
theorem aaB:∀t:aQ,t.deep<=t.size
 | .mk k n a s l=>by rw [aQ.deep,aQ.size];have:=Ld l;omega
theorem Ld:∀l:List aQ,kM l<=cA l
 | []=>apv _
 | t::l=>by rw [kM,cA];have:=aaB t;have:=Ld l;omega
end
theorem Ll (l:List aQ) (i:Nat):cA (l.take i)<=cA l:=by have:=Cj (l.take i) (l.drop i);rw [aq2] at this;omega
theorem aiR (a b:Nat):(if (a:Int) < (b:Int) then (b:Int) else (a:Int))=((max a b:Nat):Int):=by
 by_cases h:(a:Int) < (b:Int)
 . rw [apz h,Nat.max_eq_right (by omega)]
 . rw [apw h,Nat.max_eq_left (by omega)]
theorem PI:∀(N:Nat) (t:aQ),t.size<=N->N<=1000000000->∀(ag:List V) (h:ae),bN Any h t.enc ag->c9 Tryz.prog 98 [.agg ag] h fun x ab=>x=.int .i64 (t.deep:Nat)/\Ext h ab
 | 0,t,aZ,_,_,_,_=>by have:=o6 t;omega
 | N+1,t,aZ,ac2,ag,h,H=>by
   obtain ⟨cB,rfl,L,_⟩:=aQ.open H;have bE:N<=1000000000:=by omega
   have ol:=L.one;have aA:=L.len;have hle:=L.le;rw [apG] at aA hle;refine Zt.z rfl (cw ?_);unfold O';obtain ⟨aa,ak,aK,c8⟩:=fM h [.int .i64 t.k,.int .i64 t.n,.int .i64 t.a,.str t.s,cB];simp +contextual only [ol.1,ol.2.1,ak,c8.g,aA,↓an,aF,simprocAttr];refine gl (fun r g=>r 1=.ptr (aw h.next) 0/\r 7=cB/\r 8=.int .i64 t.l.length/\∃i:Nat,r 3=.int .i64 (kM (t.l.take i):Nat)/\r 9=.int .i64 i/\i<=t.l.length/\Ext aa g) (fun r g=>t.l.length - (r 9).toN) ?_ ?_
   . exact ⟨by simp only [↓an,bH,simprocAttr],by simp only [↓an,bH,simprocAttr],by simp only [↓an,bH,simprocAttr],0,by simp only [↓an,bH,simprocAttr]<;>rfl,by simp only [↓an,bH,simprocAttr]<;>rfl,by omega,Ext.refl aa⟩
   rintro r g ⟨bM,cY,ch,i,ct,rF,ax,E⟩;unfold O_;have A:=c8.ext E;have pg:=L.ext (aK.trans E);have kv:=Ll t.l i;have pL:=Ld (t.l.take i);have an_:=size_eq t;by_cases aR:i<t.l.length
   . have g0:((i:Int) < (t.l.length:Int))=True:=apC (by omega);obtain ⟨b,off,wl,cr,X,fe,ld⟩:=aQ.lh pg (k:=.i64) aR;have g_:=ld g (Ext.refl g);have gn:=fe.one;have dU:=h8 aR (by unfold top at hle;omega);have cq:=za (t:=t) (ap1 aR);obtain ⟨g1,dz,bF,B⟩:=fw g [.int .i64 0,.int .i64 0,.int .i64 0,.str [],.bg] [.int .i64 t.l[i].k,.int .i64 t.l[i].n,.int .i64 t.l[i].a,.str t.l[i].s,wl];simp +contextual only [bM,ct,cY,ch,rF,g0,cr,g_,dz,B.g,gn.1,gn.2.1,↓an,aF,simprocAttr];refine cu (PI N t.l[i] (by omega) bE _ g1 (X.ext bF)) ?_;rintro x g2 ⟨rfl,aS⟩;have bU:=bF.trans aS;have hm:=aiR (kM (t.l.take i)) t.l[i].deep;rw [<-aks aR] at hm;simp +contextual only [bM,ct,cY,ch,rF,dU,Tq,hm,↓an,aF,simprocAttr];exact ⟨⟨i+1,rfl,rfl,aR,E.trans bU⟩,by omega⟩
   . have g0:((i:Int) < (t.l.length:Int))=False:=apy (by omega);rw [aqn (by omega)] at ct pL kv;have wd:IntKind.i64.wrap ((kM t.l:Int)+1)=((t.deep:Nat):Int):=by rw [aaA,wrap_i64 (by omega) (by omega)];rfl
     simp +contextual only [bM,ct,cY,ch,rF,g0,wd,↓an,aF,simprocAttr];exact aK.trans E
structure hS where
 first:List Int:=[]
 rest:Int:=0
 least:Int:=0
 kI:Int:=0
 last:List Int:=[]
 bP:Int:=0
 ax:Int:=0
 s:Int:=0
def hS.enc (r:hS):List D:=[.l 1 (r.first.map aX.gb),.i .i64 r.rest,.i .i64 r.least,.i .i64 r.kI,.l 1 (r.last.map aX.gb),.i .i64 r.bP,.i .i64 r.ax,.i .i64 r.s]
def w6:List (Int × hS):=
 [(1,{s:=3}),(2,{s:=1,rest:=1,kI:=64}),(3,{first:=[1,1]}),(4,{first:=[1,1]}),
  (10,{}),(13,{}),(11,{s:=1}),(12,{bP:=-1073741824,ax:=1073741823}),(14,{ax:=1}),(15,{first:=[2,2]}),(16,{s:=2,rest:=2,kI:=1}),
  (20,{bP:=-1073741824,ax:=1073741823}),(21,{s:=4}),(22,{}),(23,{ax:=1}),(24,{s:=1}),(25,{s:=2,rest:=3,kI:=1}),(26,{first:=[3,3]}),(28,{first:=[3,3]}),(35,{first:=[3,3]}),(37,{first:=[3,3]}),
  (38,{s:=5,first:=[3,3]}),(34,{first:=[3]}),(36,{first:=[3]}),(39,{first:=[3]}),(31,{first:=[3,3,3]}),(27,{first:=[2,3]}),(29,{first:=[2,3,3]}),
  (30,{rest:=5,least:=1,kI:=1073741824,last:=[3]}),(32,{first:=[3],rest:=4,least:=1,kI:=1073741824}),(33,{first:=[3],rest:=4,least:=1,kI:=1073741824}),
  (45,{first:=[2,3]}),(46,{s:=1,first:=[9]}),(47,{s:=2,rest:=1,kI:=1}),(51,{s:=2,rest:=1,kI:=1}),(52,{first:=[2,3]}),(53,{rest:=5,least:=1,kI:=1073741824}),
  (50,{s:=1,ax:=64,rest:=6,least:=1,kI:=1073741824})]
def Gg:List (Int × List D):=w6.map fun x=>(x.1,x.2.enc)
set_option maxRecDepth 100000 in
theorem alq:FJ ctx 100000 95 (fun ao v=>FI ao 1000 Gg v)=true:=by kernel_rfl
theorem alp (h:ae):c9 Tryz.prog 95 [] h fun x ab=>Ext h ab/\oj (Ac h) ab Gg x:=
 Z0 (C:=ctx) follows yW Lj (by kernel_rfl) (by kernel_rfl) ⟨_,Tryz.func95,by kernel_rfl⟩ alq h
def hC (k:Int):Int:=if 1<=k/\k<=4 then 1 else if 10<=k/\k<=16 then 2 else if 20<=k/\k<=39 then 3 else if k=45 then 4 else if k=46 then 5 else if k=47 then 6 else if 50<=k/\k<=53 then 7 else 0
theorem aic {a b:Int} (h:a<=b):(a<=b)=True:=apC h
theorem aib {a b:Int} (h:b<a):(a<=b)=False:=apy (by omega)
theorem acd {a b:Int} (h:b<=a):(a>=b)=True:=apC h
theorem acb {a b:Int} (h:a<b):(a>=b)=False:=apy (by omega)
theorem aff {a b:Int} (h:a=b):(a=b)=True:=apC h
theorem afe {a b:Int} (h:a<b\/b<a):(a=b)=False:=apy (by omega)
theorem QV (k:Int) (h:ae):c9 Tryz.prog 96 [.int .i64 k] h fun x ab=>x=.int .i64 (hC k)/\ab=h:=by
 refine Zr.z rfl (cw ?_);unfold O7 hC;have au:k<1\/(1<=k/\k<=4)\/(5<=k/\k<=9)\/(10<=k/\k<=16)\/(17<=k/\k<=19)\/(20<=k/\k<=39)\/(40<=k/\k<=44)\/k=45\/k=46\/k=47\/(48<=k/\k<=49)\/(50<=k/\k<=53)\/54<=k:=by omega
 rcases au with q | q | q | q | q | q | q | q | q | q | q | q | q<;>simp +contextual (disch:=omega) only [aic,aib,acd,acb,aff,afe,and_true,and_false,arj,arI,ap3,ap9,↓an,aF,simprocAttr]<;>trivial
def uv (k g:Int):Bool:=if g=8 then decide (k=1) else if g=9 then decide (k=27) else decide (hC k=g)
theorem afD (t:aQ) (g:Int) (ag:List V) (h:ae) (H:bN Any h t.enc ag):c9 Tryz.prog 103 [.agg ag,.int .i64 g] h fun x ab=>x=.bool (uv t.k g)/\Ext h ab:=by
 obtain ⟨cB,rfl,L,_⟩:=aQ.open H;have ol:=L.one;refine YA.z rfl (cw ?_);unfold NL uv;obtain ⟨aa,ak,aK,c8⟩:=fM h [.int .i64 t.k,.int .i64 t.n,.int .i64 t.a,.str t.s,cB];by_cases a:g=8
 . simp +contextual only [ol.1,ol.2.1,ak,c8.g,apC a,ap3,↓an,aF,simprocAttr];exact aK
 . by_cases b:g=9
   . simp +contextual only [ol.1,ol.2.1,ak,c8.g,apy a,apC b,ap3,ap9,↓an,aF,simprocAttr];exact aK
   . simp +contextual only [ol.1,ol.2.1,ak,c8.g,apy a,apy b,ap9,↓an,aF,simprocAttr];refine cu (QV t.k aa) ?_;rintro x ad ⟨rfl,rfl⟩;simp +contextual only [↓an,aF,simprocAttr];exact aK
def zk (k:Int):List (Int × hS)->Option hS
 | []=>none
 | (n,r)::l=>if k=n then some r else zk k l
def qn (k:Int):Option hS:=zk k w6
theorem Qz (k:Int):∀l:List (Int × hS),nc k (l.map fun x=>(x.1,x.2.enc))=(zk k l).map hS.enc
 | []=>rfl
 | (n,r)::l=>by
   simp only [aqu,nc,zk]
   split
   . rfl
   . exact Qz k l
theorem abI (k:Int):nc k Gg=(qn k).map hS.enc:=Qz k w6
def opsL:List (List UInt8):=[[43],[45],[42],[47],[109,111,100],[61],[60],[60,61]]
section
variable (named:Int->List UInt8->Bool)
def zv (nS:Int) (s:List UInt8):Bool:=
 if nS=1 then named 3 s else if nS=2 then named 4 s else if nS=3 then named 5 s else if nS=4 then decide (s.length<=4096) else if nS=5 then opsL.contains s else decide (s=[])
def firstM (r:hS) (k n:Int):List Int:=if k=50 then List.replicate n.toNat 8 else r.first
def gG (r:hS) (k n:Int) (len:Nat):Int:=(len:Int) - (firstM r k n).length-r.last.length
def nJ (r:hS) (k n:Int) (len:Nat):List Int:=firstM r k n++List.replicate (gG r k n len).toNat r.rest++r.last
def A5 (r:hS) (k n a:Int) (s:List UInt8):Bool:=
 decide (r.bP<=n)&&decide (n<=r.ax)&&decide (0<=a)&&decide (a<=65536)&&zv named r.s s
def kH (r:hS) (k n:Int) (len:Nat):Bool:=decide (r.least<=gG r k n len)&&decide (gG r k n len<=r.kI)
mutual
def aQ.may:aQ->Bool
 | .mk k n a s l=>match qn k with
   | none=>false
   | some r=>A5 named r k n a s&&kH r k n l.length&&nh (nJ r k n l.length) l
def nh:List Int->List aQ->Bool
 | _,[]=>true
 | [],_::_=>true
 | g::gs,t::l=>uv t.k g&&t.may&&nh gs l
end
def uU (k:Int) (s:List UInt8):Bool:=
 if k=1 then named 5 s else if k=2\/k=11\/k=24\/k=46\/k=50 then named 3 s else if k=16\/k=25\/k=47\/k=51 then named 4 s else
 if k=21 then decide (s.length<=4096) else if k=38 then opsL.contains s else decide (s=[])
def qm (k n:Int) (len:Nat):Bool:=
 if k=12\/k=20 then decide (-1073741824<=n)&&decide (n<=1073741823) else if k=14\/k=23 then decide (n=0)||decide (n=1) else
 if k=50 then decide (0<=n)&&decide (n<=64)&&decide (n < (len:Int)) else decide (n=0)
def QI:List aQ->Bool
 | t::_=>decide (t.k=27)
 | []=>false
def kS (k n:Int) (l:List aQ):List Int × Bool:=
 let len:=l.length
 if k=2 then (List.replicate len 1,decide (len<=64))
 else if k=3\/k=4 then (List.replicate 2 1,decide (len=2))
 else if k=15 then (List.replicate 2 2,decide (len=2))
 else if k=16 then (List.replicate len 2,decide (len<=1))
 else if k=25 then (List.replicate len 3,decide (len<=1))
 else if k=26\/k=28\/k=35\/k=37\/k=38 then (List.replicate 2 3,decide (len=2))
 else if k=34\/k=36\/k=39 then (List.replicate 1 3,decide (len=1))
 else if k=31 then (List.replicate 3 3,decide (len=3))
 else if k=27\/k=45\/k=52 then ([2,3],decide (len=2))
 else if k=29 then ([2,3,3],decide (len=3))
 else if k=30 then (List.replicate (len-1) 5++[3],decide (2<=len))
 else if k=32\/k=33 then ([3]++List.replicate (len-1) 4,decide (2<=len))
 else if k=46 then (List.replicate 1 3,decide (len=1)&&QI l)
 else if k=47\/k=51 then (List.replicate len 1,decide (len<=1))
 else if k=50 then (List.replicate n.toNat 8++List.replicate (len-n.toNat) 6,true)
 else if k=53 then (List.replicate len 5,decide (1<=len))
 else ([],decide (len=0))
def uT (k g:Int):Bool:=if g=8 then decide (k=1) else decide (hC k=g)
mutual
def aQ.lr:aQ->Bool
 | .mk k n a s l=>decide (hC k≠0)&&uU named k s&&qm k n l.length&&decide (0<=a)&&decide (a<=65536)&&(kS k n l).2&&mu (kS k n l).1 l
def mu:List Int->List aQ->Bool
 | _,[]=>true
 | [],_::_=>true
 | g::gs,t::l=>uT t.k g&&t.lr&&mu gs l
end
end
theorem LH {k:Int} {r:hS}:∀{l:List (Int × hS)},zk k l=some r->(k,r) ∈ l
 | [],h=>by cases h
 | (n,q)::l,h=>by
   simp only [zk] at h
   split at h
   . cases h;rename_i e;subst e;simp
   . exact apZ _ (LH h)
theorem aln {k:Int} (h:qn k=none):hC k=0:=by
 by_cases aB:1<=k/\k<=53
 . obtain ⟨n,rfl⟩:=aqE (show 0<=k by omega);have key:∀n<54,(qn ((n:Nat):Int)).isNone=true->hC ((n:Nat):Int)=0:=by decide
   exact key n (by omega) (by rw [h];rfl)
 . unfold hC;rw [apw (by omega),apw (by omega),apw (by omega),apw (by omega),apw (by omega),apw (by omega),apw (by omega)]
section
variable {named:Int->List UInt8->Bool}
theorem alc {k g:Int} (h:g≠9):uT k g=uv k g:=by
 unfold uT uv;by_cases tV:g=8
 . rw [apz tV,apz tV]
 . rw [apw tV,apw tV,apw h]
theorem T_:∀{gs:List Int} {l:List aQ},(∀t ∈ l,t.lr named=t.may named)->(∀g ∈ gs,g≠9)->mu named gs l=nh named gs l
 | [],[],_,_=>by rw [mu,nh]
 | g::gs,[],_,_=>by rw [mu,nh]
 | [],t::l,_,_=>by rw [mu,nh]
 | g::gs,t::l,h,aG=>by rw [mu,nh,h t (by simp),alc (aG g (by simp)),T_ (fun t aE=>h t (by simp [aE])) (fun g h=>aG g (by simp [h]))]
theorem aiS {k n a:Int} {s:List UInt8} {l:List aQ} {r:hS} (aB:hC k≠0) (aY:∀t ∈ l,t.lr named=t.may named) (aC:qn k=some r)
 (aa:uU named k s=zv named r.s s) (ad:(qm k n l.length&&(kS k n l).2)=(decide (r.bP<=n)&&decide (n<=r.ax)&&kH r k n l.length))
 (aJ:kH r k n l.length=true->r.bP<=n->(kS k n l).1=nJ r k n l.length) (ya:∀g ∈ nJ r k n l.length,g≠9):(aQ.mk k n a s l).lr named=(aQ.mk k n a s l).may named:=by
 rw [aQ.lr,aQ.may,aC];simp only;unfold A5;rw [aqf aB,ap6,aa];cases df:kH r k n l.length with
 | false=>
   rw [df,aqG] at ad;simp only [aqG];have:(qm k n l.length&&(kS k n l).2)=false:=ad;rw [aq0] at this;rcases this with q | q<;>rw [q]<;>simp
 | true=>
   rw [df,aqt] at ad;by_cases ep:r.bP<=n
   . rw [aJ df ep,T_ aY ya];have:∀x y z w u v:Bool,(x&&y&&z&&w&&u&&v)=(x&&(y&&u)&&z&&w&&v):=by decide
     rw [this,ad];simp only [aqt];have:∀x y z w u v:Bool,(x&&(y&&z)&&w&&u&&v)=(y&&z&&w&&u&&x&&v):=by decide
     rw [this]
   . rw [aqj ep,ap7] at ad;rw [aqj ep];simp only [ap7];rw [aq0] at ad;rcases ad with q | q<;>rw [q]<;>simp
theorem yS:∀(N:Nat) (t:aQ),t.size<=N->N<=1000000000->t.lr named=t.may named
 | 0,t,aZ,_=>by have:=o6 t;omega
 | N+1,.mk k n a s l,aZ,bE=>by
   have j7:l.length<=1000000000:=by have:=ni l;simp only [aQ.size] at aZ;omega
   have aY:∀t ∈ l,t.lr named=t.may named:=fun t aE=>yS N t (by have:=za (t:=.mk k n a s l) (u:=t) aE;omega) (by omega);cases aC:qn k with
   | none=>
     rw [aQ.lr,aQ.may,aC,aln aC];simp
   | some r=>
     have hm:=LH (l:=w6) aC;by_cases Q7:k=46
     . subst Q7;have:r={s:=1,first:=[9]}:=by
        have:qn 46=some {s:=1,first:=[9]}:=by rfl
        rw [aC] at this;exact aqB this
       subst this;rw [aQ.lr,aQ.may,aC];simp only;have aK:uU named 46 s=zv named 1 s:=by rfl
       have aS:qm 46 n l.length=(decide (0<=n)&&decide (n<=0)):=by rw [aqm];simp [qm];omega
       unfold A5;rw [aK,aS,aqf (show hC 46≠0 by decide)]
       match l,aY with
       | [],_=>simp [kS,kH,gG,firstM]
       | [t],aY=>
         have aG:nJ {s:=1,first:=[9]} 46 n [t].length=[9]:=by simp [nJ,firstM,gG]
         have vS:kS 46 n [t]=([3],decide (t.k=27)):=by simp [kS,QI]
         rw [aG,vS,mu,nh,mu,nh,aY t (by simp)];have df:kH {s:=1,first:=[9]} 46 n [t].length=true:=by simp [kH,gG,firstM]
         rw [df];have ax:uv t.k 9=decide (t.k=27):=by simp [uv]
         rw [ax];by_cases AR:t.k=27
         . rw [aqf AR];have:uT t.k 3=true:=by rw [AR];decide
           rw [this];have:∀x y z w u v:Bool,(true&&x&&(y&&z)&&w&&u&&true&&(true&&v&&true))=(y&&z&&w&&u&&x&&true&&(true&&v&&true)):=by decide
           apply this
         . rw [aqj AR];simp
       | t::u::l,_=>
         have aa:(kS 46 n (t::u::l)).2=false:=by simp [kS]
         have ad:kH {s:=1,first:=[9]} 46 n (t::u::l).length=false:=by simp [kH,gG,firstM]
         rw [aa,ad];simp
     . simp only [w6,apJ,aqD,List.not_mem_nil,or_false] at hm;rcases hm with h | h | h | h | h | h | h | h | h | h | h | h | h | h | h | h | h | h | h | h | h | h | h | h | h | h | h | h | h | h | h | h | h | h | h | h | h | h<;>
       obtain ⟨rfl,rfl⟩:=h<;>first | (exact absurd rfl Q7) | skip
       all_goals
        refine aiS (by decide) aY aC (by rfl) ?_ ?_ ?_
        . rw [aqm];simp [qm,kS,kH,gG,firstM]
          try omega
        . intro df ep;simp [kS,kH,gG,firstM,nJ] at df ep ⊢
          try omega
        . simp [nJ,firstM,gG]
          try (intro g aG;omega)
end
end
end Go.Proofs.YtgmhjhgoamjeeaaGreatDoor
