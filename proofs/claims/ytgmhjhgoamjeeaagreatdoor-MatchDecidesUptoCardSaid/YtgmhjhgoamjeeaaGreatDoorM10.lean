/- The chapter's functions, walked by the abstract machine: plain lemmas, no condition. Printed by a program from longer texts: names made short. -/
import Derived.Test.YtgmhjhgoamjeeaaGreatDoorM8
import Derived.Test.YtgmhjhgoamjeeaaGreatDoorM9
import Derived.Test.YtgmhjhgoamjeeaaGreatDoorM6
import Derived.Shelf.Unicode.Decode
import Derived.Shelf.Unicode.DecodeSlow
import Derived.Shelf.Unicode.DecodeAny
import Derived.Shelf.Strconv.Atoi
import Derived.Shelf.Pu.ParseUintPublic10
import Derived.Lib.LaidU8T
set_option linter.unusedSectionVars false
set_option linter.unusedSimpArgs false
set_option linter.unusedVariables false
set_option maxHeartbeats 64000000
noncomputable section
namespace Go.Proofs.YtgmhjhgoamjeeaaGreatDoor
section
open Go aX
theorem adq:Extern.findNext Tryz.f128=none:=by kernel_rfl
theorem adp:(Extern.find Tryz.f128)=some Extern.BytealgIndexByte.indexByte:=by kernel_rfl
theorem ag_ (s:List UInt8) (c:Int) (h:ae):e4 Tryz.prog 128 [.str s,.int .u8 c] h (.int .i64 (Lib.indexByte s c.toNat.toUInt8)) h:=
 ahc (by decide) Tryz.func128 (by kernel_rfl) (by kernel_rfl) adq adp s c h
theorem ag' (s:List UInt8) (c:Int) (h:ae):e4 Tryz.prog 118 [.str s,.int .u8 c] h (.int .i64 (Lib.indexByte s c.toNat.toUInt8)) h:=by refine r0 (aag.z rfl (cp ?_));unfold O7;simp +contextual only [↓aj,aC,simprocAttr];refine hU (ag_ _ _ _) ?_;simp +contextual only [↓aj,aC,simprocAttr]
theorem TC (s:List UInt8) (c:Int) (h:ae):e4 Tryz.prog 113 [.str s,.int .u8 c] h (.int .i64 (Lib.indexByte s c.toNat.toUInt8)) h:=by refine r0 (aac.z rfl (cp ?_));unfold O1;simp +contextual only [↓aj,aC,simprocAttr];refine hU (ag' _ _ _) ?_;simp +contextual only [↓aj,aC,simprocAttr]
end
section
open Go Go.Shelf
def Tryz.ajX:Go.Shelf.Ren:=⟨fun | 197=>117 | 260=>127 | n=>n,fun | 9=>9 | 21=>21 | 3=>3 | 4=>4 | 5=>5 | 105=>185 | 119=>196 | 0=>0 | 46=>160 | 139=>199 | 138=>198 | n=>n,fun | 3=>0 | 4=>1 | n=>n⟩
theorem Tryz.ajW:Go.Proofs.Lays.n197 Tryz.prog Tryz.ajX:={
 mixed:=by kernel_rfl,
 f197:=Tryz.func117.trans (congrArg some (by kernel_rfl)),
 f260:=Tryz.func127.trans (congrArg some (by kernel_rfl)),
 t0:=Tryz.underlying0,
 a0:=Tryz.isAgg0,
 z0:=Tryz.sizeOf0,
 v0:=Tryz.zeroValue0,
 t3:=Tryz.underlying3,
 a3:=Tryz.isAgg3,
 z3:=Tryz.sizeOf3,
 v3:=Tryz.zeroValue3,
 t4:=Tryz.underlying4,
 a4:=Tryz.isAgg4,
 z4:=Tryz.sizeOf4,
 v4:=Tryz.zeroValue4,
 t5:=Tryz.underlying5,
 a5:=Tryz.isAgg5,
 z5:=Tryz.sizeOf5,
 v5:=Tryz.zeroValue5,
 t9:=Tryz.underlying9,
 a9:=Tryz.isAgg9,
 z9:=Tryz.sizeOf9,
 v9:=Tryz.zeroValue9,
 t21:=Tryz.underlying21,
 a21:=Tryz.isAgg21,
 z21:=Tryz.sizeOf21,
 v21:=Tryz.zeroValue21,
 t46:=Tryz.underlying160,
 a46:=Tryz.isAgg160,
 z46:=Tryz.sizeOf160,
 v46:=Tryz.zeroValue160,
 t105:=Tryz.underlying185,
 a105:=Tryz.isAgg185,
 z105:=Tryz.sizeOf185,
 v105:=Tryz.zeroValue185,
 t119:=Tryz.underlying196,
 a119:=Tryz.isAgg196,
 z119:=Tryz.sizeOf196,
 t138:=Tryz.underlying198,
 a138:=Tryz.isAgg198,
 z138:=Tryz.sizeOf198,
 v138:=Tryz.zeroValue198,
 t139:=Tryz.underlying199,
 a139:=Tryz.isAgg199,
 z139:=Tryz.sizeOf199,
 v139:=Tryz.zeroValue199,
 g3:=by kernel_rfl,
 g4:=by kernel_rfl}
def Tryz.ajV:Go.Shelf.Ren:=⟨fun | 172=>137 | 244=>145 | 245=>136 | 247=>150 | 279=>141 | 280=>142 | 281=>143 | 282=>144 | 287=>135 | 316=>147 | 171=>149 | 205=>148 | 321=>139 | 322=>140 | 243=>154 | 246=>156 | 283=>157 | 284=>158 | 285=>159 | 286=>160 | 129=>162 | 317=>161 | 318=>163 | 319=>164 | 320=>165 | 337=>166 | 338=>167 | n=>n,fun | 9=>9 | 3=>3 | 75=>190 | 76=>201 | 4=>4 | 5=>5 | 167=>204 | 37=>194 | 0=>0 | 85=>214 | 2=>2 | 168=>206 | 53=>175 | 175=>191 | 46=>160 | 210=>211 | 127=>216 | 145=>219 | 143=>217 | 21=>21 | 171=>222 | 173=>225 | 212=>228 | 51=>172 | 20=>20 | 213=>229 | 232=>233 | 233=>234 | 80=>235 | n=>n,fun | 15=>3 | 16=>4 | 17=>5 | 18=>6 | 19=>7 | n=>n⟩
theorem Tryz.ajU:Go.Proofs.Lays.n172 Tryz.prog Tryz.ajV:={
 mixed:=by kernel_rfl,
 f129:=Tryz.func162.trans (congrArg some (by kernel_rfl)),
 f171:=Tryz.func149.trans (congrArg some (by kernel_rfl)),
 f172:=Tryz.func137.trans (congrArg some (by kernel_rfl)),
 f205:=Tryz.func148.trans (congrArg some (by kernel_rfl)),
 f243:=Tryz.func154.trans (congrArg some (by kernel_rfl)),
 f244:=Tryz.func145.trans (congrArg some (by kernel_rfl)),
 f245:=Tryz.func136.trans (congrArg some (by kernel_rfl)),
 f246:=Tryz.func156.trans (congrArg some (by kernel_rfl)),
 f247:=Tryz.func150.trans (congrArg some (by kernel_rfl)),
 f279:=Tryz.func141.trans (congrArg some (by kernel_rfl)),
 f280:=Tryz.func142.trans (congrArg some (by kernel_rfl)),
 f281:=Tryz.func143.trans (congrArg some (by kernel_rfl)),
 f282:=Tryz.func144.trans (congrArg some (by kernel_rfl)),
 f283:=Tryz.func157.trans (congrArg some (by kernel_rfl)),
 f284:=Tryz.func158.trans (congrArg some (by kernel_rfl)),
 f285:=Tryz.func159.trans (congrArg some (by kernel_rfl)),
 f286:=Tryz.func160.trans (congrArg some (by kernel_rfl)),
 f287:=Tryz.func135.trans (congrArg some (by kernel_rfl)),
 f316:=Tryz.func147.trans (congrArg some (by kernel_rfl)),
 f317:=Tryz.func161.trans (congrArg some (by kernel_rfl)),
 f318:=Tryz.func163.trans (congrArg some (by kernel_rfl)),
 f319:=Tryz.func164.trans (congrArg some (by kernel_rfl)),
 f320:=Tryz.func165.trans (congrArg some (by kernel_rfl)),
 f321:=Tryz.func139.trans (congrArg some (by kernel_rfl)),
 f322:=Tryz.func140.trans (congrArg some (by kernel_rfl)),
 f337:=Tryz.func166.trans (congrArg some (by kernel_rfl)),
 f338:=Tryz.func167.trans (congrArg some (by kernel_rfl)),
 t0:=Tryz.underlying0,
 a0:=Tryz.isAgg0,
 z0:=Tryz.sizeOf0,
 v0:=Tryz.zeroValue0,
 t2:=Tryz.underlying2,
 a2:=Tryz.isAgg2,
 z2:=Tryz.sizeOf2,
 v2:=Tryz.zeroValue2,
 t3:=Tryz.underlying3,
 a3:=Tryz.isAgg3,
 z3:=Tryz.sizeOf3,
 v3:=Tryz.zeroValue3,
 t4:=Tryz.underlying4,
 a4:=Tryz.isAgg4,
 z4:=Tryz.sizeOf4,
 v4:=Tryz.zeroValue4,
 t5:=Tryz.underlying5,
 a5:=Tryz.isAgg5,
 z5:=Tryz.sizeOf5,
 v5:=Tryz.zeroValue5,
 t9:=Tryz.underlying9,
 a9:=Tryz.isAgg9,
 z9:=Tryz.sizeOf9,
 v9:=Tryz.zeroValue9,
 t20:=Tryz.underlying20,
 a20:=Tryz.isAgg20,
 z20:=Tryz.sizeOf20,
 v20:=Tryz.zeroValue20,
 t21:=Tryz.underlying21,
 a21:=Tryz.isAgg21,
 z21:=Tryz.sizeOf21,
 v21:=Tryz.zeroValue21,
 t37:=Tryz.underlying194,
 a37:=Tryz.isAgg194,
 z37:=Tryz.sizeOf194,
 v37:=Tryz.zeroValue194,
 t46:=Tryz.underlying160,
 a46:=Tryz.isAgg160,
 z46:=Tryz.sizeOf160,
 v46:=Tryz.zeroValue160,
 t51:=Tryz.underlying172,
 a51:=Tryz.isAgg172,
 z51:=Tryz.sizeOf172,
 v51:=Tryz.zeroValue172,
 t53:=Tryz.underlying175,
 a53:=Tryz.isAgg175,
 z53:=Tryz.sizeOf175,
 v53:=Tryz.zeroValue175,
 t75:=Tryz.underlying190,
 a75:=Tryz.isAgg190,
 z75:=Tryz.sizeOf190,
 v75:=Tryz.zeroValue190,
 t76:=Tryz.underlying201,
 a76:=Tryz.isAgg201,
 z76:=Tryz.sizeOf201,
 v76:=Tryz.zeroValue201,
 t85:=Tryz.underlying214,
 a85:=Tryz.isAgg214,
 z85:=Tryz.sizeOf214,
 v85:=Tryz.zeroValue214,
 t127:=Tryz.underlying216,
 a127:=Tryz.isAgg216,
 z127:=Tryz.sizeOf216,
 v127:=Tryz.zeroValue216,
 t143:=Tryz.underlying217,
 a143:=Tryz.isAgg217,
 z143:=Tryz.sizeOf217,
 v143:=Tryz.zeroValue217,
 t145:=Tryz.underlying219,
 a145:=Tryz.isAgg219,
 z145:=Tryz.sizeOf219,
 v145:=Tryz.zeroValue219,
 t167:=Tryz.underlying204,
 a167:=Tryz.isAgg204,
 z167:=Tryz.sizeOf204,
 v167:=Tryz.zeroValue204,
 t168:=Tryz.underlying206,
 a168:=Tryz.isAgg206,
 z168:=Tryz.sizeOf206,
 v168:=Tryz.zeroValue206,
 t171:=Tryz.underlying222,
 a171:=Tryz.isAgg222,
 z171:=Tryz.sizeOf222,
 v171:=Tryz.zeroValue222,
 t173:=Tryz.underlying225,
 a173:=Tryz.isAgg225,
 z173:=Tryz.sizeOf225,
 v173:=Tryz.zeroValue225,
 t175:=Tryz.underlying191,
 a175:=Tryz.isAgg191,
 z175:=Tryz.sizeOf191,
 v175:=Tryz.zeroValue191,
 t210:=Tryz.underlying211,
 a210:=Tryz.isAgg211,
 z210:=Tryz.sizeOf211,
 v210:=Tryz.zeroValue211,
 t212:=Tryz.underlying228,
 a212:=Tryz.isAgg228,
 z212:=Tryz.sizeOf228,
 v212:=Tryz.zeroValue228,
 t213:=Tryz.underlying229,
 a213:=Tryz.isAgg229,
 z213:=Tryz.sizeOf229,
 t232:=Tryz.underlying233,
 a232:=Tryz.isAgg233,
 z232:=Tryz.sizeOf233,
 v232:=Tryz.zeroValue233,
 t233:=Tryz.underlying234,
 a233:=Tryz.isAgg234,
 z233:=Tryz.sizeOf234,
 v233:=Tryz.zeroValue234,
 g15:=by kernel_rfl,
 g16:=by kernel_rfl,
 g17:=by kernel_rfl,
 g18:=by kernel_rfl,
 g19:=by kernel_rfl}
def Tryz.Lj:Go.Shelf.Ren:=⟨fun | 14=>130 | 16=>135 | 17=>136 | 19=>139 | 20=>140 | 21=>141 | 22=>142 | 23=>143 | 24=>144 | 25=>147 | 27=>149 | 26=>148 | 28=>154 | 29=>156 | 30=>157 | 31=>158 | 32=>159 | 33=>160 | 35=>162 | 34=>161 | 36=>163 | 37=>164 | 38=>165 | 39=>166 | 40=>167 | n=>n,fun | 9=>9 | 3=>3 | 22=>175 | 24=>190 | 25=>191 | 4=>4 | 34=>204 | 5=>5 | 36=>160 | 37=>194 | 0=>0 | 39=>206 | 21=>21 | 44=>211 | 47=>216 | 50=>219 | 48=>217 | 2=>2 | 52=>222 | 55=>225 | 59=>228 | 60=>172 | 20=>20 | 61=>229 | 65=>233 | 66=>234 | 67=>235 | n=>n,fun | 0=>3 | 1=>4 | 2=>5 | 3=>6 | 4=>7 | n=>n⟩
theorem Tryz.T4:Go.Proofs.LaysPu.n14 Tryz.prog Tryz.Lj:={
 mixed:=by kernel_rfl,
 f14:=Tryz.func130.trans (congrArg some (by kernel_rfl)),
 f16:=Tryz.func135.trans (congrArg some (by kernel_rfl)),
 f17:=Tryz.func136.trans (congrArg some (by kernel_rfl)),
 f19:=Tryz.func139.trans (congrArg some (by kernel_rfl)),
 f20:=Tryz.func140.trans (congrArg some (by kernel_rfl)),
 f21:=Tryz.func141.trans (congrArg some (by kernel_rfl)),
 f22:=Tryz.func142.trans (congrArg some (by kernel_rfl)),
 f23:=Tryz.func143.trans (congrArg some (by kernel_rfl)),
 f24:=Tryz.func144.trans (congrArg some (by kernel_rfl)),
 f25:=Tryz.func147.trans (congrArg some (by kernel_rfl)),
 f26:=Tryz.func148.trans (congrArg some (by kernel_rfl)),
 f27:=Tryz.func149.trans (congrArg some (by kernel_rfl)),
 f28:=Tryz.func154.trans (congrArg some (by kernel_rfl)),
 f29:=Tryz.func156.trans (congrArg some (by kernel_rfl)),
 f30:=Tryz.func157.trans (congrArg some (by kernel_rfl)),
 f31:=Tryz.func158.trans (congrArg some (by kernel_rfl)),
 f32:=Tryz.func159.trans (congrArg some (by kernel_rfl)),
 f33:=Tryz.func160.trans (congrArg some (by kernel_rfl)),
 f34:=Tryz.func161.trans (congrArg some (by kernel_rfl)),
 f35:=Tryz.func162.trans (congrArg some (by kernel_rfl)),
 f36:=Tryz.func163.trans (congrArg some (by kernel_rfl)),
 f37:=Tryz.func164.trans (congrArg some (by kernel_rfl)),
 f38:=Tryz.func165.trans (congrArg some (by kernel_rfl)),
 f39:=Tryz.func166.trans (congrArg some (by kernel_rfl)),
 f40:=Tryz.func167.trans (congrArg some (by kernel_rfl)),
 t0:=Tryz.underlying0,
 a0:=Tryz.isAgg0,
 z0:=Tryz.sizeOf0,
 v0:=Tryz.zeroValue0,
 i0:=by kernel_rfl,
 t2:=Tryz.underlying2,
 a2:=Tryz.isAgg2,
 z2:=Tryz.sizeOf2,
 v2:=Tryz.zeroValue2,
 i2:=by kernel_rfl,
 t3:=Tryz.underlying3,
 a3:=Tryz.isAgg3,
 z3:=Tryz.sizeOf3,
 v3:=Tryz.zeroValue3,
 i3:=by kernel_rfl,
 t4:=Tryz.underlying4,
 a4:=Tryz.isAgg4,
 z4:=Tryz.sizeOf4,
 v4:=Tryz.zeroValue4,
 i4:=by kernel_rfl,
 t5:=Tryz.underlying5,
 a5:=Tryz.isAgg5,
 z5:=Tryz.sizeOf5,
 v5:=Tryz.zeroValue5,
 i5:=by kernel_rfl,
 t9:=Tryz.underlying9,
 a9:=Tryz.isAgg9,
 z9:=Tryz.sizeOf9,
 v9:=Tryz.zeroValue9,
 i9:=by kernel_rfl,
 t20:=Tryz.underlying20,
 a20:=Tryz.isAgg20,
 z20:=Tryz.sizeOf20,
 v20:=Tryz.zeroValue20,
 i20:=by kernel_rfl,
 t21:=Tryz.underlying21,
 a21:=Tryz.isAgg21,
 z21:=Tryz.sizeOf21,
 v21:=Tryz.zeroValue21,
 i21:=by kernel_rfl,
 t22:=Tryz.underlying175,
 a22:=Tryz.isAgg175,
 z22:=Tryz.sizeOf175,
 v22:=Tryz.zeroValue175,
 i22:=by kernel_rfl,
 t24:=Tryz.underlying190,
 a24:=Tryz.isAgg190,
 z24:=Tryz.sizeOf190,
 v24:=Tryz.zeroValue190,
 i24:=by kernel_rfl,
 t25:=Tryz.underlying191,
 a25:=Tryz.isAgg191,
 z25:=Tryz.sizeOf191,
 v25:=Tryz.zeroValue191,
 i25:=by kernel_rfl,
 t34:=Tryz.underlying204,
 a34:=Tryz.isAgg204,
 z34:=Tryz.sizeOf204,
 v34:=Tryz.zeroValue204,
 i34:=by kernel_rfl,
 c34:=by kernel_rfl,
 t36:=Tryz.underlying160,
 a36:=Tryz.isAgg160,
 z36:=Tryz.sizeOf160,
 v36:=Tryz.zeroValue160,
 i36:=by kernel_rfl,
 t37:=Tryz.underlying194,
 a37:=Tryz.isAgg194,
 z37:=Tryz.sizeOf194,
 v37:=Tryz.zeroValue194,
 i37:=by kernel_rfl,
 t39:=Tryz.underlying206,
 a39:=Tryz.isAgg206,
 z39:=Tryz.sizeOf206,
 v39:=Tryz.zeroValue206,
 i39:=by kernel_rfl,
 t44:=Tryz.underlying211,
 a44:=Tryz.isAgg211,
 z44:=Tryz.sizeOf211,
 v44:=Tryz.zeroValue211,
 i44:=by kernel_rfl,
 t47:=Tryz.underlying216,
 a47:=Tryz.isAgg216,
 z47:=Tryz.sizeOf216,
 v47:=Tryz.zeroValue216,
 i47:=by kernel_rfl,
 t48:=Tryz.underlying217,
 a48:=Tryz.isAgg217,
 z48:=Tryz.sizeOf217,
 v48:=Tryz.zeroValue217,
 i48:=by kernel_rfl,
 t50:=Tryz.underlying219,
 a50:=Tryz.isAgg219,
 z50:=Tryz.sizeOf219,
 v50:=Tryz.zeroValue219,
 i50:=by kernel_rfl,
 t52:=Tryz.underlying222,
 a52:=Tryz.isAgg222,
 z52:=Tryz.sizeOf222,
 v52:=Tryz.zeroValue222,
 i52:=by kernel_rfl,
 t55:=Tryz.underlying225,
 a55:=Tryz.isAgg225,
 z55:=Tryz.sizeOf225,
 v55:=Tryz.zeroValue225,
 i55:=by kernel_rfl,
 t59:=Tryz.underlying228,
 a59:=Tryz.isAgg228,
 z59:=Tryz.sizeOf228,
 v59:=Tryz.zeroValue228,
 i59:=by kernel_rfl,
 t60:=Tryz.underlying172,
 a60:=Tryz.isAgg172,
 z60:=Tryz.sizeOf172,
 v60:=Tryz.zeroValue172,
 i60:=by kernel_rfl,
 t61:=Tryz.underlying229,
 a61:=Tryz.isAgg229,
 z61:=Tryz.sizeOf229,
 t65:=Tryz.underlying233,
 a65:=Tryz.isAgg233,
 z65:=Tryz.sizeOf233,
 v65:=Tryz.zeroValue233,
 i65:=by kernel_rfl,
 t66:=Tryz.underlying234,
 a66:=Tryz.isAgg234,
 z66:=Tryz.sizeOf234,
 v66:=Tryz.zeroValue234,
 i66:=by kernel_rfl,
 t67:=Tryz.underlying235,
 a67:=Tryz.isAgg235,
 z67:=Tryz.sizeOf235,
 v67:=Tryz.zeroValue235,
 i67:=by kernel_rfl,
 g0:=by kernel_rfl,
 m0:=by kernel_rfl,
 g1:=by kernel_rfl,
 m1:=by kernel_rfl,
 g2:=by kernel_rfl,
 m2:=by kernel_rfl,
 g3:=by kernel_rfl,
 m3:=by kernel_rfl,
 g4:=by kernel_rfl,
 m4:=by kernel_rfl}
def Tryz.Co:Go.Shelf.Ren:=⟨fun | 260=>127 | n=>n,fun | 9=>9 | 21=>21 | 3=>3 | 4=>4 | 5=>5 | 119=>196 | 0=>0 | 46=>160 | 139=>199 | 138=>198 | n=>n,fun | 3=>0 | 4=>1 | n=>n⟩
theorem Tryz.ajY:Go.Proofs.Lays.n260 Tryz.prog Tryz.Co:={
 mixed:=by kernel_rfl,
 f260:=Tryz.func127.trans (congrArg some (by kernel_rfl)),
 t0:=Tryz.underlying0,
 a0:=Tryz.isAgg0,
 z0:=Tryz.sizeOf0,
 v0:=Tryz.zeroValue0,
 t3:=Tryz.underlying3,
 a3:=Tryz.isAgg3,
 z3:=Tryz.sizeOf3,
 v3:=Tryz.zeroValue3,
 t4:=Tryz.underlying4,
 a4:=Tryz.isAgg4,
 z4:=Tryz.sizeOf4,
 v4:=Tryz.zeroValue4,
 t5:=Tryz.underlying5,
 a5:=Tryz.isAgg5,
 z5:=Tryz.sizeOf5,
 v5:=Tryz.zeroValue5,
 t9:=Tryz.underlying9,
 a9:=Tryz.isAgg9,
 z9:=Tryz.sizeOf9,
 v9:=Tryz.zeroValue9,
 t21:=Tryz.underlying21,
 a21:=Tryz.isAgg21,
 z21:=Tryz.sizeOf21,
 v21:=Tryz.zeroValue21,
 t46:=Tryz.underlying160,
 a46:=Tryz.isAgg160,
 z46:=Tryz.sizeOf160,
 v46:=Tryz.zeroValue160,
 t119:=Tryz.underlying196,
 a119:=Tryz.isAgg196,
 z119:=Tryz.sizeOf196,
 t138:=Tryz.underlying198,
 a138:=Tryz.isAgg198,
 z138:=Tryz.sizeOf198,
 v138:=Tryz.zeroValue198,
 t139:=Tryz.underlying199,
 a139:=Tryz.isAgg199,
 z139:=Tryz.sizeOf199,
 v139:=Tryz.zeroValue199,
 g3:=by kernel_rfl,
 g4:=by kernel_rfl}
end
section
open Go aX Go.RowKit
section
open Go.Shelf
theorem acg (s:ByteArray) (w:World) (dI:Lib.Utf8Tabs 0 1 w):
 Calls Tryz.prog 117 #[.string s] w fun e w'=>e=.returned (.tuple #[.int .i32 (Lib.decodeGo s).1,.int .i64 (Lib.decodeGo s).2])/\Below w.heap.size w w':=Any.utf8_DecodeRuneInString Tryz.ajW s w dI
theorem ZC (s:ByteArray) (n:Int) (ax:s.size<=18) (h:Lib.atoi s.data.toList=some n) (w:World):
 Calls Tryz.prog 137 #[.string s] w fun e w'=>e=.returned (.tuple #[.int .i64 n,.nilIface])/\Below w.heap.size w w':=(Any.strconv_Atoi Tryz.ajU s n ax h w).mono fun e w' q=>⟨q.1,by obtain ⟨t,rfl⟩:=q.2;exact Lib.bytesWorld_below _ _ _⟩
theorem amc (s:ByteArray) (afQ:s.size<=9223372036854775806) (u:Nat) (h:Lib.parseUintB 64 s.data.toList=.ok u) (w:World):
 Calls Tryz.prog 130 #[.string s,.int .i64 10,.int .i64 64] w fun e w'=>e=.returned (.tuple #[.int .u64 u,.nilIface])/\Below w.heap.size w w':=(Any.strconv_ParseUint_10_at64_ok Tryz.T4 s afQ u h w).mono fun e w' q=>⟨q.1,by
  rcases q.2 with rfl | rfl
  . exact Below.refl _ _
  . exact Lib.bytesWorld_below _ _ _⟩
theorem ame (s:ByteArray) (wO:s.size<=281474976710656) (h:Lib.parseUintB 64 s.data.toList=.range) (w:World) (he:xO w 4):
 Calls Tryz.prog 130 #[.string s,.int .i64 10,.int .i64 64] w fun e w'=>(∃p,e=.returned (.tuple #[.int .u64 18446744073709551615,.iface (Tryz.Lj.t 39) p]))/\Below w.heap.size w w':=by
 obtain ⟨aQ,aa,ad⟩:=he;refine (Any.strconv_ParseUint_10_at64_range Tryz.T4 s wO h aQ w aa ad).mono fun e w' q=>?_;obtain ⟨N,aH,_,_,gb⟩:=q;exact ⟨⟨_,aH⟩,gb⟩
end
theorem Cm {f:FuncId} (a6:Nat.beq f dB=false) {args:List V} {v:V} {h:ae} (ik:∃fn,Tryz.prog.funcs[f]? =some fn/\fn.body.isSome=true) (H:∀E xs w,HY w->bh E args xs->Calls Tryz.prog f xs.toArray w fun e w'=>∃x,e=.returned x/\Rel E v x/\Below w.heap.size w w'):e4 Tryz.prog f args h v h:=by refine ⟨fun e=>by subst e;simp at a6,.inl ⟨ik,fun aA E w xs ak s=>?_⟩⟩;refine (H E xs w (Lay.e1 s.laid s.frame) ak).mono fun e w' q=>?_;obtain ⟨x,rfl,bt,ah⟩:=q;exact ⟨E,x,rfl,fun _ _ q=>q,bt,s.below ah⟩
theorem ace (s:List UInt8) (h:ae):e4 Tryz.prog 117 [.str s] h (.tuple [.int .i32 (Lib.decodeGo ⟨⟨s⟩⟩).1,.int .i64 (Lib.decodeGo ⟨⟨s⟩⟩).2]) h:=by refine Cm (by decide) ⟨_,Tryz.func117,by kernel_rfl⟩ fun E xs w ax ak=>?_;obtain ⟨y,cx,rfl,al,rfl⟩:=ak;simp only [Rel] at al;subst al;refine (acg ⟨⟨s⟩⟩ w ax.Xi).mono fun e w' q=>?_;obtain ⟨rfl,ah⟩:=q;refine ⟨_,rfl,?_,ah⟩;simp only [Rel];exact ⟨_,rfl,_,_,rfl,rfl,_,_,rfl,rfl,rfl⟩
theorem abR (s sub:List UInt8) (aU:s.length<=100000) (h:ae):e4 Tryz.prog 134 [.str s,.str sub] h (.bool (Lib.contains s sub)) h:=by refine Cm (by decide) ⟨_,Tryz.func134,by kernel_rfl⟩ fun E xs w ax ak=>?_;obtain ⟨y,cx,rfl,al,z,vD,rfl,ao,rfl⟩:=ak;simp only [Rel] at al ao;subst al ao;obtain ⟨m,hm⟩:=ax.maxLen;refine (QM ⟨⟨s⟩⟩ ⟨⟨sub⟩⟩ m w (by show s.length<4294967281;omega) hm).mono fun e w' q=>?_;obtain ⟨rfl,rfl⟩:=q;refine ⟨_,rfl,?_,Below.refl _ _⟩;simp only [Rel]
theorem ZB (s:List UInt8) (n:Int) (ax:s.length<=18) (h:Lib.atoi s=some n) (ag:ae):e4 Tryz.prog 137 [.str s] ag (.tuple [.int .i64 n,.nilIface]) ag:=by refine Cm (by decide) ⟨_,Tryz.func137,by kernel_rfl⟩ fun E xs w wN ak=>?_;obtain ⟨y,cx,rfl,al,rfl⟩:=ak;simp only [Rel] at al;subst al;refine (ZC ⟨⟨s⟩⟩ n ax h w).mono fun e w' q=>?_;obtain ⟨rfl,ah⟩:=q;refine ⟨_,rfl,?_,ah⟩;simp only [Rel];exact ⟨_,rfl,_,_,rfl,rfl,_,_,rfl,rfl,rfl⟩
theorem amb (s:List UInt8) (u:Nat) (ax:s.length<=100000) (h:Lib.parseUintB 64 s=.ok u) (ag:ae):e4 Tryz.prog 130 [.str s,.int .i64 10,.int .i64 64] ag (.tuple [.int .u64 u,.nilIface]) ag:=by refine Cm (by decide) ⟨_,Tryz.func130,by kernel_rfl⟩ fun E xs w wN ak=>?_;obtain ⟨y,cx,rfl,al,z,vD,rfl,ao,t,bn,rfl,aK,rfl⟩:=ak;simp only [Rel] at al ao aK;subst al ao aK;refine (amc ⟨⟨s⟩⟩ (by show s.length<=9223372036854775806;omega) u h w).mono fun e w' q=>?_;obtain ⟨rfl,ah⟩:=q;refine ⟨_,rfl,?_,ah⟩;simp only [Rel];exact ⟨_,rfl,_,_,rfl,rfl,_,_,rfl,rfl,rfl⟩
def ac1:TypeId:=Tryz.Lj.t 39
theorem amd (s:List UInt8) (ax:s.length<=100000) (h:Lib.parseUintB 64 s=.range) (ag:ae):e4 Tryz.prog 130 [.str s,.int .i64 10,.int .i64 64] ag (.tuple [.int .u64 18446744073709551615,.iface ac1 .bad]) ag:=by refine Cm (by decide) ⟨_,Tryz.func130,by kernel_rfl⟩ fun E xs w wN ak=>?_;obtain ⟨y,cx,rfl,al,z,vD,rfl,ao,t,bn,rfl,aK,rfl⟩:=ak;simp only [Rel] at al ao aK;subst al ao aK;refine (ame ⟨⟨s⟩⟩ (by show s.length<=281474976710656;omega) h w wN.RC).mono fun e w' q=>?_;obtain ⟨⟨p,rfl⟩,ah⟩:=q;refine ⟨_,rfl,?_,ah⟩;simp only [Rel];exact ⟨_,rfl,_,_,rfl,rfl,_,_,rfl,⟨p,rfl,trivial⟩,rfl⟩
end
section
open Go aX
def gm (s:List UInt8) (i:Nat):Nat:=if decodeL s i=(65533,1) then 0 else (decodeL s i).2
def tB:Nat->List UInt8->Nat->Nat
 | 0,s,_=>s.length
 | f+1,s,a=>if a<s.length then (if gm s a=0 then a else tB f s (a+gm s a)) else s.length
def r3 (s:List UInt8) (a:Nat):Nat:=tB (s.length-a) s a
def vm (s:List UInt8):Nat:=r3 s 0
theorem Wf (s:List UInt8):∀(f g a:Nat),s.length-a<=f->s.length-a<=g->tB f s a=tB g s a
 | 0,g,a,aa,ad=>by
   cases g with
   | zero=>rfl
   | succ g=>simp only [tB];rw [arw (by omega)]
 | f+1,0,a,aa,ad=>by simp only [tB];rw [arw (by omega)]
 | f+1,g+1,a,aa,ad=>by
   simp only [tB];by_cases bs:a<s.length
   . rw [arz bs,arz bs];by_cases aq:gm s a=0
     . rw [arz aq,arz aq]
     . rw [arw aq,arw aq];exact Wf s f g _ (by omega) (by omega)
   . rw [arw bs,arw bs]
theorem We {s:List UInt8} {a:Nat} (h:s.length<=a):r3 s a=s.length:=by unfold r3;rw [show s.length-a=0 from by omega];rfl
theorem am3 {s:List UInt8} {a:Nat} (h:a<s.length) (aq:gm s a=0):r3 s a=a:=by unfold r3;rw [show s.length-a=s.length-a-1+1 from by omega,tB,arz h,arz aq]
theorem MA {s:List UInt8} {a:Nat} (h:a<s.length) (aq:gm s a≠0):r3 s a=r3 s (a+gm s a):=by unfold r3;rw [show s.length-a=s.length-a-1+1 from by omega,tB,arz h,arw aq];exact Wf s _ _ _ (by omega) (by omega)
def fi (c:UInt8):Bool:=ou c.toNat
def gr (c:UInt8):Bool:=w9 c.toNat
def jr (l:List UInt8):Nat:=l.foldl (fun n c=>10 * n + (c.toNat-48)) 0
abbrev ug:=Except Int (Int × Int × List UInt8 × Nat)
def zv (r:List UInt8):ug:=
 let t:=r.takeWhile fi
 if 2147483647<jr t then .error 254 else .ok (1,(if 1073741823 < (jr t:Int) then (jr t:Int)-2147483648 else jr t),[],t.length)
def p5:List UInt8->Option (UInt8 × Nat)
 | []=>none
 | c::r=>if c=110 then some (10,1) else if c=116 then some (9,1) else if c=34 then some (34,1) else if c=92 then some (92,1) else
   if 2<=r.length/\fi c/\fi (r[0]?.getD 0)/\fi (r[1]?.getD 0)/\jr (c::r.take 2)<256 then some ((jr (c::r.take 2)).toUInt8,3) else none
def xE:Nat->List UInt8->Option (List UInt8 × Nat)
 | 0,_=>none
 | _+1,[]=>none
 | f+1,c::r=>if c=34 then some ([],1) else if c=92 then (match p5 r with
    | none=>none
    | some (b,n)=>(xE f (r.drop n)).map fun q=>(b::q.1,q.2+n+1))
   else if c<32\/c=127 then none else (xE f r).map fun q=>(c::q.1,q.2+1)
def qT (r:List UInt8):Option (List UInt8 × Nat):=xE r.length r
def tJ (r:List UInt8):ug:=
 match qT r with
 | none=>.error 252
 | some (b,n)=>if 4096<b.length then .error 255 else .ok (2,0,b,n+1)
def Ld:List (List UInt8):=[[97,110,100],[98,101,103,105,110],[101,108,115,101],[101,110,100],[101,120,99,101,112,116,105,111,110],[102,97,108,115,101],[102,117,110],[105,102],[105,110],[108,101,116],[109,97,116,99,104],[109,111,100],[111,102],[114,97,105,115,101],[114,101,99],[116,104,101,110],[116,114,117,101],[116,114,121],[116,121,112,101],[119,105,116,104]]
def jO:List (List UInt8):=[[59,59],[58,61],[45,62],[60,61],[59],[40],[41],[44],[61],[60],[43],[45],[42],[47],[124],[33],[95]]
def th (t:List UInt8):Bool:=Ld.contains t
def ky (kind:Int) (r:List UInt8):ug:=
 let t:=r.takeWhile gr
 if kind=3/\t=[95] then .ok (7,0,t,t.length) else if kind=3/\th t then .ok (6,0,t,t.length) else if 64<t.length then .error 255 else .ok (kind,0,t,t.length)
def zS (r:List UInt8):ug:=
 match jO.find? (·.isPrefixOf r) with
 | some t=>.ok (7,0,t,t.length)
 | none=>.error 251
def rv:List UInt8->Bool
 | d::_=>jo d.toNat
 | []=>false
def gL:List UInt8->ug
 | []=>.error 0
 | c::r=>if fi c then zv (c::r) else if c=34 then tJ r else if jo c.toNat||c=95 then ky 3 (c::r) else if pk c.toNat then ky 4 (c::r) else
   if c=39/\rv r then (ky 5 r).map fun q=>(q.1,q.2.1,q.2.2.1,q.2.2.2+1) else zS (c::r)
structure ca where
 kind:Int
 num:Int
 pos:Nat
 text:List UInt8
deriving DecidableEq
def blank (c:UInt8):Bool:=c=9||c=10||c=13||c=32
def A_ (w:ca):Except (Int × Nat) (List ca)->Except (Int × Nat) (List ca)
 | .ok ws=>.ok (w::ws)
 | .error e=>.error e
def nL:Nat->List UInt8->Nat->Except (Int × Nat) (List ca)
 | 0,_,_=>.ok []
 | _+1,[],_=>.ok []
 | f+1,c::r,p=>if blank c then nL f r (p+1) else if ([40,42]:List UInt8).isPrefixOf (c::r) then (match iL (c::r) 0 with
    | none=>.error (253,p)
    | some n=>nL f ((c::r).drop n) (p+n))
   else match gL (c::r) with
    | .error e=>.error (e,p)
    | .ok q=>A_ ⟨q.1,q.2.1,p,q.2.2.1⟩ (nL f ((c::r).drop q.2.2.2) (p+q.2.2.2))
def rQ (r:List UInt8) (p:Nat):Except (Int × Nat) (List ca):=nL r.length r p
def lL (s:List UInt8):Except (Int × Nat) (List ca):=
 if 65536<s.length then .error (3,0) else if vm s<s.length then .error (250,vm s) else rQ s 0
theorem MX {p:UInt8->Bool} {c:UInt8} {r:List UInt8} (h:p c=true):1<=((c::r).takeWhile p).length:=by simp only [as1,h,ar2,arA];omega
theorem anC {t:List UInt8} (h:t ∈ jO):1<=t.length:=by revert t;decide
theorem MJ {c:UInt8} (h:jo c.toNat=true):gr c=true:=by unfold gr w9;rw [h];simp
theorem Sc {c:UInt8} (h:pk c.toNat=true):gr c=true:=by unfold gr w9;rw [h];simp
theorem Xc {c:UInt8} (h:c=95):gr c=true:=by subst h;decide
theorem UN {k:Int} {r:List UInt8} {q:Int × Int × List UInt8 × Nat} (h:ky k r=.ok q):q.2.2.2=(r.takeWhile gr).length:=by
 unfold ky at h;simp only at h
 split at h
 . cases h;rfl
 . split at h
   . cases h;rfl
   . split at h
     . cases h
     . cases h;rfl
theorem LI {r:List UInt8} {q:Int × Int × List UInt8 × Nat} (h:gL r=.ok q):1<=q.2.2.2:=by
 match r,h with
 | c::r,h=>
   simp only [gL] at h
   split at h
   . rename_i aI;unfold zv at h;simp only at h
     split at h
     . cases h
     . cases h;exact MX aI
   . split at h
     . unfold tJ at h
       split at h
       . cases h
       . split at h
         . cases h
         . cases h;simp only;omega
     . split at h
       . rename_i aU;rw [UN h];simp only [asF,arF] at aU;exact MX (aU.elim MJ Xc)
       . split at h
         . rename_i aU;rw [UN h];exact MX (Sc aU)
         . split at h
           . cases aV:ky 5 r with
             | error e=>rw [aV] at h;cases h
             | ok fc=>rw [aV] at h;cases h;simp only;omega
           . unfold zS at h
             split at h
             . rename_i t aG;cases h;exact anC (List.mem_of_find?_eq_some aG)
             . cases h
theorem Gj:∀{r:List UInt8} {d:Int} {n:Nat},iL r d=some n->2<=n
 | [],d,n,h=>by simp [iL] at h
 | [_],d,n,h=>by simp [iL] at h
 | x::y::r,d,n,h=>by
   rw [iL] at h
   split at h
   . cases ay:iL r (d+1) with
     | none=>rw [ay] at h;cases h
     | some m=>rw [ay] at h;cases h;simp only;omega
   . split at h
     . split at h
       . cases h;omega
       . cases ay:iL r (d-1) with
         | none=>rw [ay] at h;cases h
         | some m=>rw [ay] at h;cases h;simp only;omega
     . cases ay:iL (y::r) d with
       | none=>rw [ay] at h;cases h
       | some m=>rw [ay] at h;cases h;have:=Gj ay;simp only;omega
theorem Cu:∀(f g:Nat) (r:List UInt8) (p:Nat),r.length<=f->r.length<=g->nL f r p=nL g r p
 | 0,g,r,p,aa,ad=>by have:r=[]:=ata.1 (by omega);subst this;cases g<;>rfl
 | f+1,0,r,p,aa,ad=>by have:r=[]:=ata.1 (by omega);subst this;rfl
 | f+1,g+1,[],p,aa,ad=>rfl
 | f+1,g+1,c::r,p,aa,ad=>by
   simp only [arA] at aa ad;simp only [nL]
   split
   . exact Cu f g _ _ (by omega) (by omega)
   . split
     . split
       . rfl
       . rename_i n aV;have:=Gj aV;exact Cu f g _ _ (by rw [asc,arA];omega) (by rw [asc,arA];omega)
     . split
       . rfl
       . rename_i q ay;have:=LI ay;rw [Cu f g _ _ (by rw [asc,arA];omega) (by rw [asc,arA];omega)]
theorem Uj (c:UInt8) (r:List UInt8) (p:Nat):rQ (c::r) p=if blank c then rQ r (p+1) else if ([40,42]:List UInt8).isPrefixOf (c::r) then (match iL (c::r) 0 with
 | none=>.error (253,p)
 | some n=>rQ ((c::r).drop n) (p+n))
 else match gL (c::r) with
  | .error e=>.error (e,p)
  | .ok q=>A_ ⟨q.1,q.2.1,p,q.2.2.1⟩ (rQ ((c::r).drop q.2.2.2) (p+q.2.2.2)):=by
 unfold rQ;simp only [arA,nL]
 split
 . rfl
 . split
   . split
     . rfl
     . rename_i n aV;have:=Gj aV;exact Cu _ _ _ _ (by rw [asc,arA];omega) (arv _)
   . split
     . rfl
     . rename_i q ay;have:=LI ay;rw [Cu _ _ _ _ (by rw [asc,arA];omega) (arv _)]
theorem MY:∀(f g:Nat) (r:List UInt8),r.length<=f->r.length<=g->xE f r=xE g r
 | 0,g,r,aa,ad=>by have:r=[]:=ata.1 (by omega);subst this;cases g<;>rfl
 | f+1,0,r,aa,ad=>by have:r=[]:=ata.1 (by omega);subst this;rfl
 | f+1,g+1,[],aa,ad=>rfl
 | f+1,g+1,c::r,aa,ad=>by
   simp only [arA] at aa ad;simp only [xE]
   split
   . rfl
   . split
     . split
       . rfl
       . rw [MY f g _ (by rw [asc];omega) (by rw [asc];omega)]
     . split
       . rfl
       . rw [MY f g _ (by omega) (by omega)]
theorem aoj:qT []=none:=rfl
theorem aoi (c:UInt8) (r:List UInt8):qT (c::r)=if c=34 then some ([],1) else if c=92 then (match p5 r with
 | none=>none
 | some (b,n)=>(qT (r.drop n)).map fun q=>(b::q.1,q.2+n+1))
 else if c<32\/c=127 then none else (qT r).map fun q=>(c::q.1,q.2+1):=by
 unfold qT;simp only [arA,xE]
 split
 . rfl
 . split
   . split
     . rfl
     . rw [MY _ _ _ (by rw [asc];omega) (arv _)]
   . rfl
theorem R0:∀(l:List UInt8) (a:Nat),a<=l.foldl (fun n c=>10 * n + (c.toNat-48)) a
 | [],a=>arv _
 | c::l,a=>by simp only [List.foldl_cons];exact asq (by omega) (R0 l _)
def ly (a:Nat) (l:List UInt8):Nat:=l.foldl (fun n c=>10 * n + (c.toNat-48)) a
theorem adG (a:Nat) (c:UInt8) (l:List UInt8):ly a (c::l)=ly (10 * a + (c.toNat-48)) l:=by unfold ly;rw [List.foldl_cons]
theorem ama (M:Nat) (cN:M<18446744073709551620) (l:List UInt8):∀(a:Nat),(∀c ∈ l,fi c=true)->(ly a l<=M->Lib.parseUintM M a l=.ok (ly a l))/\(a<=M->¬ly a l<=M->Lib.parseUintM M a l=.range):=by
 induction l with
 | nil=>
   intro a _;refine ⟨fun _=>?_,fun aa ad=>absurd aa ad⟩;simp only [Lib.parseUintM,ly,List.foldl_nil]
 | cons c l ag6=>
   intro a h;have aq:=h c (ar1 ..);simp only [fi,ou,arp,arF] at aq;have ae1:48<=c.toNat/\c.toNat<=57:=by omega
   have bc:=ag6 (10 * a + (c.toNat-48)) (fun x ak=>h x (arT _ ak));have hm:10 * a + (c.toNat-48)<=ly (10 * a + (c.toNat-48)) l:=R0 l (10 * a + (c.toNat-48));simp only [Lib.parseUintM,ae1,and_self,ar2];rw [Nat.mul_comm a 10,adG];have lA:10 * a<=10 * a + (c.toNat-48):=Nat.le_add_right _ _;generalize 10 * a + (c.toNat-48)=A at bc hm lA ⊢;refine ⟨fun aS=>?_,fun bs iH=>?_⟩
   . rw [arw (by omega),arw (by omega)];exact bc.1 aS
   . by_cases aa:1844674407370955162<=a
     . rw [arz aa]
     . rw [arw aa];by_cases ad:M<A
       . rw [arz ad]
       . rw [arw ad];exact bc.2 (by omega) iH
theorem al_ (l:List UInt8) (h:∀c ∈ l,fi c=true) (ax:l≠[]):(jr l<=18446744073709551615->Lib.parseUintB 64 l=.ok (jr l))/\(¬jr l<=18446744073709551615->Lib.parseUintB 64 l=.range):=by unfold Lib.parseUintB;rw [arw ax,show (2 ^ 64-1:Nat)=18446744073709551615 from by decide];have:=ama 18446744073709551615 (by omega) l 0 h;exact ⟨this.1,this.2 (asP _)⟩
structure o7 (s:List UInt8) (p:Nat) (b:aM) (h:ae) (res:ug) (x:V) (ab:ae):Prop where
 mod:Mod (fun q=>q=b) h ab
 res:∃k n t,x=.agg [.int .i64 k,.int .i64 n,.int .i64 0,.str t]/\match res with
  | .ok q=>k=q.1/\n=q.2.1/\t=q.2.2.1/\ab.get b=fe s ((p+q.2.2.2:Nat):Int) 0/\p+q.2.2.2<=s.length
  | .error e=>e≠0/\∃bm:Int,ab.get b=fe s bm e
theorem LH {P:Program}:(eX.lv true 5).run P .nilIface .nilIface=some (.bool false):=rfl
theorem akZ {P:Program} (T:TypeId) (x:V):(eX.lv true 5).run P (.iface T x) .nilIface=some (.bool true):=rfl
theorem WZ {p:UInt8->Bool} {l:List UInt8}:∀c ∈ l.takeWhile p,p c=true:=fun c aq=>by
 induction l with
 | nil=>simp at aq
 | cons x l bc=>
   simp only [as1] at aq
   split at aq
   . rename_i ak;rcases arM.1 aq with rfl | aq
     . exact ak
     . exact bc aq
   . simp at aq
theorem W0 (p:UInt8->Bool) (s:List UInt8) (a:Nat):((s.drop a).takeWhile p).length<=s.length-a:=by have:=W1 p (s.drop a);rwa [asc] at this
theorem alc (s:List UInt8) (a0:Nat) (b:aM) (h:ae) (ah:h.get b=fe s a0 0) (aY:a0<s.length) (aU:s.length<=100000) (gE:Old h b) (aI:fi s[a0]=true):
 cR Tryz.prog 121 [.ptr b 0] h (o7 s a0 b h (zv (s.drop a0))):=by
 refine aaj.z rfl (cp ?_);unfold O9;have c0:(b=az h.next)=False:=CF gE (arv _);have c8:(az h.next=b)=False:=by rw [<-c0];exact propext eq_comm
 simp +contextual only [ah,c0,c8,↓aj,aC,simprocAttr];have ak:Ext h (h.new (.bU [.int .i64 0,.int .i64 0,.int .i64 0,.str []] 0 false)):=(Ext.refl h).new _;refine cb (Wj s a0 0 b 120 ou _ (by rw [ak.get _ gE,ah]) (by omega) aU (by decide) (fun c h=>yh c h)) ?_;rintro x aa ⟨rfl,hm,aF⟩;have kP:(fun c:UInt8=>ou (c.toNat:Int))=fi:=rfl;rw [kP] at aF ⊢;have wP:Mod (fun q=>q=b) h aa:=(ak.mod _).trans hm;have g1:aa.get (az h.next)=.bU [.int .i64 0,.int .i64 0,.int .i64 0,.str []] 0 false:=by rw [hm.get _ (hP (by rw [gv];omega)) (by rw [c8];exact id)];simp only [↓aj,aC,simprocAttr]
 have c_:(s.drop a0).takeWhile fi≠[]:=by rw [drop_cons aY,as1,aI];simp
 have hlen:=W0 fi s a0;have ag:=al_ ((s.drop a0).takeWhile fi) WZ c_;unfold fe at aF;have uM:zv (s.drop a0)=if 2147483647<jr ((s.drop a0).takeWhile fi) then .error 254 else .ok (1,(if 1073741823 < (jr ((s.drop a0).takeWhile fi):Int) then (jr ((s.drop a0).takeWhile fi):Int)-2147483648 else jr ((s.drop a0).takeWhile fi)),[],((s.drop a0).takeWhile fi).length):=rfl;rw [uM];generalize (s.drop a0).takeWhile fi=t at *;simp +contextual only [↓aj,aC,simprocAttr];by_cases BC:jr t<=18446744073709551615
 . refine hU (amb t (jr t) (by omega) (ag.1 BC) aa) ?_;generalize jr t=u at *;by_cases Jy:(2147483647:Int) < (u:Int)
   . have yB:2147483647<u:=by omega
     simp +contextual only [LH,Jy,g1,aF,c0,c8,↓aj,aC,simprocAttr];refine ⟨(wP.set (fun _=>rfl) _).set (fun q=>absurd (show b0 (az h.next)<h.next from q) (by rw [c7];omega)) _,?_⟩;rw [arz yB];refine ⟨_,_,_,rfl,by decide,((a0+t.length:Nat):Int),?_⟩;simp only [fe,c0,c8,↓aj,aC,simprocAttr]
   . have yB:¬2147483647<u:=by omega
     have bX:IntKind.i64.wrap (u:Int)=(u:Int):=wrap_i64 (by omega) (by omega);have bA:IntKind.i64.wrap ((u:Int)-2147483648)=(u:Int)-2147483648:=wrap_i64 (by omega) (by omega);by_cases wm:(1073741823:Int) < (u:Int)
     . simp +contextual only [LH,Jy,yB,wm,g1,aF,c0,c8,bX,bA,↓aj,aC,simprocAttr];refine ⟨(wP.set (fun q=>absurd (show b0 (az h.next)<h.next from q) (by rw [c7];omega)) _),?_⟩;refine ⟨_,_,_,rfl,rfl,rfl,rfl,?_,by show a0+t.length<=s.length;omega⟩;simp only [fe,aF,c0,c8,↓aj,aC,simprocAttr]
     . simp +contextual only [LH,Jy,yB,wm,g1,aF,c0,c8,bX,bA,↓aj,aC,simprocAttr];refine ⟨(wP.set (fun q=>absurd (show b0 (az h.next)<h.next from q) (by rw [c7];omega)) _),?_⟩;refine ⟨_,_,_,rfl,rfl,rfl,rfl,?_,by show a0+t.length<=s.length;omega⟩;simp only [fe,aF,c0,c8,↓aj,aC,simprocAttr]
 . refine hU (amd t (by omega) (ag.2 BC) aa) ?_;have yB:2147483647<jr t:=by omega
   rw [arz yB];simp +contextual only [akZ,g1,aF,c0,c8,↓aj,aC,simprocAttr];refine ⟨(wP.set (fun _=>rfl) _).set (fun q=>absurd (show b0 (az h.next)<h.next from q) (by rw [c7];omega)) _,?_⟩;refine ⟨_,_,_,rfl,by decide,((a0+t.length:Nat):Int),?_⟩;simp only [fe,c0,c8,↓aj,aC,simprocAttr]
theorem W_ (c:UInt8):((c.toNat:Int)).toNat.toUInt8=c:=by rw [ary];simp
theorem z' (c:UInt8) (n:Nat) (aV:n<256):((c.toNat:Int)=(n:Int))=(c=n.toUInt8):=by
 apply propext;constructor
 . intro q;have:c.toNat=n:=by omega
   rw [<-atz,this];simp;omega
 . intro q;subst q;simp;omega
theorem ac3 (c:UInt8):Lib.indexByte [110,116,34,92] c=if c=110 then 0 else if c=116 then 1 else if c=34 then 2 else if c=92 then 3 else -1:=by
 simp only [Lib.indexByte,as3];by_cases aa:c=110
 . subst aa;decide
 . by_cases ad:c=116
   . subst ad;decide
   . by_cases aH:c=34
     . subst aH;decide
     . by_cases bw:c=92
       . subst bw;decide
       . have aJ:¬(110:UInt8)=c:=fun q=>aa q.symm;have aR:¬(116:UInt8)=c:=fun q=>ad q.symm;have bP:¬(34:UInt8)=c:=fun q=>aH q.symm;have b4:¬(92:UInt8)=c:=fun q=>bw q.symm;simp only [aa,ad,aH,bw,aJ,aR,bP,b4,ar5];rfl
theorem I5 {c:UInt8} (h:fi c=true):Lib.digitVal c=some (c.toNat-48):=by unfold Lib.digitVal;unfold fi ou at h;simp only [arp,arF] at h;rw [arz (by omega)]
theorem ZA {a b c:UInt8} (aa:fi a=true) (ad:fi b=true) (aH:fi c=true):Lib.atoi [a,b,c]=some ((jr [a,b,c]:Nat):Int):=by
 have bs:=aa;unfold fi ou at bs;simp only [arp,arF] at bs;have dp:(a == 45)=false:=by rw [asR];rintro rfl;revert bs;decide
 have fZ:(a == 43)=false:=by rw [asR];rintro rfl;revert bs;decide
 simp [Lib.atoi,dp,fZ,Lib.decNat,Lib.decFrom,I5 aa,I5 ad,I5 aH,jr];omega
theorem ac4 (s:List UInt8) (a0:Nat) (b:aM) (h:ae) (ah:h.get b=fe s a0 0) (aY:a0<s.length) (aU:s.length<=100000) (gE:Old h b):
 cR Tryz.prog 132 [.ptr b 0] h fun x ab=>Mod (fun q=>q=b) h ab/\match p5 (s.drop (a0+1)) with
  | some (c,n)=>x=.int .u8 (c.toNat:Int)/\ab.get b=fe s ((a0+1+n:Nat):Int) 0/\a0+1+n<=s.length
  | none=>x=.int .u8 0/\ab.get b=fe s ((a0+1:Nat):Int) 252:=by
 refine aar.z rfl (cp ?_);unfold Ph;unfold fe at ah ⊢;have bX:IntKind.i64.wrap ((a0:Int)+1)=((a0+1:Nat):Int):=by rw [wrap_i64 (by omega) (by omega)];rfl
 have f0:(0<=((a0+1:Nat):Int))=True:=arD (by omega);have f1:(((a0+1:Nat):Int)<=(s.length:Int))=True:=arD (by omega);have wM:(s.drop (a0+1)).length=s.length - (a0+1):=asc;have z0:((0:Int)<=0)=True:=arD (by omega);have mf:∀v,aX.Mod (fun q=>q=b) h ((h.set b v)):=fun v=>(Mod.refl (fun q=>q=b) h).set (fun _=>rfl) _;cases cQ:s.drop (a0+1) with
 | nil=>
   simp +contextual only [ah,bX,f0,f1,ary,cQ,asd,Int.natCast_zero,↓aj,aC,simprocAttr];refine ⟨(mf _).set (fun _=>rfl) _,?_⟩;simp only [p5,ea,ar2,atn]
 | cons c r=>
   rw [cQ] at wM;rw [arA] at wM;have c9:(c::r=[])=False:=arx (by simp);have f2:((0:Int) < ((r.length+1:Nat):Int))=True:=arD (by omega);simp +contextual only [ah,bX,f0,f1,f2,c9,ary,cQ,Int.reduceToNat,z0,↓aj,aC,simprocAttr];refine hU (TC _ _ _) ?_;rw [W_,ac3];have bA:IntKind.i64.wrap (((a0+1:Nat):Int)+1)=((a0+2:Nat):Int):=by rw [wrap_i64 (by omega) (by omega)];omega
   by_cases bJ:c=110
   . subst bJ;simp +contextual only [ah,bX,bA,f0,f1,f2,c9,ary,cQ,Int.reduceToNat,z0,arA,asd,Nat.reduceAdd,Int.reduceLT,asv,↓aj,aC,simprocAttr];refine ⟨(mf _).set (fun _=>rfl) _,rfl,?_⟩;simp only [ea,ar2];refine ⟨trivial,by omega⟩
   by_cases bO:c=116
   . subst bO;simp +contextual only [ah,bX,bA,f0,f1,f2,c9,ary,cQ,Int.reduceToNat,z0,arA,asd,Nat.reduceAdd,Int.reduceLT,asv,bJ,↓aj,aC,simprocAttr];refine ⟨(mf _).set (fun _=>rfl) _,rfl,?_⟩;simp only [ea,ar2];refine ⟨trivial,by omega⟩
   by_cases c3:c=34
   . subst c3;simp +contextual only [ah,bX,bA,f0,f1,f2,c9,ary,cQ,Int.reduceToNat,z0,arA,asd,Nat.reduceAdd,Int.reduceLT,asv,bJ,bO,↓aj,aC,simprocAttr];refine ⟨(mf _).set (fun _=>rfl) _,rfl,?_⟩;simp only [ea,ar2];refine ⟨trivial,by omega⟩
   by_cases hT:c=92
   . subst hT;simp +contextual only [ah,bX,bA,f0,f1,f2,c9,ary,cQ,Int.reduceToNat,z0,arA,asd,Nat.reduceAdd,Int.reduceLT,asv,bJ,bO,c3,↓aj,aC,simprocAttr];refine ⟨(mf _).set (fun _=>rfl) _,rfl,?_⟩;simp only [ea,ar2];refine ⟨trivial,by omega⟩
   match r,cQ,wM,f2,c9 with
   | [],cQ,wM,f2,c9=>
     simp +contextual only [ah,bX,bA,f0,f1,f2,c9,ary,cQ,Int.reduceToNat,z0,arA,asd,Nat.reduceAdd,Int.reduceLT,asv,bJ,bO,c3,hT,↓aj,aC,simprocAttr];refine ⟨(mf _).set (fun _=>rfl) _,?_⟩;simp [p5,bJ,bO,c3,hT,ea]
   | [_],cQ,wM,f2,c9=>
     simp +contextual only [ah,bX,bA,f0,f1,f2,c9,ary,cQ,Int.reduceToNat,z0,arA,asd,Nat.reduceAdd,Int.reduceLT,asv,bJ,bO,c3,hT,↓aj,aC,simprocAttr];refine ⟨(mf _).set (fun _=>rfl) _,?_⟩;simp [p5,bJ,bO,c3,hT,ea]
   | d1::d2::a7,cQ,wM,f2,c9=>
     simp only [arA] at wM;have g3:((3:Int)<=((a7.length+3:Nat):Int))=True:=arD (by omega);have g2:((2:Int) < ((a7.length+3:Nat):Int))=True:=arD (by omega);have g1:((1:Int) < ((a7.length+3:Nat):Int))=True:=arD (by omega);have g0:((0:Int) < ((a7.length+3:Nat):Int))=True:=arD (by omega);have em:p5 (c::d1::d2::a7)=if fi c/\fi d1/\fi d2/\jr [c,d1,d2]<256 then some ((jr [c,d1,d2]).toUInt8,3) else none:=by simp [p5,bJ,bO,c3,hT]
     rw [em];simp +contextual only [ah,bX,bA,f0,f1,g0,g1,g2,g3,c9,ary,cQ,Int.reduceToNat,z0,arA,asd,Nat.reduceAdd,Int.reduceLT,asv,bJ,bO,c3,hT,↓aj,aC,simprocAttr];refine hU (yh _ _) ?_;have dg:∀x:UInt8,ou (x.toNat:Int)=fi x:=fun _=>rfl;simp only [dg];cases ae9:fi c with
     | false=>
       simp +contextual only [ah,bX,bA,f0,f1,g0,g1,g2,g3,c9,ary,cQ,Int.reduceToNat,z0,arA,asd,Nat.reduceAdd,Int.reduceLT,asv,bJ,bO,c3,hT,atL,arK,↓aj,aC,simprocAttr];exact (mf _).set (fun _=>rfl) _
     | true=>
       simp +contextual only [ah,bX,bA,f0,f1,g0,g1,g2,g3,c9,ary,cQ,Int.reduceToNat,z0,arA,asd,Nat.reduceAdd,Int.reduceLT,asv,bJ,bO,c3,hT,↓aj,aC,simprocAttr];refine hU (yh _ _) ?_;simp only [dg];cases Fh:fi d1 with
       | false=>
         simp +contextual only [ah,bX,bA,f0,f1,g0,g1,g2,g3,c9,ary,cQ,Int.reduceToNat,z0,arA,asd,Nat.reduceAdd,Int.reduceLT,asv,bJ,bO,c3,hT,atL,and_false,arK,↓aj,aC,simprocAttr];exact (mf _).set (fun _=>rfl) _
       | true=>
         simp +contextual only [ah,bX,bA,f0,f1,g0,g1,g2,g3,c9,ary,cQ,Int.reduceToNat,z0,arA,asd,Nat.reduceAdd,Int.reduceLT,asv,bJ,bO,c3,hT,↓aj,aC,simprocAttr];refine hU (yh _ _) ?_;simp only [dg];cases Fi:fi d2 with
         | false=>
           simp +contextual only [ah,bX,bA,f0,f1,g0,g1,g2,g3,c9,ary,cQ,Int.reduceToNat,z0,arA,asd,Nat.reduceAdd,Int.reduceLT,asv,bJ,bO,c3,hT,atL,and_false,arK,↓aj,aC,simprocAttr];exact (mf _).set (fun _=>rfl) _
         | true=>
           have z3:((0:Int)<=3)=True:=arD (by omega);simp +contextual only [ah,bX,bA,f0,f1,g0,g1,g2,g3,z3,c9,ary,cQ,Int.reduceToNat,z0,arA,asd,Nat.reduceAdd,Int.reduceLT,asv,bJ,bO,c3,hT,↓aj,aC,simprocAttr];refine hU (ZB [c,d1,d2] _ (by simp) (ZA ae9 Fh Fi) _) ?_;have nX:IntKind.i64.wrap (((a0+1:Nat):Int)+3)=((a0+4:Nat):Int):=by rw [wrap_i64 (by omega) (by omega)];omega
           generalize bt:jr [c,d1,d2]=v;by_cases FI:(v:Int)<256
           . have iA:IntKind.u8.wrap (v:Int)=((v.toUInt8).toNat:Int):=by
              simp [IntKind.wrap,IntKind.bits,IntKind.signed]
             have KU:v<256:=by omega
             simp +contextual only [ah,bX,bA,nX,iA,f0,f1,g0,g1,g2,g3,c9,FI,KU,ary,cQ,Int.reduceToNat,z0,arA,asd,Nat.reduceAdd,Int.reduceLT,asv,bJ,bO,c3,hT,and_self,atn,↓aj,aC,simprocAttr];refine ⟨(mf _).set (fun _=>rfl) _,?_⟩
             first | omega | (refine ⟨?_,by omega⟩;simp [ea]) | skip
           . have KU:¬v<256:=by omega
             simp +contextual only [ah,bX,bA,nX,f0,f1,g0,g1,g2,g3,c9,FI,KU,ary,cQ,Int.reduceToNat,z0,arA,asd,Nat.reduceAdd,Int.reduceLT,asv,bJ,bO,c3,hT,and_false,↓aj,aC,simprocAttr];exact (mf _).set (fun _=>rfl) _
theorem aoC (c:UInt8) (n:Nat) (aV:n<256):((c.toNat:Int) < (n:Int))=(c<n.toUInt8):=by
 apply propext;rw [UInt8.lt_iff_toNat_lt];have:(n.toUInt8).toNat=n:=by simp;omega
 rw [this];omega
theorem aok (s:List UInt8) (a0:Nat) (b:aM) (h:ae) (ah:h.get b=fe s a0 0) (aY:a0<s.length) (aU:s.length<=100000) (gE:Old h b):
 cR Tryz.prog 122 [.ptr b 0] h (o7 s a0 b h (tJ (s.drop (a0+1)))):=by
 refine aak.z rfl (cp ?_);unfold O';have c0:(b=az h.next)=False:=CF gE (arv _);have c8:(az h.next=b)=False:=by rw [<-c0];exact propext eq_comm
 have bX:IntKind.i64.wrap ((a0:Int)+1)=((a0+1:Nat):Int):=by rw [wrap_i64 (by omega) (by omega)];rfl
 unfold fe at ah;simp +contextual only [ah,c0,c8,bX,↓aj,aC,simprocAttr];have zu:∀{v:V} {ab:ae} {n:Nat} {us:List V},dY (h.next+1) ab 1 v n us->∀q,v.aZ q->¬(fun q=>q=b) q:=by
  intro v ab n us gS q ay he;have aa:=gS.base ay;rw [show q=b from he] at aa;have ad:b0 b<h.next:=gE
  omega
 have ZT:∀{v:V} {ab:ae} {n:Nat} {us:List V},dY (h.next+1) ab 1 v n us->∀i,i<h.next+1->¬v.aZ (az i):=by intro v ab n us gS i aw ay;have aa:=gS.base ay;rw [c7] at aa;omega
 refine fR (fun r ab=>r 0=.ptr b 0/\r 2=.ptr (az h.next) 0/\∃(a:Nat) (e:Int) (e6:List UInt8) (v:V),r 3=v/\ab.get b=.bU [.str s,.int .i64 a,.int .i64 e] 0 false/\a<=s.length/\a0+1<=a/\e6.length<=a/\
  ab.get (az h.next)=.bU [.int .i64 0,.int .i64 0,.int .i64 0,.str []] 0 false/\Mod (fun q=>q=b) h ab/\h.next+1<=ab.next/\dY (h.next+1) ab 1 v e6.length (iE e6)/\
  ((e=0/\qT (s.drop (a0+1))=(qT (s.drop a)).map fun q=>(e6++q.1,q.2 + (a - (a0+1))))\/(e=252/\qT (s.drop (a0+1))=none)))
  (fun r ab=>(s.length - ((gq (ab.get b) 1).getD .bad).toN) + (252 - ((gq (ab.get b) 2).getD .bad).toN)) ?_ ?_
 . refine ⟨by simp only [c0,c8,↓aj,aC,simprocAttr],by simp only [c0,c8,↓aj,aC,simprocAttr],a0+1,0,[],.bj,by simp only [c0,c8,↓aj,aC,simprocAttr],by simp only [c0,c8,↓aj,aC,simprocAttr],by omega,by omega,by simp,by simp only [c0,c8,↓aj,aC,simprocAttr],?_,?_,⟨rfl,rfl⟩,.inl ⟨rfl,?_⟩⟩
   . exact (((Ext.refl h).new _).mod (fun q=>q=b)).self _
   . rw [nP,gv];exact arv _
   . rw [as6];cases qT (s.drop (a0+1))<;>rfl
 . rintro r ab ⟨a_,c2,a,e,e6,v,cz,aF,b3,j3,hr,bk,hm,mJ,gS,bB⟩;unfold O_;have S':Old ab b:=hm.bL gE;have fin:∀(ad:ae) (bm:Int),qT (s.drop (a0+1))=none->Mod (fun q=>q=b) h ad->ad.get b=.bU [.str s,.int .i64 bm,.int .i64 252] 0 false->
    o7 s a0 b h (tJ (s.drop (a0+1))) (.agg [.int .i64 0,.int .i64 0,.int .i64 0,.str []]) (ad.set (az h.next) (.bU [.int .i64 0,.int .i64 0,.int .i64 0,.str []] 0 false)):=by
    intro ad bm aV oE wE;unfold tJ;rw [aV];refine ⟨oE.set (fun q=>absurd (show b0 (az h.next)<h.next from q) (by rw [c7];omega)) _,_,_,_,rfl,by decide,bm,?_⟩;rw [ea,arw (by rw [c8];exact id),wE];rfl
   have step:∀(ad:ae),Mod (fun q=>q=b) h ad->ab.next<=ad.next->dY (h.next+1) ad 1 v e6.length (iE e6)->∀(c:UInt8),∃v3 aH,kg 1 v (.slice (az ad.next) 0 1 1) (ad.new (.bU [.int .u8 (c.toNat:Int)] 0 false))=.val v3 aH/\dY (h.next+1) aH 1 v3 (e6++[c]).length (iE (e6++[c]))/\Mod (fun q=>q=b) h aH/\h.next+1<=aH.next/\aH.get b=ad.get b/\aH.get (az h.next)=ad.get (az h.next):=by
    intro ad oE aqi jF c;obtain ⟨v3,aH,al,ao,aK,bG,cK⟩:=AT (cs:=[.int .u8 (c.toNat:Int)]) (by omega) jF (by omega) (by unfold top;omega) rfl rfl;refine ⟨v3,aH,al,by rw [arE,OM];exact ao,oE.aon aK (fun q ay=>asq (Nat.le_succ _) (jF.base ay)),by omega,?_,?_⟩
    . exact aK.get _ (oE.bL gE) (fun ay=>zu jF _ ay rfl)
    . exact aK.get _ (hP (by omega)) (ZT jF _ (by omega))
   rcases bB with ⟨rfl,bB⟩ | ⟨rfl,bB⟩
   . by_cases gd:(s.length:Int)<=(a:Int)
     . have bs:a=s.length:=by omega
       rw [bs,atk,aoj] at bB;simp +contextual only [a_,c2,cz,aF,gd,bk,c0,c8,↓aj,aC,simprocAttr];exact fin _ _ bB (hm.set (fun _=>rfl) _) (by rw [ea,arz rfl])
     . have aS:a<s.length:=by omega
       rw [drop_cons aS,aoi] at bB;have f0:(0<=(a:Int))=True:=arD (by omega);have f1:((a:Int) < (s.length:Int))=True:=arD (by omega);have bA:IntKind.i64.wrap ((a:Int)+1)=((a+1:Nat):Int):=by rw [wrap_i64 (by omega) (by omega)];rfl
       have lu:(((s[a]).toNat:Int)=34)=(s[a]=34):=z' _ 34 (by omega);have Jb:(((s[a]).toNat:Int)=92)=(s[a]=92):=z' _ 92 (by omega);have Re:(((s[a]).toNat:Int)=127)=(s[a]=127):=z' _ 127 (by omega);have TZ:(((s[a]).toNat:Int)<32)=(s[a]<32):=aoC _ 32 (by omega);by_cases bJ:s[a]=34
       . rw [arz bJ] at bB;replace bJ:(s[a]=34)=True:=arD bJ;simp only [asD,asS] at bB;by_cases BC:(4096:Int) < (e6.length:Int)
         . have jF:∀k b5,dY (h.next+1) ((ab.set b k).set b b5) 1 v e6.length (iE e6):=fun k b5=>gS.mod (((Mod.refl (fun q=>q=b) ab).set (fun _=>rfl) _).set (fun _=>rfl) _) (zu gS);simp +contextual only [a_,c2,cz,aF,gd,bk,c0,c8,f0,f1,bA,lu,bJ,gS.v.len,BC,QN (jF _ _),ars aS,ary,↓aj,aC,simprocAttr];refine ⟨((hm.set (fun _=>rfl) _).set (fun _=>rfl) _).set (fun q=>absurd (show b0 (az h.next)<h.next from q) (by rw [c7];omega)) _,_,_,_,rfl,?_⟩;unfold tJ;rw [bB];simp only;rw [arz (by omega)];refine ⟨by decide,((a+1:Nat):Int),?_⟩;simp only [fe,c0,c8,↓aj,aC,simprocAttr]
         . have jF:∀k,dY (h.next+1) (ab.set b k) 1 v e6.length (iE e6):=fun k=>gS.mod ((Mod.refl (fun q=>q=b) ab).set (fun _=>rfl) _) (zu gS);simp +contextual only [a_,c2,cz,aF,gd,bk,c0,c8,f0,f1,bA,lu,bJ,gS.v.len,BC,QN (jF _),ars aS,ary,↓aj,aC,simprocAttr];refine ⟨(hm.set (fun _=>rfl) _).set (fun q=>absurd (show b0 (az h.next)<h.next from q) (by rw [c7];omega)) _,_,_,_,rfl,?_⟩;unfold tJ;rw [bB];simp only;rw [arw (by omega)];refine ⟨rfl,rfl,rfl,?_,?_⟩
           . simp only [fe,c0,c8,↓aj,aC,simprocAttr];rw [show a0 + (1 + (a - (a0+1))+1)=a+1 from by omega]
           . simp only;omega
       rw [arw bJ] at bB;by_cases bO:s[a]=92
       . rw [arz bO] at bB;replace bO:(s[a]=92)=True:=arD bO;simp +contextual only [a_,c2,cz,aF,gd,bk,c0,c8,f0,f1,bA,lu,Jb,bJ,bO,ars aS,ary,↓aj,aC,simprocAttr];refine cb (ac4 s a b ab aF aS aU S') ?_;rintro x ad ⟨oE,ak⟩;have jF:=gS.mod oE (zu gS);have rN:ad.get (az h.next)=.bU [.int .i64 0,.int .i64 0,.int .i64 0,.str []] 0 false:=by
          rw [oE.get _ (hP (by omega)) (by rw [c8];exact id),bk]
         have CH:=oE.next
         obtain ⟨c,aq,yX⟩:∃c:UInt8,x=.int .u8 (c.toNat:Int)/\((∃n,p5 (s.drop (a+1))=some (c,n)/\ad.get b=fe s ((a+1+n:Nat):Int) 0/\a+1+n<=s.length)\/(p5 (s.drop (a+1))=none/\ad.get b=fe s ((a+1:Nat):Int) 252)):=by
          cases yO:p5 (s.drop (a+1)) with
          | none=>rw [yO] at ak;exact ⟨0,ak.1,.inr ⟨rfl,ak.2⟩⟩
          | some q=>rw [yO] at ak;exact ⟨q.1,ak.1,.inl ⟨q.2,rfl,ak.2⟩⟩
         subst aq;obtain ⟨v3,aH,al,ao,aK,bG,cK,ev⟩:=step ad (hm.trans oE) CH jF c;have VV:dY (h.next+1) aH 1 v3 (e6.length+1) (iE (e6++[c])):=by rw [arE] at ao;exact ao
         have B_:aH.get (az h.next)=.bU [.int .i64 0,.int .i64 0,.int .i64 0,.str []] 0 false:=by rw [ev,rN]
         unfold fe at yX;rcases yX with ⟨n,yO,wE,hle⟩ | ⟨yO,wE⟩
         . simp +contextual only [al,a_,c2,aF,wE,cK,c0,c8,↓aj,aC,simprocAttr];rw [yO] at bB;simp only at bB;refine ⟨⟨a+1+n,0,e6++[c],rfl,hle,by omega,by simp;omega,B_,aK,bG,ao,.inl ⟨rfl,?_⟩⟩,by omega⟩;rw [bB,asM,atK];congr 1;funext q;simp only [Function.comp,ar_,List.singleton_append,asi,atn];omega
         . simp +contextual only [al,a_,c2,aF,wE,cK,c0,c8,↓aj,aC,simprocAttr];rw [yO] at bB;exact ⟨⟨a+1,252,e6++[c],rfl,by omega,by omega,by simp;omega,B_,aK,bG,ao,.inr ⟨rfl,bB⟩⟩,by omega⟩
       rw [arw bO] at bB;by_cases c3:s[a]<32\/s[a]=127
       . rw [arz c3] at bB;have pZ:(decide (s[a]<32)||decide (s[a]=127))=true:=by simpa using c3
         simp +contextual only [a_,c2,cz,aF,gd,bk,c0,c8,f0,f1,bA,lu,Jb,Re,TZ,bJ,bO,pZ,ars aS,ary,↓aj,aC,simprocAttr];exact ⟨⟨a,252,e6,rfl,b3,j3,hr,hm.self _,mJ,gS.mod ((Mod.refl (fun q=>q=b) ab).self _) (zu gS),.inr ⟨rfl,bB⟩⟩,by omega⟩
       . rw [arw c3] at bB;have pZ:(decide (s[a]<32)||decide (s[a]=127))=false:=by simpa using c3
         obtain ⟨v3,aH,al,ao,aK,bG,cK,ev⟩:=step (ab.set b (.bU [.str s,.int .i64 ((a+1:Nat):Int),.int .i64 0] 0 false)) (hm.self _) (by rw [nP];exact arv _) (gS.mod ((Mod.refl (fun q=>q=b) ab).self _) (zu gS)) s[a];simp only [nP,ea,c0,c8,ar2,ar5] at al cK ev;simp +contextual only [al,a_,c2,cz,aF,gd,bk,c0,c8,f0,f1,bA,lu,Jb,Re,TZ,bJ,bO,pZ,cK,ars aS,ary,↓aj,aC,simprocAttr];refine ⟨⟨a+1,0,e6++[s[a]],rfl,by omega,by omega,by simp;omega,by rw [ev,bk],aK,bG,ao,.inl ⟨rfl,?_⟩⟩,by omega⟩;rw [bB,atK];congr 1;funext q;simp only [Function.comp,ar_,List.singleton_append,asi,atn];omega
   . simp +contextual only [a_,c2,cz,aF,bk,c0,c8,↓aj,aC,simprocAttr];exact fin _ _ bB hm aF
def Le:List UInt8:=[32,97,110,100,32,98,101,103,105,110,32,101,108,115,101,32,101,110,100,32,101,120,99,101,112,116,105,111,110,32,102,97,108,115,101,32,102,117,110,32,105,102,32,105,110,32,108,101,116,32,109,97,116,99,104,32,109,111,100,32,111,102,32,114,97,105,115,101,32,114,101,99,32,116,104,101,110,32,116,114,117,101,32,116,114,121,32,116,121,112,101,32,119,105,116,104,32]
def uy:List (List UInt8)->List UInt8
 | []=>[32]
 | w::L=>32::(w++uy L)
theorem adz:uy Ld=Le:=by decide
theorem ady (L:List (List UInt8)):∃r,uy L=32::r:=by cases L<;>exact ⟨_,rfl⟩
theorem index_ge (sub:List UInt8):∀l:List UInt8,-1<=Lib.index l sub
 | []=>by simp only [Lib.index];split<;>decide
 | b::l=>by
   have:=index_ge sub l;simp only [Lib.index]
   split
   . decide
   . split<;>omega
theorem TE (sub:List UInt8) (b:UInt8) (l:List UInt8):(0<=Lib.index (b::l) sub)↔(sub.isPrefixOf (b::l)=true\/0<=Lib.index l sub):=by
 have:=index_ge sub l;simp only [Lib.index]
 split
 . rename_i h;simp [h]
 . rename_i h
   split
   . rename_i ad;have:Lib.index l sub=-1:=by simpa using ad
     simp [h,this]
   . rename_i ad;have aH:¬Lib.index l sub=-1:=by simpa using ad
     simp only [h,arK,false_or];omega
theorem TG (x:List UInt8) (r:List UInt8):∀w:List UInt8,(32:UInt8) ∉ w->((0<=Lib.index (w++r) (32::x))↔0<=Lib.index r (32::x))
 | [],_=>Iff.rfl
 | b::w,h=>by
   rw [arR,TE,TG x r w (fun q=>h (arT _ q))];have ah:((32:UInt8) == b)=false:=by rw [asR];rintro rfl;exact h (ar1 ..)
   simp [List.isPrefixOf,ah]
theorem VF (r:List UInt8):∀(t w:List UInt8),(32:UInt8) ∉ t->(32:UInt8) ∉ w->((t++[32]).isPrefixOf (w++32::r)=true↔t=w)
 | [],[],_,_=>by simp [List.isPrefixOf]
 | [],b::w,_,h=>by
   have ah:((32:UInt8) == b)=false:=by rw [asR];rintro rfl;exact h (ar1 ..)
   simp [List.isPrefixOf,ah]
 | a::t,[],h,_=>by
   have ah:(a == (32:UInt8))=false:=by rw [asR];rintro rfl;exact h (ar1 ..)
   simp [List.isPrefixOf,ah]
 | a::t,b::w,h,ab=>by have bc:=VF r t w (fun q=>h (arT _ q)) (fun q=>ab (arT _ q));simp only [arR,List.isPrefixOf,arp,as3,bc,asY]
theorem TF (t:List UInt8) (aG:(32:UInt8) ∉ t):∀L:List (List UInt8),(∀w ∈ L,(32:UInt8) ∉ w)->((0<=Lib.index (uy L) (32::(t++[32])))↔t ∈ L)
 | [],_=>by cases t<;>simp [uy,Lib.index,List.isPrefixOf]
 | w::L,h=>by
   have bc:=TF t aG L (fun x ak=>h x (arT _ ak));have hw:=h w (ar1 ..);obtain ⟨r,aD⟩:=ady L;simp only [uy];rw [TE,TG _ _ _ hw,bc,arM];have:(32::(t++[32])).isPrefixOf (32::(w++uy L))=(t++[32]).isPrefixOf (w++uy L):=by simp [List.isPrefixOf]
   rw [this,aD,VF r t w aG hw]
theorem abS (t:List UInt8) (aG:(32:UInt8) ∉ t):Lib.contains Le (32::(t++[32]))=th t:=by have:=TF t aG Ld (by decide);rw [adz] at this;unfold Lib.contains th;rw [ass,arF,this];simp
theorem akt {l:List UInt8}:(32:UInt8) ∉ l.takeWhile gr:=fun h=>by have:=WZ _ h;revert this;decide
theorem Gb (s:List UInt8) (a0:Nat) (k:Int) (b:aM) (h:ae) (ah:h.get b=fe s a0 0) (aY:a0<=s.length) (aU:s.length<=100000) (gE:Old h b):
 cR Tryz.prog 124 [.ptr b 0,.int .i64 k] h (o7 s a0 b h (ky k (s.drop a0))):=by
 refine aam.z rfl (cp ?_);unfold Pb;have c0:(b=az h.next)=False:=CF gE (arv _);have c8:(az h.next=b)=False:=by rw [<-c0];exact propext eq_comm
 simp +contextual only [ah,c0,c8,↓aj,aC,simprocAttr];have ak:Ext h (h.new (.bU [.int .i64 0,.int .i64 0,.int .i64 0,.str []] 0 false)):=(Ext.refl h).new _;refine cb (Wj s a0 0 b 133 w9 _ (by rw [ak.get _ gE,ah]) aY aU (by decide) (fun c h=>ake c h)) ?_;rintro x aa ⟨rfl,hm,aF⟩;have kP:(fun c:UInt8=>w9 (c.toNat:Int))=gr:=rfl;rw [kP] at aF ⊢;have wP:Mod (fun q=>q=b) h aa:=(ak.mod _).trans hm;have g1:aa.get (az h.next)=.bU [.int .i64 0,.int .i64 0,.int .i64 0,.str []] 0 false:=by rw [hm.get _ (hP (by rw [gv];omega)) (by rw [c8];exact id)];simp only [↓aj,aC,simprocAttr]
 have hlen:=W0 gr s a0;have aeu:(32:UInt8) ∉ (s.drop a0).takeWhile gr:=akt;unfold fe at aF;have uM:ky k (s.drop a0)=if k=3/\(s.drop a0).takeWhile gr=[95] then .ok (7,0,(s.drop a0).takeWhile gr,((s.drop a0).takeWhile gr).length) else if k=3/\th ((s.drop a0).takeWhile gr) then .ok (6,0,(s.drop a0).takeWhile gr,((s.drop a0).takeWhile gr).length) else if 64 < ((s.drop a0).takeWhile gr).length then .error 255 else .ok (k,0,(s.drop a0).takeWhile gr,((s.drop a0).takeWhile gr).length):=rfl;rw [uM];generalize (s.drop a0).takeWhile gr=t at *;have Gl:∀(cZ:Int),o7 s a0 b h (.ok (cZ,0,t,t.length)) (.agg [.int .i64 cZ,.int .i64 0,.int .i64 0,.str t]) (aa.set (az h.next) (.bU [.int .i64 cZ,.int .i64 0,.int .i64 0,.str t] 0 false)):=by intro cZ;refine ⟨wP.fresh (arv _) _,_,_,_,rfl,rfl,rfl,rfl,?_,by show a0+t.length<=s.length;omega⟩;rw [ea,arw (by rw [c8];exact id),aF];rfl
 have tail:(64<t.length->o7 s a0 b h (.error 255) (.agg [.int .i64 k,.int .i64 0,.int .i64 0,.str t]) ((aa.set b (.bU [.str s,.int .i64 ((a0+t.length:Nat):Int),.int .i64 255] 0 false)).set (az h.next) (.bU [.int .i64 k,.int .i64 0,.int .i64 0,.str t] 0 false))):=by intro ax;refine ⟨(wP.self _).fresh (arv _) _,_,_,_,rfl,by decide,((a0+t.length:Nat):Int),?_⟩;simp only [fe,c0,c8,↓aj,aC,simprocAttr]
 by_cases aB:k=3
 . subst aB;by_cases hu:t=[95]
   . simp +contextual only [g1,aF,c0,c8,hu,atn,↓aj,aC,simprocAttr];subst hu;exact Gl 7
   . have t1:(1+t.length<=top)=True:=arD (by unfold top;omega);have t2:(t.length+1+1<=top)=True:=arD (by unfold top;omega);simp only [top] at t1 t2;simp +contextual only [g1,aF,c0,c8,hu,atn,arE,t1,t2,↓aj,aC,simprocAttr];refine hU (abR Le (32::(t++[32])) (by decide) _) ?_;rw [abS t aeu];cases Ke:th t with
     | true=>
       simp +contextual only [g1,aF,c0,c8,hu,atn,and_false,Ke,arE,t1,t2,↓aj,aC,simprocAttr];exact Gl 6
     | false=>
       by_cases ax:64<t.length
       . have fs:(64:Int) < (t.length:Int):=by omega
         simp +contextual only [g1,aF,c0,c8,hu,ax,fs,atn,and_false,Ke,arE,t1,t2,arK,↓aj,aC,simprocAttr];exact tail ax
       . have fs:¬(64:Int) < (t.length:Int):=by omega
         simp +contextual only [g1,aF,c0,c8,hu,ax,fs,atn,and_false,Ke,arE,t1,t2,arK,↓aj,aC,simprocAttr];exact Gl 3
 . by_cases ax:64<t.length
   . have fs:(64:Int) < (t.length:Int):=by omega
     simp +contextual only [g1,aF,c0,c8,aB,ax,fs,atL,↓aj,aC,simprocAttr];exact tail ax
   . have fs:¬(64:Int) < (t.length:Int):=by omega
     simp +contextual only [g1,aF,c0,c8,aB,ax,fs,atL,↓aj,aC,simprocAttr];exact Gl k
def zT:List V:=jO.map V.str
theorem anD (h:ae):cR Tryz.prog 126 [] h fun x ab=>x=.slice (az h.next) 0 17 17/\ab=h.new (.bU zT 0 false):=by refine aao.z rfl (cp ?_);unfold Pd;simp +contextual only [↓aj,aC,simprocAttr];rfl
theorem anB {i:Nat} (aw:i<17):zT[i]? =some (.str (jO[i]'aw)):=by unfold zT;rw [ase,ars (show i<jO.length from aw)];rfl
theorem adt (p:List UInt8->Bool) {i:Nat} (aw:i<17):(jO.drop i).find? p=if p (jO[i]'aw) then some (jO[i]'aw) else (jO.drop (i+1)).find? p:=by rw [ar3 (show i<jO.length from aw),List.find?_cons];cases p jO[i]<;>rfl
theorem o7.store {s:List UInt8} {p:Nat} {b:aM} {h:ae} {z b5:b6} {res:ug} {x:V} {aa:ae} (w:o7 s p b (h.new z) res x aa) (gE:Old h b):o7 s p b h res x (aa.set (az h.next) b5):=by
 have c8:¬(az h.next=b):=by
  intro q;have:b0 b<h.next:=gE
  rw [<-q,c7] at this;omega
 obtain ⟨hm,k,n,t,ak,aD⟩:=w;refine ⟨((((Ext.refl h).new z).mod _).trans hm).fresh (arv _) _,k,n,t,ak,?_⟩;cases res with
 | ok q=>simpa only [ea,arw c8] using aD
 | error e=>simpa only [ea,arw c8] using aD
theorem ak6 (s:List UInt8) (a0:Nat) (b:aM) (h:ae) (ah:h.get b=fe s a0 0) (aY:a0<s.length) (aU:s.length<=100000) (gE:Old h b):
 cR Tryz.prog 116 [.ptr b 0] h (o7 s a0 b h (gL (s.drop a0))):=by
 refine aaf.z rfl (cp ?_);unfold O5;have c0:(b=az h.next)=False:=CF gE (arv _);have c8:(az h.next=b)=False:=by rw [<-c0];exact propext eq_comm
 have iS:=ah;unfold fe at ah;have f0:(0<=(a0:Int))=True:=arD (by omega);have f1:((a0:Int) < (s.length:Int))=True:=arD (by omega);have ak:Ext h (h.new (.bU [.int .i64 0,.int .i64 0,.int .i64 0,.str []] 0 false)):=(Ext.refl h).new _;have yT:Old (h.new (.bU [.int .i64 0,.int .i64 0,.int .i64 0,.str []] 0 false)) b:=ak.bL gE;have BE:(h.new (.bU [.int .i64 0,.int .i64 0,.int .i64 0,.str []] 0 false)).get b=fe s a0 0:=by rw [ak.get _ gE,iS]
 have yy:∀{res:ug} {x:V} {aa:ae},o7 s a0 b (h.new (.bU [.int .i64 0,.int .i64 0,.int .i64 0,.str []] 0 false)) res x aa->aa.get (az h.next)=.bU [.int .i64 0,.int .i64 0,.int .i64 0,.str []] 0 false:=by intro res x aa w;rw [w.mod.get _ (hP (by rw [gv];omega)) (by rw [c8];exact id)];simp only [↓aj,aC,simprocAttr]
 have aI:=drop_cons aY;rw [aI];have dg:ou ((s[a0]).toNat:Int)=fi s[a0]:=rfl;have lu:(((s[a0]).toNat:Int)=34)=(s[a0]=34):=z' _ 34 (by omega);have uv:(((s[a0]).toNat:Int)=95)=(s[a0]=95):=z' _ 95 (by omega);have yj:(((s[a0]).toNat:Int)=39)=(s[a0]=39):=z' _ 39 (by omega);simp +contextual only [ah,c0,c8,f0,f1,ars aY,ary,↓aj,aC,simprocAttr];refine hU (yh _ _) ?_;rw [dg];cases aa:fi s[a0] with
 | true=>
   have cr:gL (s[a0]::s.drop (a0+1))=zv (s.drop a0):=by rw [aI];simp only [gL,aa,ar2]
   rw [cr];simp +contextual only [ah,c0,c8,f0,f1,ars aY,ary,↓aj,aC,simprocAttr];refine cb (alc s a0 b _ BE aY aU yT aa) ?_;rintro x ag w;have g1:=yy w;obtain ⟨k,n,t,rfl,_⟩:=w.res;simp +contextual only [g1,ah,c0,c8,f0,f1,↓aj,aC,simprocAttr];exact w.store gE
 | false=>
   by_cases ad:s[a0]=34
   . have cr:gL (s[a0]::s.drop (a0+1))=tJ (s.drop (a0+1)):=by simp only [gL];rw [arw (by rw [aa];exact asV),arz ad]
     rw [cr];replace ad:=arD ad;simp +contextual only [ah,c0,c8,f0,f1,lu,ad,ars aY,ary,↓aj,aC,simprocAttr];refine cb (aok s a0 b _ BE aY aU yT) ?_;rintro x ag w;have g1:=yy w;obtain ⟨k,n,t,rfl,_⟩:=w.res;simp +contextual only [g1,ah,c0,c8,f0,f1,↓aj,aC,simprocAttr];exact w.store gE
   simp +contextual only [ah,c0,c8,f0,f1,lu,ad,ars aY,ary,↓aj,aC,simprocAttr];refine hU (Hb _ _) ?_;by_cases aH:(jo ((s[a0]).toNat:Int)||decide (s[a0]=95))=true
   . have cr:gL (s[a0]::s.drop (a0+1))=ky 3 (s.drop a0):=by rw [aI];simp only [gL,aa,ad,aH,arK,ar5,ar2]
     rw [cr];have fin:ra Tryz.prog 124 [.ptr b 0,.int .i64 3] (some 33) none [] [] (fun _=>.bad) h (fun _ _ _=>True)->True:=fun _=>trivial;cases KO:jo ((s[a0]).toNat:Int) with
     | true=>
       simp +contextual only [ah,c0,c8,f0,f1,lu,ad,KO,ars aY,ary,↓aj,aC,simprocAttr];refine cb (Gb s a0 3 b _ BE (by omega) aU yT) ?_;rintro x ag w;have g1:=yy w;obtain ⟨k,n,t,rfl,_⟩:=w.res;simp +contextual only [g1,ah,c0,c8,f0,f1,↓aj,aC,simprocAttr];exact w.store gE
     | false=>
       rw [KO,atI,arF] at aH;replace aH:=arD aH;simp +contextual only [ah,c0,c8,f0,f1,lu,uv,ad,aH,KO,ars aY,ary,↓aj,aC,simprocAttr];refine cb (Gb s a0 3 b _ BE (by omega) aU yT) ?_;rintro x ag w;have g1:=yy w;obtain ⟨k,n,t,rfl,_⟩:=w.res;simp +contextual only [g1,ah,c0,c8,f0,f1,↓aj,aC,simprocAttr];exact w.store gE
   . have Sp:=aH;rw [ar4,as9,asr] at Sp;obtain ⟨aew,aex⟩:=Sp;simp +contextual only [ah,c0,c8,f0,f1,lu,uv,ad,aew,aex,ars aY,ary,↓aj,aC,simprocAttr];refine hU (Sd _ _) ?_;cases bw:pk ((s[a0]).toNat:Int) with
     | true=>
       have cr:gL (s[a0]::s.drop (a0+1))=ky 4 (s.drop a0):=by rw [aI];simp only [gL,aa,ad,aH,bw,arK,ar5,ar2]
       rw [cr];simp +contextual only [ah,c0,c8,f0,f1,ars aY,ary,↓aj,aC,simprocAttr];refine cb (Gb s a0 4 b _ BE (by omega) aU yT) ?_;rintro x ag w;have g1:=yy w;obtain ⟨k,n,t,rfl,_⟩:=w.res;simp +contextual only [g1,ah,c0,c8,f0,f1,↓aj,aC,simprocAttr];exact w.store gE
     | false=>
       have bX:IntKind.i64.wrap ((a0:Int)+1)=((a0+1:Nat):Int):=by rw [wrap_i64 (by omega) (by omega)];rfl
       have f2:(0<=((a0+1:Nat):Int))=True:=arD (by omega);by_cases cM:s[a0]=39/\rv (s.drop (a0+1))
       . have cr:gL (s[a0]::s.drop (a0+1))=(ky 5 (s.drop (a0+1))).map fun q=>(q.1,q.2.1,q.2.2.1,q.2.2.2+1):=by simp only [gL];rw [arw (by rw [aa];exact asV),arw ad,arw aH,arw (by rw [bw];exact asV),arz cM]
         rw [cr];obtain ⟨E4,E5⟩:=cM;replace E4:=arD E4;have aS:a0+1<s.length:=by
          by_cases q:a0+1<s.length
          . exact q
          . rw [asy (by omega)] at E5;cases E5
         rw [drop_cons aS] at E5;have f3:(((a0+1:Nat):Int) < (s.length:Int))=True:=arD (by omega);simp +contextual (maxSteps:=1000000) only [ah,c0,c8,f0,f1,f2,f3,bX,lu,uv,yj,ad,E4,ars aY,ars aS,ary,↓aj,aC,simprocAttr];refine hU (Hb _ _) ?_;rw [show jo ((s[a0+1]).toNat:Int)=true from E5];simp +contextual (maxSteps:=1000000) only [ah,c0,c8,f0,f1,f2,f3,bX,lu,uv,yj,ad,E4,ars aY,ars aS,ary,↓aj,aC,simprocAttr];have S7:Mod (fun q=>q=b) (h.new (.bU [.int .i64 0,.int .i64 0,.int .i64 0,.str []] 0 false)) ((h.new (.bU [.int .i64 0,.int .i64 0,.int .i64 0,.str []] 0 false)).set b (.bU [.str s,.int .i64 ((a0+1:Nat):Int),.int .i64 0] 0 false)):=(Mod.refl _ _).self _;refine cb (Gb s (a0+1) 5 b _ (by rw [ea,arz rfl];rfl) (by omega) aU (S7.bL yT)) ?_;rintro x ag w;have w':o7 s a0 b (h.new (.bU [.int .i64 0,.int .i64 0,.int .i64 0,.str []] 0 false)) ((ky 5 (s.drop (a0+1))).map fun q=>(q.1,q.2.1,q.2.2.1,q.2.2.2+1)) x ag:=by
          obtain ⟨aoV,k,n,t,ao7,wr⟩:=w;refine ⟨S7.trans aoV,k,n,t,ao7,?_⟩;cases aV:ky 5 (s.drop (a0+1)) with
          | error e=>rw [aV] at wr;exact wr
          | ok q=>
            rw [aV] at wr;obtain ⟨bH,c2,cz,cC,bK⟩:=wr;refine ⟨bH,c2,cz,?_,?_⟩
            . rw [cC];show fe s ((a0+1+q.2.2.2:Nat):Int) 0=fe s ((a0 + (q.2.2.2+1):Nat):Int) 0;rw [show a0+1+q.2.2.2=a0 + (q.2.2.2+1) from by omega]
            . show a0 + (q.2.2.2+1)<=s.length;omega
         have g1:=yy w';obtain ⟨k,n,t,rfl,_⟩:=w'.res;simp +contextual only [g1,ah,c0,c8,f0,f1,↓aj,aC,simprocAttr];exact w'.store gE
       . have cr:gL (s[a0]::s.drop (a0+1))=zS (s.drop a0):=by rw [aI];simp only [gL];rw [arw (by rw [aa];exact asV),arw ad,arw aH,arw (by rw [bw];exact asV),arw cM]
         rw [cr];have ae2:((s[a0]=39)=False)\/(((s[a0]=39)=True)/\¬a0+1<s.length)\/(((s[a0]=39)=True)/\∃aS:a0+1<s.length,jo ((s[a0+1]).toNat:Int)=false):=by
          by_cases q:s[a0]=39
          . by_cases aS:a0+1<s.length
            . refine .inr (.inr ⟨arD q,aS,?_⟩);cases ay:jo ((s[a0+1]).toNat:Int) with
              | false=>rfl
              | true=>exact absurd ⟨q,by rw [drop_cons aS];exact ay⟩ cM
            . exact .inr (.inl ⟨arD q,aS⟩)
          . exact .inl (arx q)
         have two:∀t ∈ jO,t.length<=2:=by decide
         have A6:((17:Nat):Int)=17:=rfl;rcases ae2 with al | ⟨al,ao⟩ | ⟨al,aS,ao⟩
         case' neg.inl=>
          simp +contextual (maxSteps:=1000000) only [ah,c0,c8,f0,f1,f2,bX,lu,uv,yj,ad,al,ars aY,ary,↓aj,aC,simprocAttr]
         case' neg.inr.inl=>
          have f3:(((a0+1:Nat):Int) < (s.length:Int))=False:=arx (by omega);simp +contextual (maxSteps:=1000000) only [ah,c0,c8,f0,f1,f2,f3,bX,lu,uv,yj,ad,al,ars aY,ary,↓aj,aC,simprocAttr]
         case' neg.inr.inr=>
          have f3:(((a0+1:Nat):Int) < (s.length:Int))=True:=arD (by omega);simp +contextual (maxSteps:=1000000) only [ah,c0,c8,f0,f1,f2,f3,bX,lu,uv,yj,ad,al,ars aY,ars aS,ary,↓aj,aC,simprocAttr];refine hU (Hb _ _) ?_;rw [ao];simp +contextual (maxSteps:=1000000) only [ah,c0,c8,f0,f1,f2,f3,bX,lu,uv,yj,ad,al,ars aY,ars aS,ary,↓aj,aC,simprocAttr]
         all_goals
          refine cb (anD _) ?_;rintro x ag ⟨rfl,rfl⟩;simp +contextual only [↓aj,aC,simprocAttr]
          refine fR (fun r ab=>r 0=.ptr b 0/\r 2=.ptr (az h.next) 0/\r 77=.slice (az (h.next+1)) 0 17 17/\r 78=.int .i64 17/\∃i:Nat,i<=17/\r 79=.int .i64 i/\ab=(h.new (.bU [.int .i64 0,.int .i64 0,.int .i64 0,.str []] 0 false)).new (.bU zT 0 false)/\
           jO.find? (·.isPrefixOf (s.drop a0))=(jO.drop i).find? (·.isPrefixOf (s.drop a0))) (fun r ab=>17 - (r 79).toN) ?_ ?_
          . exact ⟨by simp only [↓aj,aC,simprocAttr],by simp only [↓aj,aC,simprocAttr],by simp only [↓aj,aC,simprocAttr],by simp only [A6,↓aj,aC,simprocAttr],0,by omega,by simp only [↓aj,aC,simprocAttr]<;>rfl,rfl,rfl⟩
          . rintro r ab ⟨a_,c2,GM,GN,i,aw,GO,rfl,uH⟩;unfold O6;have S':Old ((h.new (.bU [.int .i64 0,.int .i64 0,.int .i64 0,.str []] 0 false)).new (.bU zT 0 false)) b:=(ak.new _).bL gE;have sV:((h.new (.bU [.int .i64 0,.int .i64 0,.int .i64 0,.str []] 0 false)).new (.bU zT 0 false)).get b=.bU [.str s,.int .i64 a0,.int .i64 0] 0 false:=by rw [(ak.new _).get _ gE,ah]
            have CD:(b=az (h.next+1))=False:=CF gE (by omega);have D_:(az (h.next+1)=b)=False:=by rw [<-CD];exact propext eq_comm
            by_cases qi:i<17
            . have g0:((i:Int)<17)=True:=arD (by omega);have g1:(0<=(i:Int))=True:=arD (by omega);rw [adt _ qi] at uH;have hlen:=two _ (arY (h:=(show i<jO.length from qi)));simp +contextual only [A6,a_,c2,GM,GN,GO,g0,g1,c0,c8,CD,D_,ary,atG,anB qi,↓aj,aC,simprocAttr];refine hU (JI s _ (a0:Int) [.int .i64 0] b 0 false _ sV (by omega) (by omega)) ?_;rw [ary];cases rI:(jO[i]'qi).isPrefixOf (s.drop a0) with
              | true=>
                rw [rI,arz rfl] at uH;have kX:(jO[i]'qi).length<=s.length-a0:=by rw [atg] at rI;have:=rI.length_le;rwa [asc] at this
                have nX:IntKind.i64.wrap ((a0:Int) + ((jO[i]'qi).length:Int))=((a0 + (jO[i]'qi).length:Nat):Int):=by rw [wrap_i64 (by omega) (by omega)];rfl
                simp +contextual only [A6,a_,c2,GM,GN,GO,g0,g1,nX,c0,c8,CD,D_,ah,↓aj,aC,simprocAttr];unfold zS;rw [uH];refine ⟨(((ak.new _).mod _).self _).fresh (arv _) _,_,_,_,rfl,rfl,rfl,rfl,?_,by show a0 + (jO[i]'qi).length<=s.length;omega⟩;simp only [fe,c0,c8,↓aj,aC,simprocAttr]
              | false=>
                rw [rI,arw asV] at uH;have nX:IntKind.i64.wrap ((i:Int)+1)=((i+1:Nat):Int):=by rw [wrap_i64 (by omega) (by omega)];rfl
                simp +contextual only [A6,a_,c2,GM,GN,GO,g0,g1,nX,c0,c8,CD,D_,ah,↓aj,aC,simprocAttr];exact ⟨⟨i+1,by omega,rfl,uH⟩,by omega⟩
            . obtain rfl:i=17:=by omega
              have dJ:jO.find? (·.isPrefixOf (s.drop a0))=none:=by rw [uH];rfl
              have g0:((17:Int)<17)=False:=arx (by omega);simp +contextual only [A6,a_,c2,GM,GN,GO,g0,sV,c0,c8,CD,D_,ah,↓aj,aC,simprocAttr];unfold zS;rw [dJ];refine ⟨(((ak.new _).mod _).self _).fresh (arv _) _,_,_,_,rfl,by decide,(a0:Int),?_⟩;simp only [fe,c0,c8,↓aj,aC,simprocAttr]
theorem R8 (s:List UInt8) (i:Nat):(ByteArray.mk ⟨s⟩).get! i=(s[i]?).getD 0:=by show (Array.mk s)[i]! =_;simp;rfl
theorem acf (s:List UInt8) (a:Nat):Lib.decodeGo ⟨⟨s.drop a⟩⟩=if a<s.length then decodeL s a else (65533,0):=by
 unfold Lib.decodeGo decodeL;have bk:(ByteArray.mk ⟨s.drop a⟩).size=s.length-a:=by show (s.drop a).length=_;rw [asc]
 have rN:(ByteArray.mk ⟨s⟩).size=s.length:=rfl;by_cases bs:a<s.length
 . rw [arz bs,arw (by rw [bk];omega),Lib.decode_at,Lib.decode_at,bk,rN];simp only [R8,asH,asB,atH,arV]
 . rw [arw bs,arz (by rw [bk];omega)]
theorem ak4 {h:ae} {b:aM} {s:List UInt8} {a:Nat} (aF:h.get b=.iter s a):
 xg (.ptr b 0) h=if a<s.length then .val (.tuple [.bool true,.int .i64 a,.int .i32 (decodeL s a).1]) (h.set b (.iter s (a + (decodeL s a).2))) else .val (.tuple [.bool false]) h:=by
 unfold xg;simp only [V.jh,aF];rw [show Nat.beq 0 0=true from rfl];simp only [aru];by_cases bs:a<s.length
 . rw [arz bs,show Nat.blt a s.length=true from by rw [arS];exact bs];rfl
 . rw [arw bs,show Nat.blt a s.length=false from by rw [<-ar4,arS];exact bs];rfl
def ahp (s:List UInt8):b6->Nat
 | .iter _ a=>s.length-a
 | _=>0
theorem acd (s:List UInt8) (a:Nat):1<=(decodeL s a).2:=by
 unfold decodeL;rw [Lib.decode_at];unfold Lib.decodeN
 repeat' split
 all_goals simp
theorem am4 (s:List UInt8) (aU:s.length<=100000) (h:ae):cR Tryz.prog 112 [.str s] h fun x ab=>x=.int .i64 (vm s:Nat)/\Ext h ab:=by
 refine aab.z rfl (cp ?_);unfold OZ;simp +contextual only [↓aj,aC,simprocAttr];refine fR (fun r ab=>r 0=.str s/\r 8=.ptr (az h.next) 0/\Ext h ab/\∃a,ab.get (az h.next)=.iter s a/\vm s=r3 s a) (fun r ab=>ahp s (ab.get (az h.next))) ?_ ?_
 . exact ⟨by simp only [↓aj,aC,simprocAttr],by simp only [↓aj,aC,simprocAttr],(Ext.refl h).new _,0,by simp only [↓aj,aC,simprocAttr],rfl⟩
 . rintro r ab ⟨a_,b',ak,a,aF,bs⟩;unfold O0;have mJ:=ak4 aF;by_cases aS:a<s.length
   . rw [arz aS] at mJ;have ag:=acd s a;by_cases aq:(decodeL s a).1=65533
     . have qb:(((decodeL s a).1:Int)=65533)=True:=arD (by omega);have f0:(0<=(a:Int))=True:=arD (by omega);have f1:((a:Int)<=(s.length:Int))=True:=arD (by omega);simp +contextual only [a_,b',mJ,qb,f0,f1,ary,↓aj,aC,simprocAttr];refine hU (ace _ _) ?_;rw [acf,arz aS];by_cases hw:(decodeL s a).2=1
       . have ku:(((decodeL s a).2:Int)=1)=True:=arD (by omega);have wz:gm s a=0:=by unfold gm;rw [arz (Prod.ext aq hw)]
         rw [am3 aS wz] at bs;simp +contextual only [a_,b',mJ,qb,ku,f0,f1,ary,↓aj,aC,simprocAttr];rw [bs];exact ⟨rfl,ak.set (arv _) _⟩
       . have ku:(((decodeL s a).2:Int)=1)=False:=arx (by omega);have wz:gm s a=(decodeL s a).2:=by unfold gm;rw [arw (fun q=>hw (congrArg Prod.snd q))]
         rw [MA aS (by rw [wz];omega),wz] at bs;simp +contextual only [a_,b',mJ,qb,ku,f0,f1,ary,↓aj,aC,simprocAttr];refine ⟨⟨ak.set (arv _) _,_,rfl,bs⟩,?_⟩;rw [aF];show s.length - (a + (decodeL s a).2)<s.length-a;omega
     . have qb:(((decodeL s a).1:Int)=65533)=False:=arx (by omega);have wz:gm s a=(decodeL s a).2:=by unfold gm;rw [arw (fun q=>aq (congrArg Prod.fst q))]
       rw [MA aS (by rw [wz];omega),wz] at bs;simp +contextual only [a_,b',mJ,qb,ary,↓aj,aC,simprocAttr];refine ⟨⟨ak.set (arv _) _,_,rfl,bs⟩,?_⟩;rw [aF];show s.length - (a + (decodeL s a).2)<s.length-a;omega
   . rw [arw aS] at mJ;rw [We (by omega)] at bs;simp +contextual only [a_,b',mJ,ary,↓aj,aC,simprocAttr];rw [bs];exact ⟨rfl,ak⟩
def ca.enc (w:ca):List V:=[.int .i64 w.kind,.int .i64 w.num,.int .i64 w.pos,.str w.text]
def i':List ca->List V
 | []=>[]
 | w::ws=>w.enc++i' ws
theorem Xo:∀a b:List ca,i' (a++b)=i' a++i' b
 | [],b=>rfl
 | w::a,b=>by simp only [i',arR,Xo a b,ar_]
def CW (ws:List ca):Except (Int × Nat) (List ca)->Except (Int × Nat) (List ca)
 | .ok bA=>.ok (ws++bA)
 | .error e=>.error e
theorem amo (ws:List ca) (w:ca) (r:Except (Int × Nat) (List ca)):CW ws (A_ w r)=CW (ws++[w]) r:=by
 cases r with
 | ok bA=>simp [CW,A_]
 | error e=>rfl
theorem amp (r:Except (Int × Nat) (List ca)):CW [] r=r:=by cases r<;>rfl
def X9 (s:List UInt8) (h:ae) (x:V) (ab:ae):Prop:=Ext h ab/\match lL s with
 | .ok ws=>∃v,x=.tuple [v,.agg [.int .i64 0,.int .i64 0]]/\dY h.next ab 4 v ws.length (i' ws)
 | .error e=>x=.tuple [.bj,.agg [.int .i64 e.1,.int .i64 e.2]]
theorem OF (c:UInt8):(0<=Lib.indexByte [9,10,13,32] c)=(blank c=true):=by
 have aY:∀d:UInt8,(d == c)=decide (c=d):=fun d=>by
  by_cases q:c=d
  . subst q;simp
  . have fc:¬d=c:=fun e=>q e.symm;simp [q,fc]
 simp only [Lib.indexByte,aY,blank];by_cases aa:c=9
 . subst aa;decide
 . by_cases ad:c=10
   . subst ad;decide
   . by_cases aH:c=13
     . subst aH;decide
     . by_cases bw:c=32
       . subst bw;decide
       . simp [aa,ad,aH,bw]
theorem Uk (s:List UInt8) (h:ae):cR Tryz.prog 107 [.str s] h (X9 s h):=by
 refine Z'.z rfl (cp ?_);unfold OU;by_cases SZ:(65536:Int) < (s.length:Int)
 . simp +contextual only [SZ,↓aj,aC,simprocAttr];refine ⟨((Ext.refl h).new _).set (arv _) _,?_⟩;unfold lL;rw [arz (by omega)];rfl
 simp +contextual only [SZ,↓aj,aC,simprocAttr];refine cb (am4 s (by omega) _) ?_;rintro x aa ⟨rfl,gT⟩;have ak:Ext h (h.new (.bU [.int .i64 0,.int .i64 0] 0 false)):=(Ext.refl h).new _;have y9:=ak.trans gT;have g1:aa.get (az h.next)=.bU [.int .i64 0,.int .i64 0] 0 false:=by rw [gT.get _ (hP (by rw [gv];omega))];simp only [↓aj,aC,simprocAttr]
 have UY:h.next+1<=aa.next:=gT.next
 have bT:(az aa.next=az h.next)=False:=by rw [m_];exact arx (by omega)
 have dp:(az h.next=az aa.next)=False:=by rw [m_];exact arx (by omega)
 have oM:(aa.next=h.next)=False:=arx (by omega);have oN:(h.next=aa.next)=False:=arx (by omega);have hlen:¬65536<s.length:=by omega
 by_cases aD:vm s<s.length
 . have s6:((vm s:Int) < (s.length:Int))=True:=arD (by omega);simp +contextual only [s6,g1,bT,dp,oM,oN,↓aj,aC,simprocAttr];refine ⟨y9.set (arv _) _,?_⟩;unfold lL;rw [arw hlen,arz aD]
 have s6:((vm s:Int) < (s.length:Int))=False:=arx (by omega);have l6:lL s=rQ s 0:=by unfold lL;rw [arw hlen,arw aD]
 simp +contextual only [s6,g1,bT,dp,oM,oN,↓aj,aC,simprocAttr];have agP:Ext h (aa.new (.bU [.str s,.int .i64 0,.int .i64 0] 0 false)):=y9.new _
 refine fR (fun r ab=>r 0=.str s/\r 3=.ptr (az h.next) 0/\r 5=.ptr (az aa.next) 0/\∃(a:Nat) (ws:List ca) (v:V),r 6=v/\ab.get (az aa.next)=.bU [.str s,.int .i64 a,.int .i64 0] 0 false/\a<=s.length/\ws.length<=a/\
  ab.get (az h.next)=.bU [.int .i64 0,.int .i64 0] 0 false/\Ext h ab/\aa.next+1<=ab.next/\dY (aa.next+1) ab 4 v ws.length (i' ws)/\lL s=CW ws (rQ (s.drop a) a))
  (fun r ab=>s.length - ((gq (ab.get (az aa.next)) 1).getD .bad).toN) ?_ ?_
 . refine ⟨by simp only [↓aj,aC,simprocAttr],by simp only [↓aj,aC,simprocAttr],by simp only [↓aj,aC,simprocAttr],0,[],.bj,by simp only [↓aj,aC,simprocAttr],by simp only [↓aj,aC,simprocAttr]<;>rfl,by omega,by simp,by simp only [g1,bT,oM,dp,oN,↓aj,aC,simprocAttr],agP,?_,⟨rfl,rfl⟩,?_⟩
   . rw [gv];exact arv _
   . rw [l6,asf,amp]
 . rintro r ab ⟨a_,cz,bK,a,ws,v,ed,aF,b3,kw,bk,FL,mJ,gS,bB⟩;unfold OV;have gE:Old ab (az aa.next):=hP (by omega);by_cases gd:(s.length:Int)<=(a:Int)
   . have bs:a=s.length:=by omega
     have FC:lL s=.ok ws:=by rw [bB,bs,atk];show Except.ok (ws++[])=_;rw [asS]
     simp +contextual only [a_,cz,bK,ed,aF,bk,gd,bT,dp,oM,oN,↓aj,aC,simprocAttr];refine ⟨FL.set (arv _) _,?_⟩;rw [FC];refine ⟨v,rfl,?_⟩;have:=gS.mod ((Mod.refl (fun q=>q=az h.next) ab).self (.bU [.int .i64 0,.int .i64 0] 0 false)) (fun q ay e=>by have ad:=gS.base ay;rw [show q=az h.next from e,c7] at ad;omega);exact this.mono (by omega)
   . have aS:a<s.length:=by omega
     rw [drop_cons aS,Uj,<-drop_cons aS] at bB;have f0:(0<=(a:Int))=True:=arD (by omega);have f1:((a:Int) < (s.length:Int))=True:=arD (by omega);have bX:IntKind.i64.wrap ((a:Int)+1)=((a+1:Nat):Int):=by rw [wrap_i64 (by omega) (by omega)];rfl
     simp +contextual only [a_,cz,bK,ed,aF,bk,gd,bT,dp,oM,oN,f0,f1,ars aS,ary,↓aj,aC,simprocAttr];refine hU (TC _ _ _) ?_;rw [W_];by_cases Fb:blank s[a]=true
     . have JM:(0<=Lib.indexByte [9,10,13,32] s[a])=True:=by rw [OF,Fb];exact eq_self _
       rw [arz Fb] at bB;simp +contextual only [JM,bX,a_,cz,bK,ed,aF,bk,gd,bT,dp,oM,oN,f0,f1,ars aS,ary,↓aj,aC,simprocAttr];refine ⟨⟨a+1,ws,rfl,by omega,by omega,FL.set (by omega) _,mJ,?_,bB⟩,by omega⟩;exact gS.mod ((Mod.refl (fun q=>q=az aa.next) ab).self _) (fun q ay e=>by have ad:=gS.base ay;rw [show q=az aa.next from e,c7] at ad;omega)
     . have JM:(0<=Lib.indexByte [9,10,13,32] s[a])=False:=by rw [OF];exact arx Fb
       rw [arw Fb] at bB;simp +contextual only [JM,bX,a_,cz,bK,ed,aF,bk,gd,bT,dp,oM,oN,f0,f1,ars aS,ary,↓aj,aC,simprocAttr];have B0:=JI s [40,42] (a:Int) [.int .i64 0] (az aa.next) 0 false ab aF (by omega) (by omega);rw [ary] at B0;refine hU B0 ?_;cases rI:([40,42]:List UInt8).isPrefixOf (s.drop a) with
       | true=>
         rw [rI,arz rfl] at bB;simp +contextual only [bX,a_,cz,bK,ed,aF,bk,gd,bT,dp,oM,oN,f0,f1,ars aS,ary,↓aj,aC,simprocAttr];refine cb (alb s a 0 (az aa.next) ab aF b3 (by omega) gE) ?_;rintro x ad ⟨rfl,hm,aV⟩;have rN:ad.get (az h.next)=.bU [.int .i64 0,.int .i64 0] 0 false:=by rw [hm.get _ (hP (by omega)) (by rw [dp];exact id),bk]
         have FK:Ext h ad:=FL.oL hm (fun b ah=>by rw [show b=az aa.next from ah,c7];omega);have CH:=hm.next
         have jF:=gS.mod hm (fun q ay e=>by have ad:=gS.base ay;rw [show q=az aa.next from e,c7] at ad;omega);cases Kx:iL (s.drop a) 0 with
         | some n=>
           rw [Kx] at aV bB;obtain ⟨g2,hle⟩:=aV;have s5:=Gj Kx;unfold fe at g2;simp +contextual only [bX,a_,cz,bK,ed,g2,aF,rN,gd,bT,dp,oM,oN,f0,f1,ars aS,ary,↓aj,aC,simprocAttr];refine ⟨⟨a+n,ws,rfl,hle,by omega,FK,by omega,jF,?_⟩,by omega⟩;rw [bB];simp only [asM]
         | none=>
           rw [Kx] at aV bB;unfold fe at aV;simp +contextual only [bX,a_,cz,bK,ed,aV,aF,rN,gd,bT,dp,oM,oN,f0,f1,ars aS,ary,↓aj,aC,simprocAttr];refine ⟨FK.set (arv _) _,?_⟩;rw [bB];rfl
       | false=>
         rw [rI,arw asV] at bB;simp +contextual only [bX,a_,cz,bK,ed,aF,bk,gd,bT,dp,oM,oN,f0,f1,ars aS,ary,↓aj,aC,simprocAttr];refine cb (ak6 s a (az aa.next) ab aF aS (by omega) gE) ?_;rintro x ad w;obtain ⟨hm,k,n,t,rfl,yW⟩:=w;have rN:ad.get (az h.next)=.bU [.int .i64 0,.int .i64 0] 0 false:=by rw [hm.get _ (hP (by omega)) (by rw [dp];exact id),bk]
         have FK:Ext h ad:=FL.oL hm (fun b ah=>by rw [show b=az aa.next from ah,c7];omega);have CH:=hm.next
         have jF:=gS.mod hm (fun q ay e=>by have ad:=gS.base ay;rw [show q=az aa.next from e,c7] at ad;omega);have m0:(az ad.next=az h.next)=False:=by rw [m_];exact arx (by omega)
         have m1:(az ad.next=az aa.next)=False:=by rw [m_];exact arx (by omega)
         have Uy:(ad.next=h.next)=False:=arx (by omega);have Uz:(ad.next=aa.next)=False:=arx (by omega);have wY:Ext ad (((ad.new (.bU [.int .i64 0,.int .i64 0,.int .i64 0,.str []] 0 false)).set (az ad.next) (.bU [.int .i64 k,.int .i64 n,.int .i64 0,.str t] 0 false)).set (az ad.next) (.bU [.int .i64 k,.int .i64 n,.int .i64 a,.str t] 0 false)):=(((Ext.refl ad).new _).set (arv _) _).set (arv _) _;obtain ⟨v3,aH,al,ao,aK,bG,cK⟩:=AT (cs:=[.int .i64 k,.int .i64 n,.int .i64 a,.str t]) (by omega) (jF.ext wY) (by simp only [nP,gv];omega) (by unfold top;omega) rfl rfl;simp only [nP,gv] at al bG;have Ts:Ext h aH:=(FK.trans wY).oL aK (fun b ah=>asq (by omega) (jF.base ah));have B_:aH.get (az h.next)=.bU [.int .i64 0,.int .i64 0] 0 false:=by rw [aK.get _ (hP (by simp only [nP,gv];omega)) (fun ay=>by have:=jF.base ay;rw [c7] at this;omega),wY.get _ (hP (by omega)),rN]
         have kW:aH.get (az aa.next)=ad.get (az aa.next):=by rw [aK.get _ (hP (by simp only [nP,gv];omega)) (fun ay=>by have:=jF.base ay;rw [c7] at this;omega),wY.get _ (hP (by omega))]
         cases mJ:gL (s.drop a) with
         | ok q=>
           have s5:=LI mJ;rw [mJ] at yW bB;obtain ⟨rfl,rfl,rfl,g2,hle⟩:=yW;unfold fe at g2;rw [g2] at kW;simp +contextual only [al,m0,m1,Uy,Uz,bX,a_,cz,bK,ed,g2,kW,aF,rN,gd,bT,dp,oM,oN,f0,f1,ars aS,ary,↓aj,aC,simprocAttr];refine ⟨⟨a+q.2.2.2,ws++[⟨q.1,q.2.1,a,q.2.2.1⟩],rfl,hle,by simp;omega,B_,Ts,by omega,?_,?_⟩,by omega⟩
           . rw [arE,Xo];exact ao
           . rw [bB,amo];simp only [asM]
         | error e=>
           rw [mJ] at yW bB;obtain ⟨he,bm,g2⟩:=yW;unfold fe at g2;rw [g2] at kW;simp +contextual only [he,al,m0,m1,Uy,Uz,bX,a_,cz,bK,ed,g2,kW,B_,aF,rN,gd,bT,dp,oM,oN,f0,f1,ars aS,ary,↓aj,aC,simprocAttr];refine ⟨Ts.set (arv _) _,?_⟩;rw [bB];rfl
def xD (L:List (List UInt8)):List V:=L.map V.str
theorem MR (L:List (List UInt8)):(xD L).length=L.length:=by simp [xD]
theorem an2 {L:List (List UInt8)} {i:Nat} (aw:i<L.length):(xD L)[i]? =some (.str L[i]):=by unfold xD;rw [ase,ars aw];rfl
theorem acx {t:List UInt8} {L:List (List UInt8)} {i:Nat} (aw:i<L.length):(L.drop i).contains t=(decide (L[i]=t)||(L.drop (i+1)).contains t):=by rw [ar3 aw,List.contains_cons];congr 1;rw [ass];simp;exact eq_comm
def JU:List UInt8->Bool
 | d::_=>pk d.toNat
 | []=>false
def eF (k:Int) (s:List UInt8):Bool:=
 decide (s≠[])&&decide (s.length<=64)&&s.all gr&&(if k=3 then (rv s||s.head? == some 95)&&!decide (s=[95])&&!th s else if k=4 then JU s else rv s)
theorem aha (t:List UInt8) (L:List (List UInt8)) (v:V) (h:ae) (H:fp h 1 v L.length (xD L)) (c':L.length<=100000):
 cR Tryz.prog 109 [v,.str t] h fun x ab=>ab=h/\∃i:Int,x=.int .i64 i/\decide (0<=i)=L.contains t:=by
 refine aaa.z rfl (cp ?_);unfold OX;simp +contextual only [H.len,↓aj,aC,simprocAttr];refine fR (fun r ab=>ab=h/\r 0=v/\r 1=.str t/\r 7=.int .i64 L.length/\∃i:Nat,r 8=.int .i64 i/\i<=L.length/\L.contains t=(L.drop i).contains t) (fun r ab=>L.length - (r 8).toN) ?_ ?_
 . exact ⟨rfl,by simp only [↓aj,aC,simprocAttr],by simp only [↓aj,aC,simprocAttr],by simp only [↓aj,aC,simprocAttr],0,by simp only [↓aj,aC,simprocAttr]<;>rfl,by omega,rfl⟩
 . rintro r ab ⟨rfl,a_,bH,cy,i,b',aw,bB⟩;unfold OY;by_cases aS:i<L.length
   . have g0:((i:Int) < (L.length:Int))=True:=arD (by omega);obtain ⟨cc,da,s_,nr⟩:=H.cd (k:=.i64) aS;have dR:=nr.dR (i:=i * 1) (by rw [MR];omega);simp only [atG] at dR s_;have J6:(xD L)[i]'(by rw [MR];exact aS)=.str L[i]:=by
      have:=an2 aS;rw [ars (by rw [MR];exact aS)] at this;exact asK this
     rw [J6] at dR;rw [acx aS] at bB;have w:IntKind.i64.wrap ((i:Int)+1)=((i+1:Nat):Int):=by rw [wrap_i64 (by omega) (by omega)];rfl
     by_cases he:t=L[i]
     . have et:decide (t=L[i])=true:=asm he;simp +contextual only [a_,bH,cy,b',g0,s_,dR,et,↓aj,aC,simprocAttr];exact ⟨i,rfl,by rw [bB,<-he];simp⟩
     . have et:decide (t=L[i])=false:=asp he;simp +contextual only [a_,bH,cy,b',g0,s_,dR,et,w,↓aj,aC,simprocAttr];refine ⟨⟨i+1,rfl,aS,?_⟩,by omega⟩;rw [bB,asp (fun q=>he q.symm),atI]
   . have g0:((i:Int) < (L.length:Int))=False:=arx (by omega);rw [asy (by omega)] at bB;simp +contextual only [a_,bH,cy,b',g0,↓aj,aC,simprocAttr];exact ⟨_,rfl,by rw [bB];rfl⟩
theorem abP (t:List UInt8) (L:List (List UInt8)) (v:V) (h:ae) (H:fp h 1 v L.length (xD L)) (c':L.length<=100000):
 e4 Tryz.prog 105 [v,.str t] h (.bool (L.contains t)) h:=by
 refine r0 (Z9.z rfl (cp ?_));unfold OT;simp +contextual only [↓aj,aC,simprocAttr];refine cb (aha t L v h H c') ?_;rintro x aa ⟨rfl,i,rfl,aw⟩;simp +contextual only [aw,↓aj,aC,simprocAttr]
theorem Zn {s:List UInt8} (h:∀c ∈ s,c.toNat<128):vm s=s.length:=by
 have aq:∀a,a<s.length->gm s a=1:=by
  intro a bs;have aI:decodeL s a=((s[a]).toNat,1):=by unfold decodeL;rw [Lib.decode_at];simp only [R8,ars bs,ar0];unfold Lib.decodeN;rw [arz (h _ (arY bs))]
  unfold gm;rw [aI,arw (by have:=h _ (arY bs);simp only [asi,atC];omega)]
 have:∀n a,s.length-a=n->a<=s.length->r3 s a=s.length:=by
  intro n
  induction n with
  | zero=>intro a aa ad;exact We (by omega)
  | succ n bc=>
    intro a aa ad;have aS:a<s.length:=by omega
    rw [MA aS (by rw [aq a aS];decide),aq a aS];exact bc _ (by omega) (by omega)
 exact this s.length 0 (by omega) (by omega)
theorem akf {s:List UInt8} (h:∀c ∈ s,c.toNat<128):lL s=if 65536<s.length then .error (3,0) else rQ s 0:=by unfold lL;rw [Zn h,arw (asT _)]
theorem aku {c:UInt8} (h:gr c=true):blank c=false/\c≠40:=by
 constructor
 . cases ah:blank c with
   | false=>rfl
   | true=>
     unfold blank at ah;simp only [asF,arF] at ah;rcases ah with ((rfl | rfl) | rfl) | rfl<;>exact absurd h (by decide)
 . rintro rfl;exact absurd h (by decide)
theorem ak' {c:UInt8} (h:c≠40) (r:List UInt8):([40,42]:List UInt8).isPrefixOf (c::r)=false:=by
 have:((40:UInt8) == c)=false:=by rw [asR];exact fun q=>h q.symm
 simp [List.isPrefixOf,this]
theorem WB {c:UInt8} (h:jo c.toNat=true):fi c=false/\c≠34:=by unfold jo at h;simp only [arp,arF] at h;refine ⟨?_,by rintro rfl;exact absurd h (by decide)⟩;unfold fi ou;simp only [as4,asr];omega
theorem aei {c:UInt8} (h:pk c.toNat=true):fi c=false/\c≠34/\jo c.toNat=false/\c≠95:=by
 unfold pk at h;simp only [arp,arF] at h;refine ⟨?_,by rintro rfl;exact absurd h (by decide),?_,by rintro rfl;exact absurd h (by decide)⟩
 . unfold fi ou;simp only [as4,asr];omega
 . unfold jo;simp only [as4,asr];omega
theorem LG {k:Int} {s:List UInt8} (h:eF k s=true):s≠[]/\s.length<=64/\s.all gr=true/\(if k=3 then (rv s||s.head? == some 95)&&!decide (s=[95])&&!th s else if k=4 then JU s else rv s)=true:=by unfold eF at h;rw [arp,arp,arp,arF,arF] at h;exact ⟨h.1.1.1,h.1.1.2,h.1.2,h.2⟩
theorem ak7 {c:UInt8} {t:List UInt8} (h:jo c.toNat=true\/c=95):gL (c::t)=ky 3 (c::t):=by
 have aI:fi c=false:=h.elim (fun q=>(WB q).1) (fun q=>by rw [q];decide);have aev:c≠34:=h.elim (fun q=>(WB q).2) (fun q=>by rw [q];decide);have aU:(jo c.toNat||decide (c=95))=true:=by simpa using h
 simp only [gL,aI,aU,arw aev,arK,ar5,ar2]
theorem Zm {c:UInt8} (h:gr c=true):c.toNat<128:=by unfold gr w9 ou jo pk at h;simp only [asF,arp,arF] at h;omega
theorem W' {p:UInt8->Bool}:∀s:List UInt8,s.all p=true->s.takeWhile p=s
 | [],_=>rfl
 | c::s,h=>by rw [as_,arp] at h;rw [as1,h.1,arz rfl,W' s h.2]
theorem Ob (p:UInt8->Bool):∀s:List UInt8,(s.takeWhile p).all p=true
 | []=>rfl
 | c::s=>by
   rw [as1]
   split
   . rename_i h;rw [as_,h,Ob p s];rfl
   . rfl
theorem LF {k:Int} {c:UInt8} {r:List UInt8} {q:Int × Int × List UInt8 × Nat} (aB:(k=3/\(jo c.toNat=true\/c=95))\/(k=4/\pk c.toNat=true)\/(k=5/\jo c.toNat=true)) (h:ky k (c::r)=.ok q) (ay:q.1=3\/q.1=4\/q.1=5):
 q.1=k/\eF k q.2.2.1=true:=by
 have ax:gr c=true:=by
  rcases aB with ⟨_,q | q⟩ | ⟨_,q⟩ | ⟨_,q⟩
  . exact MJ q
  . exact Xc q
  . exact Sc q
  . exact MJ q
 have aG:(c::r).takeWhile gr=c::r.takeWhile gr:=by rw [as1,arz ax]
 have bs:=Ob gr (c::r);rw [aG] at bs;unfold ky at h;simp only [aG] at h;generalize r.takeWhile gr=t at *
 split at h
 . cases h;simp at ay
 . rename_i aga
   split at h
   . cases h;simp at ay
   . rename_i rJ
     split at h
     . cases h
     . rename_i hlen;cases h;refine ⟨rfl,?_⟩;have lG:(if k=3 then (rv (c::t)||(c::t).head? == some 95)&&!decide (c::t=[95])&&!th (c::t) else if k=4 then JU (c::t) else rv (c::t))=true:=by
        rcases aB with ⟨rfl,z⟩ | ⟨rfl,z⟩ | ⟨rfl,z⟩
        . rw [arz rfl];have aa:(rv (c::t)||(c::t).head? == some 95)=true:=by
           rcases z with z | z
           . show (jo c.toNat||_)=true;rw [z];rfl
           . subst z;simp
          rw [aa,asp (fun z=>aga ⟨rfl,z⟩),Bool.eq_false_iff.2 (fun z=>rJ ⟨rfl,z⟩)];rfl
        . exact z
        . exact z
       show eF k (c::t)=true;unfold eF;rw [lG,bs,asm (show c::t≠[] by simp),asm (show (c::t).length<=64 by omega)];rfl
theorem ak2 {r:List UInt8} {q:Int × Int × List UInt8 × Nat} (h:gL r=.ok q) (ay:q.1=3\/q.1=4\/q.1=5):eF q.1 q.2.2.1=true:=by
 match r,h with
 | c::r,h=>
   simp only [gL] at h
   split at h
   . unfold zv at h;simp only at h
     split at h
     . cases h
     . cases h;simp at ay
   . split at h
     . unfold tJ at h
       split at h
       . cases h
       . split at h
         . cases h
         . cases h;simp at ay
     . split at h
       . rename_i aU;have:=LF (.inl ⟨rfl,by simpa using aU⟩) h ay;rw [this.1];exact this.2
       . split at h
         . rename_i aU;have:=LF (.inr (.inl ⟨rfl,aU⟩)) h ay;rw [this.1];exact this.2
         . split at h
           . rename_i aU;cases aV:ky 5 r with
             | error e=>rw [aV] at h;cases h
             | ok fc=>
               rw [aV] at h;cases h;obtain ⟨d,t,rfl⟩:∃d t,r=d::t:=by
                cases r with
                | nil=>simp [rv] at aU
                | cons d t=>exact ⟨d,t,rfl⟩
               have:=LF (.inr (.inr ⟨rfl,aU.2⟩)) aV ay;show eF fc.1 fc.2.2.1=true;rw [this.1];exact this.2
           . unfold zS at h
             split at h
             . cases h;simp at ay
             . cases h
theorem Ct:∀(f:Nat) (r:List UInt8) (p:Nat) (ws:List ca),nL f r p=.ok ws->∀w ∈ ws,w.kind=3\/w.kind=4\/w.kind=5->eF w.kind w.text=true
 | 0,r,p,ws,h,w,hw,_=>by simp only [nL,Except.ok.injEq] at h;subst h;cases hw
 | f+1,[],p,ws,h,w,hw,_=>by simp only [nL,Except.ok.injEq] at h;subst h;cases hw
 | f+1,c::r,p,ws,h,w,hw,aB=>by
   simp only [nL] at h
   split at h
   . exact Ct f _ _ ws h w hw aB
   . split at h
     . split at h
       . cases h
       . exact Ct f _ _ ws h w hw aB
     . split at h
       . cases h
       . rename_i q aV;cases aD:nL f ((c::r).drop q.2.2.2) (p+q.2.2.2) with
         | error aJ=>rw [aD] at h;cases h
         | ok bA=>
           rw [aD] at h;simp only [A_,Except.ok.injEq] at h;subst h;rcases arM.1 hw with rfl | hw
           . exact ak2 aV aB
           . exact Ct f _ _ bA aD w hw aB
theorem amT {k:Int} {s:List UInt8} (aB:k=3\/k=4\/k=5) (h:eF k s=true):lL (if k=5 then 39::s else s)=.ok [⟨k,0,0,s⟩]:=by
 obtain ⟨g1,g2,g3,g4⟩:=LG h;obtain ⟨c,t,rfl⟩:=ath g1;have aeY:∀d ∈ (if k=5 then 39::c::t else c::t),d.toNat<128:=by
  intro d aI;have aa:∀d ∈ c::t,d.toNat<128:=fun d aI=>Zm (arU.1 g3 d aI)
  split at aI
  . rcases arM.1 aI with rfl | aI
    . decide
    . exact aa d aI
  . exact aa d aI
 rw [akf aeY,arw (by split<;>simp only [arA] at g2 ⊢<;>omega)];have ax:gr c=true:=by rw [as_,arp] at g3;exact g3.1
 obtain ⟨cc,cj⟩:=aku ax;have rd:∀j:Int,(j=3->c::t≠[95]/\th (c::t)=false)->ky j (c::t)=.ok (j,0,c::t,(c::t).length):=by intro j bp;unfold ky;simp only [W' _ g3];rw [arw (fun q=>(bp q.1).1 q.2),arw (fun q=>by rw [(bp q.1).2] at q;simp at q),arw (by omega)]
 have fin:∀(d:UInt8) (u:List UInt8) (q:Int × Int × List UInt8 × Nat),blank d=false->d≠40->gL (d::u)=.ok q->q.2.2.2=(d::u).length->rQ (d::u) 0=.ok [⟨q.1,q.2.1,0,q.2.2.1⟩]:=by intro d u q aJ aR bP b4;rw [Uj,aJ,arw asV,ak' aR,arw asV,bP];simp only [b4,atk];rfl
 rcases aB with rfl | rfl | rfl
 . rw [arw (by decide)];rw [arz rfl] at g4;simp only [arp,aso,asr,asF,as3] at g4;have a8:jo c.toNat=true\/c=95:=g4.1.1.imp id (fun q=>asK q);exact fin c t _ cc cj (by rw [ak7 a8];exact rd 3 (fun _=>⟨g4.1.2,g4.2⟩)) rfl
 . rw [arw (by decide)];rw [arw (by decide),arz rfl] at g4;have aF:pk c.toNat=true:=g4;obtain ⟨dp,fZ,n3,n4⟩:=aei aF;refine fin c t (4,0,c::t,(c::t).length) cc cj ?_ rfl;simp only [gL,dp,n3,aF,arw fZ,arK,ar5,ar2,atI,arF,arw n4];exact rd 4 (fun q=>absurd q (by decide))
 . rw [arz rfl];rw [arw (by decide),arw (by decide)] at g4;refine fin 39 (c::t) (5,0,c::t,(c::t).length+1) (by decide) (by decide) ?_ rfl;simp only [gL];rw [arw (by decide),arw (by decide),arw (by decide),arw (by decide),arz ⟨trivial,g4⟩,rd 5 (fun q=>absurd q (by decide))];rfl
def tP (k:Int) (s:List UInt8):Bool:=decide (s.length<=64)&&decide (s≠[])&&(match lL (if k=5 then 39::s else s) with
 | .ok [w]=>decide (w.kind=k)&&decide (w.pos=0)&&decide (w.text≠[])&&decide ((if k=5 then 39::s else s)=(if w.kind=5 then 39::w.text else w.text))
 | _=>false)
theorem aoW {k:Int} (aB:k=3\/k=4\/k=5) (s:List UInt8):tP k s=eF k s:=by
 rw [ass];refine ⟨fun h=>?_,fun h=>?_⟩
 . unfold tP at h;simp only [arp,arF] at h;obtain ⟨_,aH⟩:=h
   split at aH
   . rename_i w hw;simp only [arp,arF] at aH;obtain ⟨⟨⟨aJ,_⟩,_⟩,b4⟩:=aH;subst aJ;have aV:eF w.kind w.text=true:=by
      generalize (if w.kind=5 then 39::s else s)=z at hw;unfold lL at hw
      split at hw
      . cases hw
      . split at hw
        . cases hw
        . exact Ct _ _ _ _ hw w (by simp) aB
     have:s=w.text:=by
      split at b4
      . exact (List.cons.inj b4).2
      . exact b4
     rw [this];exact aV
   . cases aH
 . obtain ⟨g1,g2,_,_⟩:=LG h;unfold tP;rw [amT aB h];simp [g1,g2]
theorem ach (t:aL):t.deep=k8 t.l+1:=by cases t;simp only [aL.deep,aL.l]
theorem size_eq (t:aL):t.size=1+b8 t.l:=by cases t;simp only [aL.size,aL.l]
theorem Vr:∀l m:List aL,k8 (l++m)=max (k8 l) (k8 m)
 | [],m=>by simp [k8]
 | t::l,m=>by rw [arR,k8,k8,Vr l m,Nat.max_assoc]
theorem zD:∀l m:List aL,b8 (l++m)=b8 l+b8 m
 | [],m=>by simp [b8]
 | t::l,m=>by rw [arR,b8,b8,zD l m,asC]
theorem take_one {l:List aL} {i:Nat} (h:i<l.length):l.take (i+1)=l.take i++[l[i]]:=by rw [asg h]
theorem amg {l:List aL} {i:Nat} (h:i<l.length):k8 (l.take (i+1))=max (k8 (l.take i)) l[i].deep:=by rw [take_one h,Vr,k8,k8,Nat.max_zero]
theorem VG {l:List aL} {i:Nat} (h:i<l.length):b8 (l.take (i+1))=b8 (l.take i)+l[i].size:=by rw [take_one h,zD,b8,b8,asB]
mutual
theorem aci:∀t:aL,t.deep<=t.size
 | .mk k n a s l=>by rw [aL.deep,aL.size];have:=L' l;omega
theorem L':∀l:List aL,k8 l<=b8 l
 | []=>arv _
 | t::l=>by rw [k8,b8];have:=aci t;have:=L' l;omega
end
theorem Mh (l:List aL) (i:Nat):b8 (l.take i)<=b8 l:=by have:=zD (l.take i) (l.drop i);rw [asI] at this;omega
theorem akD (a b:Nat):(if (a:Int) < (b:Int) then (b:Int) else (a:Int))=((max a b:Nat):Int):=by
 by_cases h:(a:Int) < (b:Int)
 . rw [arz h,Nat.max_eq_right (by omega)]
 . rw [arw h,Nat.max_eq_left (by omega)]
theorem QZ:∀(N:Nat) (t:aL),t.size<=N->N<=1000000000->∀(af:List V) (h:ae),bM Any h t.enc af->cR Tryz.prog 98 [.agg af] h fun x ab=>x=.int .i64 (t.deep:Nat)/\Ext h ab
 | 0,t,aU,_,_,_,_=>by have:=nT t;omega
 | N+1,t,aU,aeJ,af,h,H=>by
   obtain ⟨cm,rfl,L,_⟩:=aL.open H;have bF:N<=1000000000:=by omega
   have ol:=L.one;have ax:=L.len;have hle:=L.le;rw [arC] at ax hle;refine aa6.z rfl (cp ?_);unfold Qm;obtain ⟨aa,al,aJ,cH⟩:=fq h [.int .i64 t.k,.int .i64 t.n,.int .i64 t.a,.str t.s,cm];simp +contextual only [ol.1,ol.2.1,al,cH.g,ax,↓aj,aC,simprocAttr];refine fR (fun r g=>r 1=.ptr (az h.next) 0/\r 7=cm/\r 8=.int .i64 t.l.length/\∃i:Nat,r 3=.int .i64 (k8 (t.l.take i):Nat)/\r 9=.int .i64 i/\i<=t.l.length/\Ext aa g) (fun r g=>t.l.length - (r 9).toN) ?_ ?_
   . exact ⟨by simp only [↓aj,bD,simprocAttr],by simp only [↓aj,bD,simprocAttr],by simp only [↓aj,bD,simprocAttr],0,by simp only [↓aj,bD,simprocAttr]<;>rfl,by simp only [↓aj,bD,simprocAttr]<;>rfl,by omega,Ext.refl aa⟩
   rintro r g ⟨bH,cy,b',i,cz,r4,aw,E⟩;unfold Qn;have A:=cH.ext E;have n9:=L.ext (aJ.trans E);have kT:=Mh t.l i;have p_:=L' (t.l.take i);have ap5:=size_eq t;by_cases aS:i<t.l.length
   . have g0:((i:Int) < (t.l.length:Int))=True:=arD (by omega);obtain ⟨b,off,wl,cd,X,eT,ld⟩:=aL.k3 n9 (k:=.i64) aS;have fK:=ld g (Ext.refl g);have gM:=eT.one;have dM:=hj aS (by unfold top at hle;omega);have cu:=zE (t:=t) (arY aS);obtain ⟨g1,du,bu,B⟩:=fy g [.int .i64 0,.int .i64 0,.int .i64 0,.str [],.bj] [.int .i64 t.l[i].k,.int .i64 t.l[i].n,.int .i64 t.l[i].a,.str t.l[i].s,wl];simp +contextual only [bH,cz,cy,b',r4,g0,cd,fK,du,B.g,gM.1,gM.2.1,↓aj,aC,simprocAttr];refine cb (QZ N t.l[i] (by omega) bF _ g1 (X.ext bu)) ?_;rintro x g2 ⟨rfl,aR⟩;have bP:=bu.trans aR;have hm:=akD (k8 (t.l.take i)) t.l[i].deep;rw [<-amg aS] at hm;simp +contextual only [bH,cz,cy,b',r4,dM,UK,hm,↓aj,aC,simprocAttr];exact ⟨⟨i+1,rfl,rfl,aS,E.trans bP⟩,by omega⟩
   . have g0:((i:Int) < (t.l.length:Int))=False:=arx (by omega);rw [asu (by omega)] at cz p_ kT;have wd:IntKind.i64.wrap ((k8 t.l:Int)+1)=((t.deep:Nat):Int):=by rw [ach,wrap_i64 (by omega) (by omega)];rfl
     simp +contextual only [bH,cz,cy,b',r4,g0,wd,↓aj,aC,simprocAttr];exact aJ.trans E
structure h_ where
 first:List Int:=[]
 rest:Int:=0
 least:Int:=0
 k5:Int:=0
 last:List Int:=[]
 bS:Int:=0
 aw:Int:=0
 s:Int:=0
def h_.enc (r:h_):List D:=[.l 1 (r.first.map aX.gB),.i .i64 r.rest,.i .i64 r.least,.i .i64 r.k5,.l 1 (r.last.map aX.gB),.i .i64 r.bS,.i .i64 r.aw,.i .i64 r.s]
def xy:List (Int × h_):=
 [(1,{s:=3}),(2,{s:=1,rest:=1,k5:=64}),(3,{first:=[1,1]}),(4,{first:=[1,1]}),
  (10,{}),(13,{}),(11,{s:=1}),(12,{bS:=-1073741824,aw:=1073741823}),(14,{aw:=1}),(15,{first:=[2,2]}),(16,{s:=2,rest:=2,k5:=1}),
  (20,{bS:=-1073741824,aw:=1073741823}),(21,{s:=4}),(22,{}),(23,{aw:=1}),(24,{s:=1}),(25,{s:=2,rest:=3,k5:=1}),(26,{first:=[3,3]}),(28,{first:=[3,3]}),(35,{first:=[3,3]}),(37,{first:=[3,3]}),
  (38,{s:=5,first:=[3,3]}),(34,{first:=[3]}),(36,{first:=[3]}),(39,{first:=[3]}),(31,{first:=[3,3,3]}),(27,{first:=[2,3]}),(29,{first:=[2,3,3]}),
  (30,{rest:=5,least:=1,k5:=1073741824,last:=[3]}),(32,{first:=[3],rest:=4,least:=1,k5:=1073741824}),(33,{first:=[3],rest:=4,least:=1,k5:=1073741824}),
  (45,{first:=[2,3]}),(46,{s:=1,first:=[9]}),(47,{s:=2,rest:=1,k5:=1}),(51,{s:=2,rest:=1,k5:=1}),(52,{first:=[2,3]}),(53,{rest:=5,least:=1,k5:=1073741824}),
  (50,{s:=1,aw:=64,rest:=6,least:=1,k5:=1073741824})]
def G0:List (Int × List D):=xy.map fun x=>(x.1,x.2.enc)
set_option maxRecDepth 100000 in
theorem ang:Gq ctx 100000 95 (fun aq v=>Gp aq 1000 G0 v)=true:=by kernel_rfl
theorem anf (h:ae):cR Tryz.prog 95 [] h fun x ab=>Ext h ab/\o2 (AN h) ab G0 x:=
 abD (C:=ctx) follows zp Me (by kernel_rfl) (by kernel_rfl) ⟨_,Tryz.func95,by kernel_rfl⟩ ang h
def hW (k:Int):Int:=if 1<=k/\k<=4 then 1 else if 10<=k/\k<=16 then 2 else if 20<=k/\k<=39 then 3 else if k=45 then 4 else if k=46 then 5 else if k=47 then 6 else if 50<=k/\k<=53 then 7 else 0
theorem aj2 {a b:Int} (h:a<=b):(a<=b)=True:=arD h
theorem aj1 {a b:Int} (h:b<a):(a<=b)=False:=arx (by omega)
theorem adZ {a b:Int} (h:b<=a):(a>=b)=True:=arD h
theorem adY {a b:Int} (h:a<b):(a>=b)=False:=arx (by omega)
theorem ag2 {a b:Int} (h:a=b):(a=b)=True:=arD h
theorem ag1 {a b:Int} (h:a<b\/b<a):(a=b)=False:=arx (by omega)
theorem Se (k:Int) (h:ae):cR Tryz.prog 96 [.int .i64 k] h fun x ab=>x=.int .i64 (hW k)/\ab=h:=by
 refine aa4.z rfl (cp ?_);unfold Qj hW;have an:k<1\/(1<=k/\k<=4)\/(5<=k/\k<=9)\/(10<=k/\k<=16)\/(17<=k/\k<=19)\/(20<=k/\k<=39)\/(40<=k/\k<=44)\/k=45\/k=46\/k=47\/(48<=k/\k<=49)\/(50<=k/\k<=53)\/54<=k:=by omega
 rcases an with q | q | q | q | q | q | q | q | q | q | q | q | q<;>simp +contextual (disch:=omega) only [aj2,aj1,adZ,adY,ag2,ag1,atC,and_false,atn,atL,ar2,ar5,↓aj,aC,simprocAttr]<;>trivial
def u0 (k g:Int):Bool:=if g=8 then decide (k=1) else if g=9 then decide (k=27) else decide (hW k=g)
theorem aho (t:aL) (g:Int) (af:List V) (h:ae) (H:bM Any h t.enc af):cR Tryz.prog 103 [.agg af,.int .i64 g] h fun x ab=>x=.bool (u0 t.k g)/\Ext h ab:=by
 obtain ⟨cm,rfl,L,_⟩:=aL.open H;have ol:=L.one;refine Z7.z rfl (cp ?_);unfold OR u0;obtain ⟨aa,al,aJ,cH⟩:=fq h [.int .i64 t.k,.int .i64 t.n,.int .i64 t.a,.str t.s,cm];by_cases a:g=8
 . simp +contextual only [ol.1,ol.2.1,al,cH.g,arD a,ar2,↓aj,aC,simprocAttr];exact aJ
 . by_cases b:g=9
   . simp +contextual only [ol.1,ol.2.1,al,cH.g,arx a,arD b,ar2,ar5,↓aj,aC,simprocAttr];exact aJ
   . simp +contextual only [ol.1,ol.2.1,al,cH.g,arx a,arx b,ar5,↓aj,aC,simprocAttr];refine cb (Se t.k aa) ?_;rintro x ad ⟨rfl,rfl⟩;simp +contextual only [↓aj,aC,simprocAttr];exact aJ
def zP (k:Int):List (Int × h_)->Option h_
 | []=>none
 | (n,r)::l=>if k=n then some r else zP k l
def qO (k:Int):Option h_:=zP k xy
theorem RS (k:Int):∀l:List (Int × h_),nO k (l.map fun x=>(x.1,x.2.enc))=(zP k l).map h_.enc
 | []=>rfl
 | (n,r)::l=>by
   simp only [ast,nO,zP]
   split
   . rfl
   . exact RS k l
theorem ads (k:Int):nO k G0=(qO k).map h_.enc:=RS k xy
def opsL:List (List UInt8):=[[43],[45],[42],[47],[109,111,100],[61],[60],[60,61]]
section
variable (named:Int->List UInt8->Bool)
def z6 (oG:Int) (s:List UInt8):Bool:=
 if oG=1 then named 3 s else if oG=2 then named 4 s else if oG=3 then named 5 s else if oG=4 then decide (s.length<=4096) else if oG=5 then opsL.contains s else decide (s=[])
def firstM (r:h_) (k n:Int):List Int:=if k=50 then List.replicate n.toNat 8 else r.first
def gZ (r:h_) (k n:Int) (len:Nat):Int:=(len:Int) - (firstM r k n).length-r.last.length
def oz (r:h_) (k n:Int) (len:Nat):List Int:=firstM r k n++List.replicate (gZ r k n len).toNat r.rest++r.last
def BJ (r:h_) (k n a:Int) (s:List UInt8):Bool:=
 decide (r.bS<=n)&&decide (n<=r.aw)&&decide (0<=a)&&decide (a<=65536)&&z6 named r.s s
def k4 (r:h_) (k n:Int) (len:Nat):Bool:=decide (r.least<=gZ r k n len)&&decide (gZ r k n len<=r.k5)
mutual
def aL.may:aL->Bool
 | .mk k n a s l=>match qO k with
   | none=>false
   | some r=>BJ named r k n a s&&k4 r k n l.length&&nS (oz r k n l.length) l
def nS:List Int->List aL->Bool
 | _,[]=>true
 | [],_::_=>true
 | g::gs,t::l=>u0 t.k g&&t.may&&nS gs l
end
def vo (k:Int) (s:List UInt8):Bool:=
 if k=1 then named 5 s else if k=2\/k=11\/k=24\/k=46\/k=50 then named 3 s else if k=16\/k=25\/k=47\/k=51 then named 4 s else
 if k=21 then decide (s.length<=4096) else if k=38 then opsL.contains s else decide (s=[])
def qN (k n:Int) (len:Nat):Bool:=
 if k=12\/k=20 then decide (-1073741824<=n)&&decide (n<=1073741823) else if k=14\/k=23 then decide (n=0)||decide (n=1) else
 if k=50 then decide (0<=n)&&decide (n<=64)&&decide (n < (len:Int)) else decide (n=0)
def R2:List aL->Bool
 | t::_=>decide (t.k=27)
 | []=>false
def lf (k n:Int) (l:List aL):List Int × Bool:=
 let len:=l.length
 if k=2 then (List.replicate len 1,decide (len<=64))
 else if k=3\/k=4 then (List.replicate 2 1,decide (len=2))
 else if k=15 then (List.replicate 2 2,decide (len=2))
 else if k=16 then (List.replicate len 2,decide (len<=1))
 else if k=25 then (List.replicate len 3,decide (len<=1))
 else if k=26\/k=28\/k=35\/k=37\/k=38 then (List.replicate 2 3,decide (len=2))
 else if k=34\/k=36\/k=39 then (List.replicate 1 3,decide (len=1))
 else if k=31 then (List.replicate 3 3,decide (len=3))
 else if k=27\/k=45\/k=52 then ([2,3],decide (len=2))
 else if k=29 then ([2,3,3],decide (len=3))
 else if k=30 then (List.replicate (len-1) 5++[3],decide (2<=len))
 else if k=32\/k=33 then ([3]++List.replicate (len-1) 4,decide (2<=len))
 else if k=46 then (List.replicate 1 3,decide (len=1)&&R2 l)
 else if k=47\/k=51 then (List.replicate len 1,decide (len<=1))
 else if k=50 then (List.replicate n.toNat 8++List.replicate (len-n.toNat) 6,true)
 else if k=53 then (List.replicate len 5,decide (1<=len))
 else ([],decide (len=0))
def vn (k g:Int):Bool:=if g=8 then decide (k=1) else decide (hW k=g)
mutual
def aL.lR:aL->Bool
 | .mk k n a s l=>decide (hW k≠0)&&vo named k s&&qN k n l.length&&decide (0<=a)&&decide (a<=65536)&&(lf k n l).2&&na (lf k n l).1 l
def na:List Int->List aL->Bool
 | _,[]=>true
 | [],_::_=>true
 | g::gs,t::l=>vn t.k g&&t.lR&&na gs l
end
end
theorem MD {k:Int} {r:h_}:∀{l:List (Int × h_)},zP k l=some r->(k,r) ∈ l
 | [],h=>by cases h
 | (n,q)::l,h=>by
   simp only [zP] at h
   split at h
   . cases h;rename_i e;subst e;simp
   . exact arT _ (MD h)
theorem anc {k:Int} (h:qO k=none):hW k=0:=by
 by_cases aB:1<=k/\k<=53
 . obtain ⟨n,rfl⟩:=asJ (show 0<=k by omega);have key:∀n<54,(qO ((n:Nat):Int)).isNone=true->hW ((n:Nat):Int)=0:=by decide
   exact key n (by omega) (by rw [h];rfl)
 . unfold hW;rw [arw (by omega),arw (by omega),arw (by omega),arw (by omega),arw (by omega),arw (by omega),arw (by omega)]
section
variable {named:Int->List UInt8->Bool}
theorem am5 {k g:Int} (h:g≠9):vn k g=u0 k g:=by
 unfold vn u0;by_cases uB:g=8
 . rw [arz uB,arz uB]
 . rw [arw uB,arw uB,arw h]
theorem Vy:∀{gs:List Int} {l:List aL},(∀t ∈ l,t.lR named=t.may named)->(∀g ∈ gs,g≠9)->na named gs l=nS named gs l
 | [],[],_,_=>by rw [na,nS]
 | g::gs,[],_,_=>by rw [na,nS]
 | [],t::l,_,_=>by rw [na,nS]
 | g::gs,t::l,h,aF=>by rw [na,nS,h t (by simp),am5 (aF g (by simp)),Vy (fun t aG=>h t (by simp [aG])) (fun g h=>aF g (by simp [h]))]
theorem akE {k n a:Int} {s:List UInt8} {l:List aL} {r:h_} (aB:hW k≠0) (aY:∀t ∈ l,t.lR named=t.may named) (aD:qO k=some r)
 (aa:vo named k s=z6 named r.s s) (ad:(qN k n l.length&&(lf k n l).2)=(decide (r.bS<=n)&&decide (n<=r.aw)&&k4 r k n l.length))
 (aH:k4 r k n l.length=true->r.bS<=n->(lf k n l).1=oz r k n l.length) (yC:∀g ∈ oz r k n l.length,g≠9):(aL.mk k n a s l).lR named=(aL.mk k n a s l).may named:=by
 rw [aL.lR,aL.may,aD];simp only;unfold BJ;rw [asm aB,ar8,aa];cases c':k4 r k n l.length with
 | false=>
   rw [c',asL] at ad;simp only [asL];have:(qN k n l.length&&(lf k n l).2)=false:=ad;rw [as4] at this;rcases this with q | q<;>rw [q]<;>simp
 | true=>
   rw [c',asx] at ad;by_cases eA:r.bS<=n
   . rw [aH c' eA,Vy aY yC];have:∀x y z w u v:Bool,(x&&y&&z&&w&&u&&v)=(x&&(y&&u)&&z&&w&&v):=by decide
     rw [this,ad];simp only [asx];have:∀x y z w u v:Bool,(x&&(y&&z)&&w&&u&&v)=(y&&z&&w&&u&&x&&v):=by decide
     rw [this]
   . rw [asp eA,ar9] at ad;rw [asp eA];simp only [ar9];rw [as4] at ad;rcases ad with q | q<;>rw [q]<;>simp
theorem zl:∀(N:Nat) (t:aL),t.size<=N->N<=1000000000->t.lR named=t.may named
 | 0,t,aU,_=>by have:=nT t;omega
 | N+1,.mk k n a s l,aU,bF=>by
   have kr:l.length<=1000000000:=by have:=nc l;simp only [aL.size] at aU;omega
   have aY:∀t ∈ l,t.lR named=t.may named:=fun t aG=>zl N t (by have:=zE (t:=.mk k n a s l) (u:=t) aG;omega) (by omega);cases aD:qO k with
   | none=>
     rw [aL.lR,aL.may,aD,anc aD];simp
   | some r=>
     have hm:=MD (l:=xy) aD;by_cases Sq:k=46
     . subst Sq;have:r={s:=1,first:=[9]}:=by
        have:qO 46=some {s:=1,first:=[9]}:=by rfl
        rw [aD] at this;exact asK this
       subst this;rw [aL.lR,aL.may,aD];simp only;have aJ:vo named 46 s=z6 named 1 s:=by rfl
       have aR:qN 46 n l.length=(decide (0<=n)&&decide (n<=0)):=by rw [ass];simp [qN];omega
       unfold BJ;rw [aJ,aR,asm (show hW 46≠0 by decide)]
       match l,aY with
       | [],_=>simp [lf,k4,gZ,firstM]
       | [t],aY=>
         have aF:oz {s:=1,first:=[9]} 46 n [t].length=[9]:=by simp [oz,firstM,gZ]
         have wE:lf 46 n [t]=([3],decide (t.k=27)):=by simp [lf,R2]
         rw [aF,wE,na,nS,na,nS,aY t (by simp)];have c':k4 {s:=1,first:=[9]} 46 n [t].length=true:=by simp [k4,gZ,firstM]
         rw [c'];have aw:u0 t.k 9=decide (t.k=27):=by simp [u0]
         rw [aw];by_cases Bu:t.k=27
         . rw [asm Bu];have:vn t.k 3=true:=by rw [Bu];decide
           rw [this];have:∀x y z w u v:Bool,(true&&x&&(y&&z)&&w&&u&&true&&(true&&v&&true))=(y&&z&&w&&u&&x&&true&&(true&&v&&true)):=by decide
           apply this
         . rw [asp Bu];simp
       | t::u::l,_=>
         have aa:(lf 46 n (t::u::l)).2=false:=by simp [lf]
         have ad:k4 {s:=1,first:=[9]} 46 n (t::u::l).length=false:=by simp [k4,gZ,firstM]
         rw [aa,ad];simp
     . simp only [xy,arM,asi,List.not_mem_nil,or_false] at hm;rcases hm with h | h | h | h | h | h | h | h | h | h | h | h | h | h | h | h | h | h | h | h | h | h | h | h | h | h | h | h | h | h | h | h | h | h | h | h | h | h<;>
       obtain ⟨rfl,rfl⟩:=h<;>first | (exact absurd rfl Sq) | skip
       all_goals
        refine akE (by decide) aY aD (by rfl) ?_ ?_ ?_
        . rw [ass];simp [qN,lf,k4,gZ,firstM]
          try omega
        . intro c' eA;simp [lf,k4,gZ,firstM,oz] at c' eA ⊢
          try omega
        . simp [oz,firstM,gZ]
          try (intro g aF;omega)
end
end
end Go.Proofs.YtgmhjhgoamjeeaaGreatDoor
