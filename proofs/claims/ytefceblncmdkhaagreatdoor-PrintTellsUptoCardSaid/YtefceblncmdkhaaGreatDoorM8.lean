/- The chapter's functions, walked by the abstract machine: plain lemmas, no condition. Printed by a program from longer texts: names made short. -/
import Derived.Test.YtefceblncmdkhaaGreatDoorM6
import Derived.Test.YtefceblncmdkhaaGreatDoorM7
import Derived.Shelf.Unicode.Decode
import Derived.Shelf.Unicode.DecodeSlow
import Derived.Shelf.Unicode.DecodeAny
import Derived.Shelf.Strconv.Atoi
import Derived.Shelf.Pu.ParseUintPublic10
import Derived.Lib.LaidU8T
import Derived.Lib.ItoaLen
set_option linter.unusedSectionVars false
set_option linter.unusedSimpArgs false
set_option linter.unusedVariables false
set_option maxHeartbeats 64000000
noncomputable section
namespace Go.Proofs.YtefceblncmdkhaaGreatDoor
section
open Go bb
theorem aaM:Extern.findNext Tryz.f138=none:=by kernel_rfl
theorem aaL:(Extern.find Tryz.f138)=some Extern.BytealgIndexByte.indexByte:=by kernel_rfl
theorem adU (s:List UInt8) (c:Int) (h:ah):ff Tryz.prog 138 [.str s,.int .u8 c] h (.int .i64 (Lib.indexByte s c.toNat.toUInt8)) h:=
 adX (by decide) Tryz.func138 (by kernel_rfl) (by kernel_rfl) aaM aaL s c h
theorem adT (s:List UInt8) (c:Int) (h:ah):ff Tryz.prog 124 [.str s,.int .u8 c] h (.int .i64 (Lib.indexByte s c.toNat.toUInt8)) h:=by refine mm (XA.z rfl (ck ?_));unfold MZ;simp only [↓aa,ae,simprocAttr];refine ey (adU _ _ _) ?_;simp only [↓aa,ae,simprocAttr]
theorem RC (s:List UInt8) (c:Int) (h:ah):ff Tryz.prog 134 [.str s,.int .u8 c] h (.int .i64 (Lib.indexByte s c.toNat.toUInt8)) h:=by refine mm (XD.z rfl (ck ?_));unfold M5;simp only [↓aa,ae,simprocAttr];refine ey (adT _ _ _) ?_;simp only [↓aa,ae,simprocAttr]
end
section
open Go Go.Shelf
def Tryz.agQ:Go.Shelf.Ren:=⟨fun | 197=>142 | 260=>147 | n=>n,fun | 9=>9 | 21=>21 | 3=>3 | 4=>4 | 5=>5 | 105=>151 | 119=>160 | 0=>0 | 46=>112 | 139=>163 | 138=>162 | n=>n,fun | 3=>4 | 4=>5 | n=>n⟩
theorem Tryz.agP:Go.Proofs.Lays.n197 Tryz.prog Tryz.agQ:={
 mixed:=by kernel_rfl,
 f197:=Tryz.func142.trans (congrArg some (by kernel_rfl)),
 f260:=Tryz.func147.trans (congrArg some (by kernel_rfl)),
 t0:=Tryz.underlying0,
 a0:=Tryz.isAgg0,
 z0:=Tryz.sizeOf0,
 v0:=Tryz.zeroValue0,
 t3:=Tryz.underlying3,
 a3:=Tryz.isAgg3,
 z3:=Tryz.sizeOf3,
 v3:=Tryz.zeroValue3,
 t4:=Tryz.underlying4,
 a4:=Tryz.isAgg4,
 z4:=Tryz.sizeOf4,
 v4:=Tryz.zeroValue4,
 t5:=Tryz.underlying5,
 a5:=Tryz.isAgg5,
 z5:=Tryz.sizeOf5,
 v5:=Tryz.zeroValue5,
 t9:=Tryz.underlying9,
 a9:=Tryz.isAgg9,
 z9:=Tryz.sizeOf9,
 v9:=Tryz.zeroValue9,
 t21:=Tryz.underlying21,
 a21:=Tryz.isAgg21,
 z21:=Tryz.sizeOf21,
 v21:=Tryz.zeroValue21,
 t46:=Tryz.underlying112,
 a46:=Tryz.isAgg112,
 z46:=Tryz.sizeOf112,
 v46:=Tryz.zeroValue112,
 t105:=Tryz.underlying151,
 a105:=Tryz.isAgg151,
 z105:=Tryz.sizeOf151,
 v105:=Tryz.zeroValue151,
 t119:=Tryz.underlying160,
 a119:=Tryz.isAgg160,
 z119:=Tryz.sizeOf160,
 t138:=Tryz.underlying162,
 a138:=Tryz.isAgg162,
 z138:=Tryz.sizeOf162,
 v138:=Tryz.zeroValue162,
 t139:=Tryz.underlying163,
 a139:=Tryz.isAgg163,
 z139:=Tryz.sizeOf163,
 v139:=Tryz.zeroValue163,
 g3:=by kernel_rfl,
 g4:=by kernel_rfl}
def Tryz.agO:Go.Shelf.Ren:=⟨fun | 172=>154 | 244=>161 | 245=>153 | 247=>164 | 279=>157 | 280=>158 | 281=>159 | 282=>160 | 287=>152 | 316=>162 | 171=>29 | 205=>163 | 321=>155 | 322=>156 | 243=>55 | 246=>93 | 283=>114 | 284=>115 | 285=>116 | 286=>117 | 129=>129 | 317=>128 | 318=>130 | 319=>131 | 320=>132 | 337=>140 | 338=>141 | n=>n,fun | 9=>9 | 3=>3 | 75=>84 | 76=>85 | 4=>4 | 5=>5 | 167=>165 | 37=>58 | 0=>0 | 85=>173 | 2=>2 | 168=>167 | 53=>121 | 175=>156 | 46=>112 | 210=>171 | 127=>110 | 145=>177 | 143=>175 | 21=>21 | 171=>120 | 173=>124 | 212=>141 | 51=>134 | 20=>20 | 213=>142 | 232=>154 | 233=>155 | 80=>87 | n=>n,fun | 15=>6 | 16=>7 | 17=>1 | 18=>2 | 19=>3 | n=>n⟩
theorem Tryz.agN:Go.Proofs.Lays.n172 Tryz.prog Tryz.agO:={
 mixed:=by kernel_rfl,
 f129:=Tryz.func129.trans (congrArg some (by kernel_rfl)),
 f171:=Tryz.func29.trans (congrArg some (by kernel_rfl)),
 f172:=Tryz.func154.trans (congrArg some (by kernel_rfl)),
 f205:=Tryz.func163.trans (congrArg some (by kernel_rfl)),
 f243:=Tryz.func55.trans (congrArg some (by kernel_rfl)),
 f244:=Tryz.func161.trans (congrArg some (by kernel_rfl)),
 f245:=Tryz.func153.trans (congrArg some (by kernel_rfl)),
 f246:=Tryz.func93.trans (congrArg some (by kernel_rfl)),
 f247:=Tryz.func164.trans (congrArg some (by kernel_rfl)),
 f279:=Tryz.func157.trans (congrArg some (by kernel_rfl)),
 f280:=Tryz.func158.trans (congrArg some (by kernel_rfl)),
 f281:=Tryz.func159.trans (congrArg some (by kernel_rfl)),
 f282:=Tryz.func160.trans (congrArg some (by kernel_rfl)),
 f283:=Tryz.func114.trans (congrArg some (by kernel_rfl)),
 f284:=Tryz.func115.trans (congrArg some (by kernel_rfl)),
 f285:=Tryz.func116.trans (congrArg some (by kernel_rfl)),
 f286:=Tryz.func117.trans (congrArg some (by kernel_rfl)),
 f287:=Tryz.func152.trans (congrArg some (by kernel_rfl)),
 f316:=Tryz.func162.trans (congrArg some (by kernel_rfl)),
 f317:=Tryz.func128.trans (congrArg some (by kernel_rfl)),
 f318:=Tryz.func130.trans (congrArg some (by kernel_rfl)),
 f319:=Tryz.func131.trans (congrArg some (by kernel_rfl)),
 f320:=Tryz.func132.trans (congrArg some (by kernel_rfl)),
 f321:=Tryz.func155.trans (congrArg some (by kernel_rfl)),
 f322:=Tryz.func156.trans (congrArg some (by kernel_rfl)),
 f337:=Tryz.func140.trans (congrArg some (by kernel_rfl)),
 f338:=Tryz.func141.trans (congrArg some (by kernel_rfl)),
 t0:=Tryz.underlying0,
 a0:=Tryz.isAgg0,
 z0:=Tryz.sizeOf0,
 v0:=Tryz.zeroValue0,
 t2:=Tryz.underlying2,
 a2:=Tryz.isAgg2,
 z2:=Tryz.sizeOf2,
 v2:=Tryz.zeroValue2,
 t3:=Tryz.underlying3,
 a3:=Tryz.isAgg3,
 z3:=Tryz.sizeOf3,
 v3:=Tryz.zeroValue3,
 t4:=Tryz.underlying4,
 a4:=Tryz.isAgg4,
 z4:=Tryz.sizeOf4,
 v4:=Tryz.zeroValue4,
 t5:=Tryz.underlying5,
 a5:=Tryz.isAgg5,
 z5:=Tryz.sizeOf5,
 v5:=Tryz.zeroValue5,
 t9:=Tryz.underlying9,
 a9:=Tryz.isAgg9,
 z9:=Tryz.sizeOf9,
 v9:=Tryz.zeroValue9,
 t20:=Tryz.underlying20,
 a20:=Tryz.isAgg20,
 z20:=Tryz.sizeOf20,
 v20:=Tryz.zeroValue20,
 t21:=Tryz.underlying21,
 a21:=Tryz.isAgg21,
 z21:=Tryz.sizeOf21,
 v21:=Tryz.zeroValue21,
 t37:=Tryz.underlying58,
 a37:=Tryz.isAgg58,
 z37:=Tryz.sizeOf58,
 v37:=Tryz.zeroValue58,
 t46:=Tryz.underlying112,
 a46:=Tryz.isAgg112,
 z46:=Tryz.sizeOf112,
 v46:=Tryz.zeroValue112,
 t51:=Tryz.underlying134,
 a51:=Tryz.isAgg134,
 z51:=Tryz.sizeOf134,
 v51:=Tryz.zeroValue134,
 t53:=Tryz.underlying121,
 a53:=Tryz.isAgg121,
 z53:=Tryz.sizeOf121,
 v53:=Tryz.zeroValue121,
 t75:=Tryz.underlying84,
 a75:=Tryz.isAgg84,
 z75:=Tryz.sizeOf84,
 v75:=Tryz.zeroValue84,
 t76:=Tryz.underlying85,
 a76:=Tryz.isAgg85,
 z76:=Tryz.sizeOf85,
 v76:=Tryz.zeroValue85,
 t85:=Tryz.underlying173,
 a85:=Tryz.isAgg173,
 z85:=Tryz.sizeOf173,
 v85:=Tryz.zeroValue173,
 t127:=Tryz.underlying110,
 a127:=Tryz.isAgg110,
 z127:=Tryz.sizeOf110,
 v127:=Tryz.zeroValue110,
 t143:=Tryz.underlying175,
 a143:=Tryz.isAgg175,
 z143:=Tryz.sizeOf175,
 v143:=Tryz.zeroValue175,
 t145:=Tryz.underlying177,
 a145:=Tryz.isAgg177,
 z145:=Tryz.sizeOf177,
 v145:=Tryz.zeroValue177,
 t167:=Tryz.underlying165,
 a167:=Tryz.isAgg165,
 z167:=Tryz.sizeOf165,
 v167:=Tryz.zeroValue165,
 t168:=Tryz.underlying167,
 a168:=Tryz.isAgg167,
 z168:=Tryz.sizeOf167,
 v168:=Tryz.zeroValue167,
 t171:=Tryz.underlying120,
 a171:=Tryz.isAgg120,
 z171:=Tryz.sizeOf120,
 v171:=Tryz.zeroValue120,
 t173:=Tryz.underlying124,
 a173:=Tryz.isAgg124,
 z173:=Tryz.sizeOf124,
 v173:=Tryz.zeroValue124,
 t175:=Tryz.underlying156,
 a175:=Tryz.isAgg156,
 z175:=Tryz.sizeOf156,
 v175:=Tryz.zeroValue156,
 t210:=Tryz.underlying171,
 a210:=Tryz.isAgg171,
 z210:=Tryz.sizeOf171,
 v210:=Tryz.zeroValue171,
 t212:=Tryz.underlying141,
 a212:=Tryz.isAgg141,
 z212:=Tryz.sizeOf141,
 v212:=Tryz.zeroValue141,
 t213:=Tryz.underlying142,
 a213:=Tryz.isAgg142,
 z213:=Tryz.sizeOf142,
 t232:=Tryz.underlying154,
 a232:=Tryz.isAgg154,
 z232:=Tryz.sizeOf154,
 v232:=Tryz.zeroValue154,
 t233:=Tryz.underlying155,
 a233:=Tryz.isAgg155,
 z233:=Tryz.sizeOf155,
 v233:=Tryz.zeroValue155,
 g15:=by kernel_rfl,
 g16:=by kernel_rfl,
 g17:=by kernel_rfl,
 g18:=by kernel_rfl,
 g19:=by kernel_rfl}
def Tryz.JW:Go.Shelf.Ren:=⟨fun | 14=>149 | 16=>152 | 17=>153 | 19=>155 | 20=>156 | 21=>157 | 22=>158 | 23=>159 | 24=>160 | 25=>162 | 27=>29 | 26=>163 | 28=>55 | 29=>93 | 30=>114 | 31=>115 | 32=>116 | 33=>117 | 35=>129 | 34=>128 | 36=>130 | 37=>131 | 38=>132 | 39=>140 | 40=>141 | n=>n,fun | 9=>9 | 3=>3 | 22=>121 | 24=>84 | 25=>156 | 4=>4 | 34=>165 | 5=>5 | 36=>112 | 37=>58 | 0=>0 | 39=>167 | 21=>21 | 44=>171 | 47=>110 | 50=>177 | 48=>175 | 2=>2 | 52=>120 | 55=>124 | 59=>141 | 60=>134 | 20=>20 | 61=>142 | 65=>154 | 66=>155 | 67=>87 | n=>n,fun | 0=>6 | 1=>7 | 2=>1 | 3=>2 | 4=>3 | n=>n⟩
theorem Tryz.R8:Go.Proofs.LaysPu.n14 Tryz.prog Tryz.JW:={
 mixed:=by kernel_rfl,
 f14:=Tryz.func149.trans (congrArg some (by kernel_rfl)),
 f16:=Tryz.func152.trans (congrArg some (by kernel_rfl)),
 f17:=Tryz.func153.trans (congrArg some (by kernel_rfl)),
 f19:=Tryz.func155.trans (congrArg some (by kernel_rfl)),
 f20:=Tryz.func156.trans (congrArg some (by kernel_rfl)),
 f21:=Tryz.func157.trans (congrArg some (by kernel_rfl)),
 f22:=Tryz.func158.trans (congrArg some (by kernel_rfl)),
 f23:=Tryz.func159.trans (congrArg some (by kernel_rfl)),
 f24:=Tryz.func160.trans (congrArg some (by kernel_rfl)),
 f25:=Tryz.func162.trans (congrArg some (by kernel_rfl)),
 f26:=Tryz.func163.trans (congrArg some (by kernel_rfl)),
 f27:=Tryz.func29.trans (congrArg some (by kernel_rfl)),
 f28:=Tryz.func55.trans (congrArg some (by kernel_rfl)),
 f29:=Tryz.func93.trans (congrArg some (by kernel_rfl)),
 f30:=Tryz.func114.trans (congrArg some (by kernel_rfl)),
 f31:=Tryz.func115.trans (congrArg some (by kernel_rfl)),
 f32:=Tryz.func116.trans (congrArg some (by kernel_rfl)),
 f33:=Tryz.func117.trans (congrArg some (by kernel_rfl)),
 f34:=Tryz.func128.trans (congrArg some (by kernel_rfl)),
 f35:=Tryz.func129.trans (congrArg some (by kernel_rfl)),
 f36:=Tryz.func130.trans (congrArg some (by kernel_rfl)),
 f37:=Tryz.func131.trans (congrArg some (by kernel_rfl)),
 f38:=Tryz.func132.trans (congrArg some (by kernel_rfl)),
 f39:=Tryz.func140.trans (congrArg some (by kernel_rfl)),
 f40:=Tryz.func141.trans (congrArg some (by kernel_rfl)),
 t0:=Tryz.underlying0,
 a0:=Tryz.isAgg0,
 z0:=Tryz.sizeOf0,
 v0:=Tryz.zeroValue0,
 i0:=by kernel_rfl,
 t2:=Tryz.underlying2,
 a2:=Tryz.isAgg2,
 z2:=Tryz.sizeOf2,
 v2:=Tryz.zeroValue2,
 i2:=by kernel_rfl,
 t3:=Tryz.underlying3,
 a3:=Tryz.isAgg3,
 z3:=Tryz.sizeOf3,
 v3:=Tryz.zeroValue3,
 i3:=by kernel_rfl,
 t4:=Tryz.underlying4,
 a4:=Tryz.isAgg4,
 z4:=Tryz.sizeOf4,
 v4:=Tryz.zeroValue4,
 i4:=by kernel_rfl,
 t5:=Tryz.underlying5,
 a5:=Tryz.isAgg5,
 z5:=Tryz.sizeOf5,
 v5:=Tryz.zeroValue5,
 i5:=by kernel_rfl,
 t9:=Tryz.underlying9,
 a9:=Tryz.isAgg9,
 z9:=Tryz.sizeOf9,
 v9:=Tryz.zeroValue9,
 i9:=by kernel_rfl,
 t20:=Tryz.underlying20,
 a20:=Tryz.isAgg20,
 z20:=Tryz.sizeOf20,
 v20:=Tryz.zeroValue20,
 i20:=by kernel_rfl,
 t21:=Tryz.underlying21,
 a21:=Tryz.isAgg21,
 z21:=Tryz.sizeOf21,
 v21:=Tryz.zeroValue21,
 i21:=by kernel_rfl,
 t22:=Tryz.underlying121,
 a22:=Tryz.isAgg121,
 z22:=Tryz.sizeOf121,
 v22:=Tryz.zeroValue121,
 i22:=by kernel_rfl,
 t24:=Tryz.underlying84,
 a24:=Tryz.isAgg84,
 z24:=Tryz.sizeOf84,
 v24:=Tryz.zeroValue84,
 i24:=by kernel_rfl,
 t25:=Tryz.underlying156,
 a25:=Tryz.isAgg156,
 z25:=Tryz.sizeOf156,
 v25:=Tryz.zeroValue156,
 i25:=by kernel_rfl,
 t34:=Tryz.underlying165,
 a34:=Tryz.isAgg165,
 z34:=Tryz.sizeOf165,
 v34:=Tryz.zeroValue165,
 i34:=by kernel_rfl,
 c34:=by kernel_rfl,
 t36:=Tryz.underlying112,
 a36:=Tryz.isAgg112,
 z36:=Tryz.sizeOf112,
 v36:=Tryz.zeroValue112,
 i36:=by kernel_rfl,
 t37:=Tryz.underlying58,
 a37:=Tryz.isAgg58,
 z37:=Tryz.sizeOf58,
 v37:=Tryz.zeroValue58,
 i37:=by kernel_rfl,
 t39:=Tryz.underlying167,
 a39:=Tryz.isAgg167,
 z39:=Tryz.sizeOf167,
 v39:=Tryz.zeroValue167,
 i39:=by kernel_rfl,
 t44:=Tryz.underlying171,
 a44:=Tryz.isAgg171,
 z44:=Tryz.sizeOf171,
 v44:=Tryz.zeroValue171,
 i44:=by kernel_rfl,
 t47:=Tryz.underlying110,
 a47:=Tryz.isAgg110,
 z47:=Tryz.sizeOf110,
 v47:=Tryz.zeroValue110,
 i47:=by kernel_rfl,
 t48:=Tryz.underlying175,
 a48:=Tryz.isAgg175,
 z48:=Tryz.sizeOf175,
 v48:=Tryz.zeroValue175,
 i48:=by kernel_rfl,
 t50:=Tryz.underlying177,
 a50:=Tryz.isAgg177,
 z50:=Tryz.sizeOf177,
 v50:=Tryz.zeroValue177,
 i50:=by kernel_rfl,
 t52:=Tryz.underlying120,
 a52:=Tryz.isAgg120,
 z52:=Tryz.sizeOf120,
 v52:=Tryz.zeroValue120,
 i52:=by kernel_rfl,
 t55:=Tryz.underlying124,
 a55:=Tryz.isAgg124,
 z55:=Tryz.sizeOf124,
 v55:=Tryz.zeroValue124,
 i55:=by kernel_rfl,
 t59:=Tryz.underlying141,
 a59:=Tryz.isAgg141,
 z59:=Tryz.sizeOf141,
 v59:=Tryz.zeroValue141,
 i59:=by kernel_rfl,
 t60:=Tryz.underlying134,
 a60:=Tryz.isAgg134,
 z60:=Tryz.sizeOf134,
 v60:=Tryz.zeroValue134,
 i60:=by kernel_rfl,
 t61:=Tryz.underlying142,
 a61:=Tryz.isAgg142,
 z61:=Tryz.sizeOf142,
 t65:=Tryz.underlying154,
 a65:=Tryz.isAgg154,
 z65:=Tryz.sizeOf154,
 v65:=Tryz.zeroValue154,
 i65:=by kernel_rfl,
 t66:=Tryz.underlying155,
 a66:=Tryz.isAgg155,
 z66:=Tryz.sizeOf155,
 v66:=Tryz.zeroValue155,
 i66:=by kernel_rfl,
 t67:=Tryz.underlying87,
 a67:=Tryz.isAgg87,
 z67:=Tryz.sizeOf87,
 v67:=Tryz.zeroValue87,
 i67:=by kernel_rfl,
 g0:=by kernel_rfl,
 m0:=by kernel_rfl,
 g1:=by kernel_rfl,
 m1:=by kernel_rfl,
 g2:=by kernel_rfl,
 m2:=by kernel_rfl,
 g3:=by kernel_rfl,
 m3:=by kernel_rfl,
 g4:=by kernel_rfl,
 m4:=by kernel_rfl}
def Tryz.B2:Go.Shelf.Ren:=⟨fun | 260=>147 | n=>n,fun | 9=>9 | 21=>21 | 3=>3 | 4=>4 | 5=>5 | 119=>160 | 0=>0 | 46=>112 | 139=>163 | 138=>162 | n=>n,fun | 3=>4 | 4=>5 | n=>n⟩
theorem Tryz.agR:Go.Proofs.Lays.n260 Tryz.prog Tryz.B2:={
 mixed:=by kernel_rfl,
 f260:=Tryz.func147.trans (congrArg some (by kernel_rfl)),
 t0:=Tryz.underlying0,
 a0:=Tryz.isAgg0,
 z0:=Tryz.sizeOf0,
 v0:=Tryz.zeroValue0,
 t3:=Tryz.underlying3,
 a3:=Tryz.isAgg3,
 z3:=Tryz.sizeOf3,
 v3:=Tryz.zeroValue3,
 t4:=Tryz.underlying4,
 a4:=Tryz.isAgg4,
 z4:=Tryz.sizeOf4,
 v4:=Tryz.zeroValue4,
 t5:=Tryz.underlying5,
 a5:=Tryz.isAgg5,
 z5:=Tryz.sizeOf5,
 v5:=Tryz.zeroValue5,
 t9:=Tryz.underlying9,
 a9:=Tryz.isAgg9,
 z9:=Tryz.sizeOf9,
 v9:=Tryz.zeroValue9,
 t21:=Tryz.underlying21,
 a21:=Tryz.isAgg21,
 z21:=Tryz.sizeOf21,
 v21:=Tryz.zeroValue21,
 t46:=Tryz.underlying112,
 a46:=Tryz.isAgg112,
 z46:=Tryz.sizeOf112,
 v46:=Tryz.zeroValue112,
 t119:=Tryz.underlying160,
 a119:=Tryz.isAgg160,
 z119:=Tryz.sizeOf160,
 t138:=Tryz.underlying162,
 a138:=Tryz.isAgg162,
 z138:=Tryz.sizeOf162,
 v138:=Tryz.zeroValue162,
 t139:=Tryz.underlying163,
 a139:=Tryz.isAgg163,
 z139:=Tryz.sizeOf163,
 v139:=Tryz.zeroValue163,
 g3:=by kernel_rfl,
 g4:=by kernel_rfl}
end
section
open Go bb Go.RowKit
section
open Go.Shelf
theorem Z1 (s:ByteArray) (w:World) (eu:Lib.Utf8Tabs 4 5 w):
 Calls Tryz.prog 142 #[.string s] w fun e w'=>e=.returned (.tuple #[.int .i32 (Lib.decodeGo s).1,.int .i64 (Lib.decodeGo s).2])/\Below w.heap.size w w':=Any.utf8_DecodeRuneInString Tryz.agP s w eu
theorem WT (s:ByteArray) (n:Int) (aw:s.size<=18) (h:Lib.atoi s.data.toList=some n) (w:World):
 Calls Tryz.prog 154 #[.string s] w fun e w'=>e=.returned (.tuple #[.int .i64 n,.nilIface])/\Below w.heap.size w w':=(Any.strconv_Atoi Tryz.agN s n aw h w).mono fun e w' q=>⟨q.1,by obtain ⟨t,rfl⟩:=q.2;exact Lib.bytesWorld_below _ _ _⟩
theorem aed (n:Int) (a6:-9223372036854775808<=n) (J:n<=9223372036854775807) (w:World)
 (adr:Lib.TabIs Tryz.prog w "internal/strconv.uint64pow10" .u64 Lib.pow10Tab):
 Calls Tryz.prog 29 #[.int .i64 n] w fun e w'=>e=.returned (.string ⟨(Lib.itoa n).toArray⟩)/\Below w.heap.size w w':=(Any.strconv_Itoa Tryz.R7 n a6 J w adr).mono fun e w' q=>⟨q.1,by obtain ⟨k,os,rfl⟩:=q.2;exact ⟨rfl,rfl,rfl,by show w.heap.size<=(w.heap++os).size;rw [Array.size_append];omega,fun j bI=>aoV bI⟩⟩
theorem aiV (s:ByteArray) (acR:s.size<=9223372036854775806) (u:Nat) (h:Lib.parseUintB 64 s.data.toList=.ok u) (w:World):
 Calls Tryz.prog 149 #[.string s,.int .i64 10,.int .i64 64] w fun e w'=>e=.returned (.tuple #[.int .u64 u,.nilIface])/\Below w.heap.size w w':=(Any.strconv_ParseUint_10_at64_ok Tryz.R8 s acR u h w).mono fun e w' q=>⟨q.1,by
  rcases q.2 with rfl | rfl
  . exact Below.refl _ _
  . exact Lib.bytesWorld_below _ _ _⟩
theorem aiX (s:ByteArray) (wj:s.size<=281474976710656) (h:Lib.parseUintB 64 s.data.toList=.range) (w:World) (he:xt w 7):
 Calls Tryz.prog 149 #[.string s,.int .i64 10,.int .i64 64] w fun e w'=>(∃p,e=.returned (.tuple #[.int .u64 18446744073709551615,.iface (Tryz.JW.t 39) p]))/\Below w.heap.size w w':=by
 obtain ⟨aV,J,ad⟩:=he;refine (Any.strconv_ParseUint_10_at64_range Tryz.R8 s wj h aV w J ad).mono fun e w' q=>?_;obtain ⟨N,aC,_,_,eo⟩:=q;exact ⟨⟨_,aC⟩,eo⟩
end
theorem y9 {f:FuncId} (bc:Nat.beq f dy=false) {args:List V} {v:V} {h:ah} (ig:∃fn,Tryz.prog.funcs[f]? =some fn/\fn.body.isSome=true) (H:∀E xs w,GO w->bm E args xs->Calls Tryz.prog f xs.toArray w fun e w'=>∃x,e=.returned x/\Rel E v x/\Below w.heap.size w w'):ff Tryz.prog f args h v h:=by refine ⟨fun e=>by subst e;simp at bc,.inl ⟨ig,fun aB E w xs ar s=>?_⟩⟩;refine (H E xs w (Lay.gw s.laid s.frame) ar).mono fun e w' q=>?_;obtain ⟨x,rfl,bB,aj⟩:=q;exact ⟨E,x,rfl,fun _ _ q=>q,bB,s.below aj⟩
theorem ZZ (s:List UInt8) (h:ah):ff Tryz.prog 142 [.str s] h (.tuple [.int .i32 (Lib.decodeGo ⟨⟨s⟩⟩).1,.int .i64 (Lib.decodeGo ⟨⟨s⟩⟩).2]) h:=by refine y9 (by decide) ⟨_,Tryz.func142,by kernel_rfl⟩ fun E xs w aw ar=>?_;obtain ⟨y,cT,rfl,ag,rfl⟩:=ar;simp only [Rel] at ag;subst ag;refine (Z1 ⟨⟨s⟩⟩ w aw.Vd).mono fun e w' q=>?_;obtain ⟨rfl,aj⟩:=q;refine ⟨_,rfl,?_,aj⟩;simp only [Rel];exact ⟨_,rfl,_,_,rfl,rfl,_,_,rfl,rfl,rfl⟩
theorem AR (s sub:List UInt8) (aL:s.length<=100000) (h:ah):ff Tryz.prog 52 [.str s,.str sub] h (.bool (Lib.contains s sub)) h:=by refine y9 (by decide) ⟨_,Tryz.func52,by kernel_rfl⟩ fun E xs w aw ar=>?_;obtain ⟨y,cT,rfl,ag,z,p0,rfl,av,rfl⟩:=ar;simp only [Rel] at ag av;subst ag av;obtain ⟨m,hm⟩:=aw.maxLen;refine (O0 ⟨⟨s⟩⟩ ⟨⟨sub⟩⟩ m w (by show s.length<4294967281;omega) hm).mono fun e w' q=>?_;obtain ⟨rfl,rfl⟩:=q;refine ⟨_,rfl,?_,Below.refl _ _⟩;simp only [Rel]
theorem WS (s:List UInt8) (n:Int) (aw:s.length<=18) (h:Lib.atoi s=some n) (ak:ah):ff Tryz.prog 154 [.str s] ak (.tuple [.int .i64 n,.nilIface]) ak:=by refine y9 (by decide) ⟨_,Tryz.func154,by kernel_rfl⟩ fun E xs w sz ar=>?_;obtain ⟨y,cT,rfl,ag,rfl⟩:=ar;simp only [Rel] at ag;subst ag;refine (WT ⟨⟨s⟩⟩ n aw h w).mono fun e w' q=>?_;obtain ⟨rfl,aj⟩:=q;refine ⟨_,rfl,?_,aj⟩;simp only [Rel];exact ⟨_,rfl,_,_,rfl,rfl,_,_,rfl,rfl,rfl⟩
theorem aec (n:Int) (a6:-9223372036854775808<=n) (J:n<=9223372036854775807) (ak:ah):ff Tryz.prog 29 [.int .i64 n] ak (.str (Lib.itoa n)) ak:=by refine y9 (by decide) ⟨_,Tryz.func29,by kernel_rfl⟩ fun E xs w sz ar=>?_;obtain ⟨y,cT,rfl,ag,rfl⟩:=ar;simp only [Rel] at ag;subst ag;refine (aed n a6 J w sz.FC).mono fun e w' q=>?_;obtain ⟨rfl,aj⟩:=q;refine ⟨_,rfl,?_,aj⟩;simp only [Rel]
theorem aiU (s:List UInt8) (u:Nat) (aw:s.length<=100000) (h:Lib.parseUintB 64 s=.ok u) (ak:ah):ff Tryz.prog 149 [.str s,.int .i64 10,.int .i64 64] ak (.tuple [.int .u64 u,.nilIface]) ak:=by refine y9 (by decide) ⟨_,Tryz.func149,by kernel_rfl⟩ fun E xs w sz ar=>?_;obtain ⟨y,cT,rfl,ag,z,p0,rfl,av,t,c2,rfl,aJ,rfl⟩:=ar;simp only [Rel] at ag av aJ;subst ag av aJ;refine (aiV ⟨⟨s⟩⟩ (by show s.length<=9223372036854775806;omega) u h w).mono fun e w' q=>?_;obtain ⟨rfl,aj⟩:=q;refine ⟨_,rfl,?_,aj⟩;simp only [Rel];exact ⟨_,rfl,_,_,rfl,rfl,_,_,rfl,rfl,rfl⟩
def aaq:TypeId:=Tryz.JW.t 39
theorem aiW (s:List UInt8) (aw:s.length<=100000) (h:Lib.parseUintB 64 s=.range) (ak:ah):ff Tryz.prog 149 [.str s,.int .i64 10,.int .i64 64] ak (.tuple [.int .u64 18446744073709551615,.iface aaq .bad]) ak:=by refine y9 (by decide) ⟨_,Tryz.func149,by kernel_rfl⟩ fun E xs w sz ar=>?_;obtain ⟨y,cT,rfl,ag,z,p0,rfl,av,t,c2,rfl,aJ,rfl⟩:=ar;simp only [Rel] at ag av aJ;subst ag av aJ;refine (aiX ⟨⟨s⟩⟩ (by show s.length<=281474976710656;omega) h w sz.PJ).mono fun e w' q=>?_;obtain ⟨⟨p,rfl⟩,aj⟩:=q;refine ⟨_,rfl,?_,aj⟩;simp only [Rel];exact ⟨_,rfl,_,_,rfl,rfl,_,_,rfl,⟨p,rfl,trivial⟩,rfl⟩
end
section
open Go bb
def nX (s:List UInt8) (i:Nat):Nat:=if decodeL s i=(65533,1) then 0 else (decodeL s i).2
def s7:Nat->List UInt8->Nat->Nat
 | 0,s,_=>s.length
 | f+1,s,a=>if a<s.length then (if nX s a=0 then a else s7 f s (a+nX s a)) else s.length
def rV (s:List UInt8) (a:Nat):Nat:=s7 (s.length-a) s a
def uR (s:List UInt8):Nat:=rV s 0
theorem Uf (s:List UInt8):∀(f g a:Nat),s.length-a<=f->s.length-a<=g->s7 f s a=s7 g s a
 | 0,g,a,J,ad=>by
   cases g with
   | zero=>rfl
   | succ g=>simp only [s7];rw [anE (by omega)]
 | f+1,0,a,J,ad=>by simp only [s7];rw [anE (by omega)]
 | f+1,g+1,a,J,ad=>by
   simp only [s7];by_cases bF:a<s.length
   . rw [anL bF,anL bF];by_cases ao:nX s a=0
     . rw [anL ao,anL ao]
     . rw [anE ao,anE ao];exact Uf s f g _ (by omega) (by omega)
   . rw [anE bF,anE bF]
theorem Ue {s:List UInt8} {a:Nat} (h:s.length<=a):rV s a=s.length:=by unfold rV;rw [show s.length-a=0 from by omega];rfl
theorem ajJ {s:List UInt8} {a:Nat} (h:a<s.length) (ao:nX s a=0):rV s a=a:=by unfold rV;rw [show s.length-a=s.length-a-1+1 from by omega,s7,anL h,anL ao]
theorem K0 {s:List UInt8} {a:Nat} (h:a<s.length) (ao:nX s a≠0):rV s a=rV s (a+nX s a):=by unfold rV;rw [show s.length-a=s.length-a-1+1 from by omega,s7,anL h,anE ao];exact Uf s _ _ _ (by omega) (by omega)
def fX (c:UInt8):Bool:=nY c.toNat
def fF (c:UInt8):Bool:=rO c.toNat
def j6 (l:List UInt8):Nat:=l.foldl (fun n c=>10 * n + (c.toNat-48)) 0
abbrev ts:=Except Int (Int × Int × List UInt8 × Nat)
def zj (r:List UInt8):ts:=
 let t:=r.takeWhile fX
 if 2147483647<j6 t then .error 254 else .ok (1,(if 1073741823 < (j6 t:Int) then (j6 t:Int)-2147483648 else j6 t),[],t.length)
def qf:List UInt8->Option (UInt8 × Nat)
 | []=>none
 | c::r=>if c=110 then some (10,1) else if c=116 then some (9,1) else if c=34 then some (34,1) else if c=92 then some (92,1) else
   if 2<=r.length/\fX c/\fX (r[0]?.getD 0)/\fX (r[1]?.getD 0)/\j6 (c::r.take 2)<256 then some ((j6 (c::r.take 2)).toUInt8,3) else none
def xi:Nat->List UInt8->Option (List UInt8 × Nat)
 | 0,_=>none
 | _+1,[]=>none
 | f+1,c::r=>if c=34 then some ([],1) else if c=92 then (match qf r with
    | none=>none
    | some (b,n)=>(xi f (r.drop n)).map fun q=>(b::q.1,q.2+n+1))
   else if c<32\/c=127 then none else (xi f r).map fun q=>(c::q.1,q.2+1)
def qT (r:List UInt8):Option (List UInt8 × Nat):=xi r.length r
def td (r:List UInt8):ts:=
 match qT r with
 | none=>.error 252
 | some (b,n)=>if 4096<b.length then .error 255 else .ok (2,0,b,n+1)
def iR:List (List UInt8):=[[97,110,100],[98,101,103,105,110],[101,108,115,101],[101,110,100],[101,120,99,101,112,116,105,111,110],[102,97,108,115,101],[102,117,110],[105,102],[105,110],[108,101,116],[109,97,116,99,104],[109,111,100],[111,102],[114,97,105,115,101],[114,101,99],[116,104,101,110],[116,114,117,101],[116,114,121],[116,121,112,101],[119,105,116,104]]
def gK:List (List UInt8):=[[59,59],[58,61],[45,62],[60,61],[59],[40],[41],[44],[61],[60],[43],[45],[42],[47],[124],[33],[95]]
def hr (t:List UInt8):Bool:=iR.contains t
def kY (kind:Int) (r:List UInt8):ts:=
 let t:=r.takeWhile fF
 if kind=3/\t=[95] then .ok (7,0,t,t.length) else if kind=3/\hr t then .ok (6,0,t,t.length) else if 64<t.length then .error 255 else .ok (kind,0,t,t.length)
def zC (r:List UInt8):ts:=
 match gK.find? (·.isPrefixOf r) with
 | some t=>.ok (7,0,t,t.length)
 | none=>.error 251
def lg:List UInt8->Bool
 | d::_=>hg d.toNat
 | []=>false
def hD:List UInt8->ts
 | []=>.error 0
 | c::r=>if fX c then zj (c::r) else if c=34 then td r else if hg c.toNat||c=95 then kY 3 (c::r) else if n2 c.toNat then kY 4 (c::r) else
   if c=39/\lg r then (kY 5 r).map fun q=>(q.1,q.2.1,q.2.2.1,q.2.2.2+1) else zC (c::r)
structure cd where
 kind:Int
 num:Int
 pos:Nat
 text:List UInt8
deriving DecidableEq
def blank (c:UInt8):Bool:=c=9||c=10||c=13||c=32
def AQ (w:cd):Except (Int × Nat) (List cd)->Except (Int × Nat) (List cd)
 | .ok ws=>.ok (w::ws)
 | .error e=>.error e
def oq:Nat->List UInt8->Nat->Except (Int × Nat) (List cd)
 | 0,_,_=>.ok []
 | _+1,[],_=>.ok []
 | f+1,c::r,p=>if blank c then oq f r (p+1) else if ([40,42]:List UInt8).isPrefixOf (c::r) then (match jm (c::r) 0 with
    | none=>.error (253,p)
    | some n=>oq f ((c::r).drop n) (p+n))
   else match hD (c::r) with
    | .error e=>.error (e,p)
    | .ok q=>AQ ⟨q.1,q.2.1,p,q.2.2.1⟩ (oq f ((c::r).drop q.2.2.2) (p+q.2.2.2))
def rP (r:List UInt8) (p:Nat):Except (Int × Nat) (List cd):=oq r.length r p
def mc (s:List UInt8):Except (Int × Nat) (List cd):=
 if 65536<s.length then .error (3,0) else if uR s<s.length then .error (250,uR s) else rP s 0
theorem Ld {p:UInt8->Bool} {c:UInt8} {r:List UInt8} (h:p c=true):1<=((c::r).takeWhile p).length:=by simp only [ao0,h,an7,anz];omega
theorem akj {t:List UInt8} (h:t ∈ gK):1<=t.length:=by revert t;decide
theorem K7 {c:UInt8} (h:hg c.toNat=true):fF c=true:=by unfold fF rO;rw [h];simp
theorem Qf {c:UInt8} (h:n2 c.toNat=true):fF c=true:=by unfold fF rO;rw [h];simp
theorem U8 {c:UInt8} (h:c=95):fF c=true:=by subst h;decide
theorem SQ {k:Int} {r:List UInt8} {q:Int × Int × List UInt8 × Nat} (h:kY k r=.ok q):q.2.2.2=(r.takeWhile fF).length:=by
 unfold kY at h;simp only at h
 split at h
 . cases h;rfl
 . split at h
   . cases h;rfl
   . split at h
     . cases h
     . cases h;rfl
theorem Kg {r:List UInt8} {q:Int × Int × List UInt8 × Nat} (h:hD r=.ok q):1<=q.2.2.2:=by
 match r,h with
 | c::r,h=>
   simp only [hD] at h
   split at h
   . rename_i aZ;unfold zj at h;simp only at h
     split at h
     . cases h
     . cases h;exact Ld aZ
   . split at h
     . unfold td at h
       split at h
       . cases h
       . split at h
         . cases h
         . cases h;simp only;omega
     . split at h
       . rename_i aL;rw [SQ h];simp only [aoR,anM] at aL;exact Ld (aL.elim K7 U8)
       . split at h
         . rename_i aL;rw [SQ h];exact Ld (Qf aL)
         . split at h
           . cases aX:kY 5 r with
             | error e=>rw [aX] at h;cases h
             | ok fH=>rw [aX] at h;cases h;simp only;omega
           . unfold zC at h
             split at h
             . rename_i t aE;cases h;exact akj (List.mem_of_find?_eq_some aE)
             . cases h
theorem Fi:∀{r:List UInt8} {d:Int} {n:Nat},jm r d=some n->2<=n
 | [],d,n,h=>by simp [jm] at h
 | [_],d,n,h=>by simp [jm] at h
 | x::y::r,d,n,h=>by
   rw [jm] at h
   split at h
   . cases aq:jm r (d+1) with
     | none=>rw [aq] at h;cases h
     | some m=>rw [aq] at h;cases h;simp only;omega
   . split at h
     . split at h
       . cases h;omega
       . cases aq:jm r (d-1) with
         | none=>rw [aq] at h;cases h
         | some m=>rw [aq] at h;cases h;simp only;omega
     . cases aq:jm (y::r) d with
       | none=>rw [aq] at h;cases h
       | some m=>rw [aq] at h;cases h;have:=Fi aq;simp only;omega
theorem B8:∀(f g:Nat) (r:List UInt8) (p:Nat),r.length<=f->r.length<=g->oq f r p=oq g r p
 | 0,g,r,p,J,ad=>by have:r=[]:=ape.1 (by omega);subst this;cases g<;>rfl
 | f+1,0,r,p,J,ad=>by have:r=[]:=ape.1 (by omega);subst this;rfl
 | f+1,g+1,[],p,J,ad=>rfl
 | f+1,g+1,c::r,p,J,ad=>by
   simp only [anz] at J ad;simp only [oq]
   split
   . exact B8 f g _ _ (by omega) (by omega)
   . split
     . split
       . rfl
       . rename_i n aX;have:=Fi aX;exact B8 f g _ _ (by rw [an1,anz];omega) (by rw [an1,anz];omega)
     . split
       . rfl
       . rename_i q aq;have:=Kg aq;rw [B8 f g _ _ (by rw [an1,anz];omega) (by rw [an1,anz];omega)]
theorem Sr (c:UInt8) (r:List UInt8) (p:Nat):rP (c::r) p=if blank c then rP r (p+1) else if ([40,42]:List UInt8).isPrefixOf (c::r) then (match jm (c::r) 0 with
 | none=>.error (253,p)
 | some n=>rP ((c::r).drop n) (p+n))
 else match hD (c::r) with
  | .error e=>.error (e,p)
  | .ok q=>AQ ⟨q.1,q.2.1,p,q.2.2.1⟩ (rP ((c::r).drop q.2.2.2) (p+q.2.2.2)):=by
 unfold rP;simp only [anz,oq]
 split
 . rfl
 . split
   . split
     . rfl
     . rename_i n aX;have:=Fi aX;exact B8 _ _ _ _ (by rw [an1,anz];omega) (anD _)
   . split
     . rfl
     . rename_i q aq;have:=Kg aq;rw [B8 _ _ _ _ (by rw [an1,anz];omega) (anD _)]
theorem Lf:∀(f g:Nat) (r:List UInt8),r.length<=f->r.length<=g->xi f r=xi g r
 | 0,g,r,J,ad=>by have:r=[]:=ape.1 (by omega);subst this;cases g<;>rfl
 | f+1,0,r,J,ad=>by have:r=[]:=ape.1 (by omega);subst this;rfl
 | f+1,g+1,[],J,ad=>rfl
 | f+1,g+1,c::r,J,ad=>by
   simp only [anz] at J ad;simp only [xi]
   split
   . rfl
   . split
     . split
       . rfl
       . rw [Lf f g _ (by rw [an1];omega) (by rw [an1];omega)]
     . split
       . rfl
       . rw [Lf f g _ (by omega) (by omega)]
theorem akT:qT []=none:=rfl
theorem akS (c:UInt8) (r:List UInt8):qT (c::r)=if c=34 then some ([],1) else if c=92 then (match qf r with
 | none=>none
 | some (b,n)=>(qT (r.drop n)).map fun q=>(b::q.1,q.2+n+1))
 else if c<32\/c=127 then none else (qT r).map fun q=>(c::q.1,q.2+1):=by
 unfold qT;simp only [anz,xi]
 split
 . rfl
 . split
   . split
     . rfl
     . rw [Lf _ _ _ (by rw [an1];omega) (anD _)]
   . rfl
theorem P9:∀(l:List UInt8) (a:Nat),a<=l.foldl (fun n c=>10 * n + (c.toNat-48)) a
 | [],a=>anD _
 | c::l,a=>by simp only [List.foldl_cons];exact aol (by omega) (P9 l _)
def lY (a:Nat) (l:List UInt8):Nat:=l.foldl (fun n c=>10 * n + (c.toNat-48)) a
theorem aaY (a:Nat) (c:UInt8) (l:List UInt8):lY a (c::l)=lY (10 * a + (c.toNat-48)) l:=by unfold lY;rw [List.foldl_cons]
theorem aiT (M:Nat) (dE:M<18446744073709551620) (l:List UInt8):∀(a:Nat),(∀c ∈ l,fX c=true)->(lY a l<=M->Lib.parseUintM M a l=.ok (lY a l))/\(a<=M->¬lY a l<=M->Lib.parseUintM M a l=.range):=by
 induction l with
 | nil=>
   intro a _;refine ⟨fun _=>?_,fun J ad=>absurd J ad⟩;simp only [Lib.parseUintM,lY,List.foldl_nil]
 | cons c l adO=>
   intro a h;have ao:=h c (aot ..);simp only [fX,nY,anu,anM] at ao;have ab7:48<=c.toNat/\c.toNat<=57:=by omega
   have bC:=adO (10 * a + (c.toNat-48)) (fun x ar=>h x (aoh _ ar));have hm:10 * a + (c.toNat-48)<=lY (10 * a + (c.toNat-48)) l:=P9 l (10 * a + (c.toNat-48));simp only [Lib.parseUintM,ab7,apl,an7];rw [Nat.mul_comm a 10,aaY];have dJ:10 * a<=10 * a + (c.toNat-48):=Nat.le_add_right _ _;generalize 10 * a + (c.toNat-48)=A at bC hm dJ ⊢;refine ⟨fun aH=>?_,fun bF kx=>?_⟩
   . rw [anE (by omega),anE (by omega)];exact bC.1 aH
   . by_cases J:1844674407370955162<=a
     . rw [anL J]
     . rw [anE J];by_cases ad:M<A
       . rw [anL ad]
       . rw [anE ad];exact bC.2 (by omega) kx
theorem aiS (l:List UInt8) (h:∀c ∈ l,fX c=true) (aw:l≠[]):(j6 l<=18446744073709551615->Lib.parseUintB 64 l=.ok (j6 l))/\(¬j6 l<=18446744073709551615->Lib.parseUintB 64 l=.range):=by unfold Lib.parseUintB;rw [anE aw,show (2 ^ 64-1:Nat)=18446744073709551615 from by decide];have:=aiT 18446744073709551615 (by omega) l 0 h;exact ⟨this.1,this.2 (apj _)⟩
structure pa (s:List UInt8) (p:Nat) (b:aU) (h:ah) (res:ts) (x:V) (ab:ah):Prop where
 mod:Mod (fun q=>q=b) h ab
 res:∃k n t,x=.agg [.int .i64 k,.int .i64 n,.int .i64 0,.str t]/\match res with
  | .ok q=>k=q.1/\n=q.2.1/\t=q.2.2.1/\ab.get b=fS s ((p+q.2.2.2:Nat):Int) 0/\p+q.2.2.2<=s.length
  | .error e=>e≠0/\∃bw:Int,ab.get b=fS s bw e
theorem Kf {P:Program}:(dV.lX true 5).run P .nilIface .nilIface=some (.bool false):=rfl
theorem ahN {P:Program} (T:TypeId) (x:V):(dV.lX true 5).run P (.iface T x) .nilIface=some (.bool true):=rfl
theorem UT {p:UInt8->Bool} {l:List UInt8}:∀c ∈ l.takeWhile p,p c=true:=fun c ao=>by
 induction l with
 | nil=>simp at ao
 | cons x l bC=>
   simp only [ao0] at ao
   split at ao
   . rename_i ar;rcases an2.1 ao with rfl | ao
     . exact ar
     . exact bC ao
   . simp at ao
theorem UW (p:UInt8->Bool) (s:List UInt8) (a:Nat):((s.drop a).takeWhile p).length<=s.length-a:=by have:=UX p (s.drop a);rwa [an1] at this
theorem ah3 (s:List UInt8) (a0:Nat) (b:aU) (h:ah) (aj:h.get b=fS s a0 0) (a6:a0<s.length) (aL:s.length<=100000) (hp:Old h b) (aZ:fX s[a0]=true):
 b8 Tryz.prog 144 [.ptr b 0] h (pa s a0 b h (zj (s.drop a0))):=by
 refine XJ.z rfl (ck ?_);unfold Nb;have dq:(b=aD h.next)=False:=Ce hp (anD _);have dv:(aD h.next=b)=False:=by rw [<-dq];exact propext eq_comm
 simp only [aj,dq,dv,↓aa,ae,simprocAttr];have ar:Ext h (h.new (.a_ [.int .i64 0,.int .i64 0,.int .i64 0,.str []] 0 false)):=(Ext.refl h).new _;refine bq (Um s a0 0 b 112 nY _ (by rw [ar.get _ hp,aj]) (by omega) aL (by decide) (fun c h=>x1 c h)) ?_;rintro x J ⟨rfl,hm,an⟩;have k':(fun c:UInt8=>nY (c.toNat:Int))=fX:=rfl;rw [k'] at an ⊢;have wk:Mod (fun q=>q=b) h J:=(ar.mod _).trans hm;have g1:J.get (aD h.next)=.a_ [.int .i64 0,.int .i64 0,.int .i64 0,.str []] 0 false:=by rw [hm.get _ (hE (by rw [gI];omega)) (by rw [dv];exact id)];simp only [↓aa,ae,simprocAttr]
 have eC:(s.drop a0).takeWhile fX≠[]:=by rw [drop_cons a6,ao0,aZ];simp
 have hlen:=UW fX s a0;have ak:=aiS ((s.drop a0).takeWhile fX) UT eC;unfold fS at an;have yE:zj (s.drop a0)=if 2147483647<j6 ((s.drop a0).takeWhile fX) then .error 254 else .ok (1,(if 1073741823 < (j6 ((s.drop a0).takeWhile fX):Int) then (j6 ((s.drop a0).takeWhile fX):Int)-2147483648 else j6 ((s.drop a0).takeWhile fX)),[],((s.drop a0).takeWhile fX).length):=rfl;rw [yE];generalize (s.drop a0).takeWhile fX=t at *;simp only [↓aa,ae,simprocAttr];by_cases Ba:j6 t<=18446744073709551615
 . refine ey (aiU t (j6 t) (by omega) (ak.1 Ba) J) ?_;generalize j6 t=u at *;by_cases Ic:(2147483647:Int) < (u:Int)
   . have yg:2147483647<u:=by omega
     simp only [Kf,Ic,g1,an,dq,dv,↓aa,ae,simprocAttr];refine ⟨(wk.set (fun _=>rfl) _).set (fun q=>absurd (show cY (aD h.next)<h.next from q) (by rw [ee];omega)) _,?_⟩;rw [anL yg];refine ⟨_,_,_,rfl,by decide,((a0+t.length:Nat):Int),?_⟩;simp only [fS,dq,dv,↓aa,ae,simprocAttr]
   . have yg:¬2147483647<u:=by omega
     have b4:IntKind.i64.wrap (u:Int)=(u:Int):=wrap_i64 (by omega) (by omega);have b1:IntKind.i64.wrap ((u:Int)-2147483648)=(u:Int)-2147483648:=wrap_i64 (by omega) (by omega);by_cases A4:(1073741823:Int) < (u:Int)
     . simp only [Kf,Ic,yg,A4,g1,an,dq,dv,b4,b1,↓aa,ae,simprocAttr];refine ⟨(wk.set (fun q=>absurd (show cY (aD h.next)<h.next from q) (by rw [ee];omega)) _),?_⟩;refine ⟨_,_,_,rfl,rfl,rfl,rfl,?_,by show a0+t.length<=s.length;omega⟩;simp only [fS,an,dq,dv,↓aa,ae,simprocAttr]
     . simp only [Kf,Ic,yg,A4,g1,an,dq,dv,b4,b1,↓aa,ae,simprocAttr];refine ⟨(wk.set (fun q=>absurd (show cY (aD h.next)<h.next from q) (by rw [ee];omega)) _),?_⟩;refine ⟨_,_,_,rfl,rfl,rfl,rfl,?_,by show a0+t.length<=s.length;omega⟩;simp only [fS,an,dq,dv,↓aa,ae,simprocAttr]
 . refine ey (aiW t (by omega) (ak.2 Ba) J) ?_;have yg:2147483647<j6 t:=by omega
   rw [anL yg];simp only [ahN,g1,an,dq,dv,↓aa,ae,simprocAttr];refine ⟨(wk.set (fun _=>rfl) _).set (fun q=>absurd (show cY (aD h.next)<h.next from q) (by rw [ee];omega)) _,?_⟩;refine ⟨_,_,_,rfl,by decide,((a0+t.length:Nat):Int),?_⟩;simp only [fS,dq,dv,↓aa,ae,simprocAttr]
theorem U5 (c:UInt8):((c.toNat:Int)).toNat.toUInt8=c:=by rw [anI];simp
theorem pW (c:UInt8) (n:Nat) (aX:n<256):((c.toNat:Int)=(n:Int))=(c=n.toUInt8):=by
 apply propext;constructor
 . intro q;have:c.toNat=n:=by omega
   rw [<-apu,this];simp;omega
 . intro q;subst q;simp;omega
theorem aat (c:UInt8):Lib.indexByte [110,116,34,92] c=if c=110 then 0 else if c=116 then 1 else if c=34 then 2 else if c=92 then 3 else -1:=by
 simp only [Lib.indexByte,ao5];by_cases J:c=110
 . subst J;decide
 . by_cases ad:c=116
   . subst ad;decide
   . by_cases aC:c=34
     . subst aC;decide
     . by_cases bn:c=92
       . subst bn;decide
       . have al:¬(110:UInt8)=c:=fun q=>J q.symm;have aN:¬(116:UInt8)=c:=fun q=>ad q.symm;have cj:¬(34:UInt8)=c:=fun q=>aC q.symm;have gl:¬(92:UInt8)=c:=fun q=>bn q.symm;simp only [J,ad,aC,bn,al,aN,cj,gl,an4];rfl
theorem HF {c:UInt8} (h:fX c=true):Lib.digitVal c=some (c.toNat-48):=by unfold Lib.digitVal;unfold fX nY at h;simp only [anu,anM] at h;rw [anL (by omega)]
theorem WR {a b c:UInt8} (J:fX a=true) (ad:fX b=true) (aC:fX c=true):Lib.atoi [a,b,c]=some ((j6 [a,b,c]:Nat):Int):=by
 have bF:=J;unfold fX nY at bF;simp only [anu,anM] at bF;have de:(a == 45)=false:=by rw [aoQ];rintro rfl;revert bF;decide
 have kX:(a == 43)=false:=by rw [aoQ];rintro rfl;revert bF;decide
 simp [Lib.atoi,de,kX,Lib.decNat,Lib.decFrom,HF J,HF ad,HF aC,j6];omega
theorem aau (s:List UInt8) (a0:Nat) (b:aU) (h:ah) (aj:h.get b=fS s a0 0) (a6:a0<s.length) (aL:s.length<=100000) (hp:Old h b):
 b8 Tryz.prog 151 [.ptr b 0] h fun x ab=>Mod (fun q=>q=b) h ab/\match qf (s.drop (a0+1)) with
  | some (c,n)=>x=.int .u8 (c.toNat:Int)/\ab.get b=fS s ((a0+1+n:Nat):Int) 0/\a0+1+n<=s.length
  | none=>x=.int .u8 0/\ab.get b=fS s ((a0+1:Nat):Int) 252:=by
 refine XO.z rfl (ck ?_);unfold Nj;unfold fS at aj ⊢;have b4:IntKind.i64.wrap ((a0:Int)+1)=((a0+1:Nat):Int):=by rw [wrap_i64 (by omega) (by omega)];rfl
 have f0:(0<=((a0+1:Nat):Int))=True:=anJ (by omega);have f1:(((a0+1:Nat):Int)<=(s.length:Int))=True:=anJ (by omega);have wg:(s.drop (a0+1)).length=s.length - (a0+1):=an1;have z0:((0:Int)<=0)=True:=anJ (by omega);have pJ:∀v,bb.Mod (fun q=>q=b) h ((h.set b v)):=fun v=>(Mod.refl (fun q=>q=b) h).set (fun _=>rfl) _;cases cV:s.drop (a0+1) with
 | nil=>
   simp only [aj,b4,f0,f1,anI,cV,anH,Int.natCast_zero,↓aa,ae,simprocAttr];refine ⟨(pJ _).set (fun _=>rfl) _,?_⟩;simp only [qf,fh,an7,api]
 | cons c r=>
   rw [cV] at wg;rw [anz] at wg;have dI:(c::r=[])=False:=anA (by simp);have f2:((0:Int) < ((r.length+1:Nat):Int))=True:=anJ (by omega);simp only [aj,b4,f0,f1,f2,dI,anI,cV,Int.reduceToNat,z0,↓aa,ae,simprocAttr];refine ey (RC _ _ _) ?_;rw [U5,aat];have b1:IntKind.i64.wrap (((a0+1:Nat):Int)+1)=((a0+2:Nat):Int):=by rw [wrap_i64 (by omega) (by omega)];omega
   by_cases bW:c=110
   . subst bW;simp only [aj,b4,b1,f0,f1,f2,dI,anI,cV,Int.reduceToNat,z0,anz,anH,Nat.reduceAdd,Int.reduceLT,aou,↓aa,ae,simprocAttr];refine ⟨(pJ _).set (fun _=>rfl) _,rfl,?_⟩;simp only [fh,an7];refine ⟨trivial,by omega⟩
   by_cases cu:c=116
   . subst cu;simp only [aj,b4,b1,f0,f1,f2,dI,anI,cV,Int.reduceToNat,z0,anz,anH,Nat.reduceAdd,Int.reduceLT,aou,bW,↓aa,ae,simprocAttr];refine ⟨(pJ _).set (fun _=>rfl) _,rfl,?_⟩;simp only [fh,an7];refine ⟨trivial,by omega⟩
   by_cases c3:c=34
   . subst c3;simp only [aj,b4,b1,f0,f1,f2,dI,anI,cV,Int.reduceToNat,z0,anz,anH,Nat.reduceAdd,Int.reduceLT,aou,bW,cu,↓aa,ae,simprocAttr];refine ⟨(pJ _).set (fun _=>rfl) _,rfl,?_⟩;simp only [fh,an7];refine ⟨trivial,by omega⟩
   by_cases hM:c=92
   . subst hM;simp only [aj,b4,b1,f0,f1,f2,dI,anI,cV,Int.reduceToNat,z0,anz,anH,Nat.reduceAdd,Int.reduceLT,aou,bW,cu,c3,↓aa,ae,simprocAttr];refine ⟨(pJ _).set (fun _=>rfl) _,rfl,?_⟩;simp only [fh,an7];refine ⟨trivial,by omega⟩
   match r,cV,wg,f2,dI with
   | [],cV,wg,f2,dI=>
     simp only [aj,b4,b1,f0,f1,f2,dI,anI,cV,Int.reduceToNat,z0,anz,anH,Nat.reduceAdd,Int.reduceLT,aou,bW,cu,c3,hM,↓aa,ae,simprocAttr];refine ⟨(pJ _).set (fun _=>rfl) _,?_⟩;simp [qf,bW,cu,c3,hM,fh]
   | [_],cV,wg,f2,dI=>
     simp only [aj,b4,b1,f0,f1,f2,dI,anI,cV,Int.reduceToNat,z0,anz,anH,Nat.reduceAdd,Int.reduceLT,aou,bW,cu,c3,hM,↓aa,ae,simprocAttr];refine ⟨(pJ _).set (fun _=>rfl) _,?_⟩;simp [qf,bW,cu,c3,hM,fh]
   | d1::d2::bH,cV,wg,f2,dI=>
     simp only [anz] at wg;have g3:((3:Int)<=((bH.length+3:Nat):Int))=True:=anJ (by omega);have g2:((2:Int) < ((bH.length+3:Nat):Int))=True:=anJ (by omega);have g1:((1:Int) < ((bH.length+3:Nat):Int))=True:=anJ (by omega);have g0:((0:Int) < ((bH.length+3:Nat):Int))=True:=anJ (by omega);have em:qf (c::d1::d2::bH)=if fX c/\fX d1/\fX d2/\j6 [c,d1,d2]<256 then some ((j6 [c,d1,d2]).toUInt8,3) else none:=by simp [qf,bW,cu,c3,hM]
     rw [em];simp only [aj,b4,b1,f0,f1,g0,g1,g2,g3,dI,anI,cV,Int.reduceToNat,z0,anz,anH,Nat.reduceAdd,Int.reduceLT,aou,bW,cu,c3,hM,↓aa,ae,simprocAttr];refine ey (x1 _ _) ?_;have dg:∀x:UInt8,nY (x.toNat:Int)=fX x:=fun _=>rfl;simp only [dg];cases acb:fX c with
     | false=>
       simp only [aj,b4,b1,f0,f1,g0,g1,g2,g3,dI,anI,cV,Int.reduceToNat,z0,anz,anH,Nat.reduceAdd,Int.reduceLT,aou,bW,cu,c3,hM,apK,anV,↓aa,ae,simprocAttr];exact (pJ _).set (fun _=>rfl) _
     | true=>
       simp only [aj,b4,b1,f0,f1,g0,g1,g2,g3,dI,anI,cV,Int.reduceToNat,z0,anz,anH,Nat.reduceAdd,Int.reduceLT,aou,bW,cu,c3,hM,↓aa,ae,simprocAttr];refine ey (x1 _ _) ?_;simp only [dg];cases vW:fX d1 with
       | false=>
         simp only [aj,b4,b1,f0,f1,g0,g1,g2,g3,dI,anI,cV,Int.reduceToNat,z0,anz,anH,Nat.reduceAdd,Int.reduceLT,aou,bW,cu,c3,hM,apK,apQ,anV,↓aa,ae,simprocAttr];exact (pJ _).set (fun _=>rfl) _
       | true=>
         simp only [aj,b4,b1,f0,f1,g0,g1,g2,g3,dI,anI,cV,Int.reduceToNat,z0,anz,anH,Nat.reduceAdd,Int.reduceLT,aou,bW,cu,c3,hM,↓aa,ae,simprocAttr];refine ey (x1 _ _) ?_;simp only [dg];cases vX:fX d2 with
         | false=>
           simp only [aj,b4,b1,f0,f1,g0,g1,g2,g3,dI,anI,cV,Int.reduceToNat,z0,anz,anH,Nat.reduceAdd,Int.reduceLT,aou,bW,cu,c3,hM,apK,apQ,anV,↓aa,ae,simprocAttr];exact (pJ _).set (fun _=>rfl) _
         | true=>
           have z3:((0:Int)<=3)=True:=anJ (by omega);simp only [aj,b4,b1,f0,f1,g0,g1,g2,g3,z3,dI,anI,cV,Int.reduceToNat,z0,anz,anH,Nat.reduceAdd,Int.reduceLT,aou,bW,cu,c3,hM,↓aa,ae,simprocAttr];refine ey (WS [c,d1,d2] _ (by simp) (WR acb vW vX) _) ?_;have jt:IntKind.i64.wrap (((a0+1:Nat):Int)+3)=((a0+4:Nat):Int):=by rw [wrap_i64 (by omega) (by omega)];omega
           generalize bB:j6 [c,d1,d2]=v;by_cases tW:(v:Int)<256
           . have iZ:IntKind.u8.wrap (v:Int)=((v.toUInt8).toNat:Int):=by
              simp [IntKind.wrap,IntKind.bits,IntKind.signed]
             have tX:v<256:=by omega
             simp only [aj,b4,b1,jt,iZ,f0,f1,g0,g1,g2,g3,dI,tW,tX,anI,cV,Int.reduceToNat,z0,anz,anH,Nat.reduceAdd,Int.reduceLT,aou,bW,cu,c3,hM,apl,api,↓aa,ae,simprocAttr];refine ⟨(pJ _).set (fun _=>rfl) _,?_⟩
             first | omega | (refine ⟨?_,by omega⟩;simp [fh]) | skip
           . have tX:¬v<256:=by omega
             simp only [aj,b4,b1,jt,f0,f1,g0,g1,g2,g3,dI,tW,tX,anI,cV,Int.reduceToNat,z0,anz,anH,Nat.reduceAdd,Int.reduceLT,aou,bW,cu,c3,hM,apQ,↓aa,ae,simprocAttr];exact (pJ _).set (fun _=>rfl) _
theorem alc (c:UInt8) (n:Nat) (aX:n<256):((c.toNat:Int) < (n:Int))=(c<n.toUInt8):=by
 apply propext;rw [UInt8.lt_iff_toNat_lt];have:(n.toUInt8).toNat=n:=by simp;omega
 rw [this];omega
theorem akU (s:List UInt8) (a0:Nat) (b:aU) (h:ah) (aj:h.get b=fS s a0 0) (a6:a0<s.length) (aL:s.length<=100000) (hp:Old h b):
 b8 Tryz.prog 145 [.ptr b 0] h (pa s a0 b h (td (s.drop (a0+1)))):=by
 refine XK.z rfl (ck ?_);unfold Nc;have dq:(b=aD h.next)=False:=Ce hp (anD _);have dv:(aD h.next=b)=False:=by rw [<-dq];exact propext eq_comm
 have b4:IntKind.i64.wrap ((a0:Int)+1)=((a0+1:Nat):Int):=by rw [wrap_i64 (by omega) (by omega)];rfl
 unfold fS at aj;simp +contextual only [aj,dq,dv,b4,↓aa,ae,simprocAttr];have zi:∀{v:V} {ab:ah} {n:Nat} {us:List V},cZ (h.next+1) ab 1 v n us->∀q,v.bh q->¬(fun q=>q=b) q:=by
  intro v ab n us hb q aq he;have J:=hb.base aq;rw [show q=b from he] at J;have ad:cY b<h.next:=hp
  omega
 have W':∀{v:V} {ab:ah} {n:Nat} {us:List V},cZ (h.next+1) ab 1 v n us->∀i,i<h.next+1->¬v.bh (aD i):=by intro v ab n us hb i au aq;have J:=hb.base aq;rw [ee] at J;omega
 refine fE (fun r ab=>r 0=.ptr b 0/\r 2=.ptr (aD h.next) 0/\∃(a:Nat) (e:Int) (fN:List UInt8) (v:V),r 3=v/\ab.get b=.a_ [.str s,.int .i64 a,.int .i64 e] 0 false/\a<=s.length/\a0+1<=a/\fN.length<=a/\
  ab.get (aD h.next)=.a_ [.int .i64 0,.int .i64 0,.int .i64 0,.str []] 0 false/\Mod (fun q=>q=b) h ab/\h.next+1<=ab.next/\cZ (h.next+1) ab 1 v fN.length (ea fN)/\
  ((e=0/\qT (s.drop (a0+1))=(qT (s.drop a)).map fun q=>(fN++q.1,q.2 + (a - (a0+1))))\/(e=252/\qT (s.drop (a0+1))=none)))
  (fun r ab=>(s.length - ((jL (ab.get b) 1).getD .bad).toN) + (252 - ((jL (ab.get b) 2).getD .bad).toN)) ?_ ?_
 . refine ⟨by simp only [dq,dv,↓aa,ae,simprocAttr],by simp only [dq,dv,↓aa,ae,simprocAttr],a0+1,0,[],.cr,by simp only [dq,dv,↓aa,ae,simprocAttr],by simp only [dq,dv,↓aa,ae,simprocAttr],by omega,by omega,by simp,by simp only [dq,dv,↓aa,ae,simprocAttr],?_,?_,⟨rfl,rfl⟩,.inl ⟨rfl,?_⟩⟩
   . exact (((Ext.refl h).new _).mod (fun q=>q=b)).self _
   . rw [o3,gI];exact anD _
   . rw [apf];cases qT (s.drop (a0+1))<;>rfl
 . rintro r ab ⟨ba,dw,a,e,fN,v,bY,an,bX,cC,yZ,bJ,hm,mH,hb,bz⟩;unfold Nd;have Q3:Old ab b:=hm.cJ hp;have fin:∀(ad:ah) (bw:Int),qT (s.drop (a0+1))=none->Mod (fun q=>q=b) h ad->ad.get b=.a_ [.str s,.int .i64 bw,.int .i64 252] 0 false->
    pa s a0 b h (td (s.drop (a0+1))) (.agg [.int .i64 0,.int .i64 0,.int .i64 0,.str []]) (ad.set (aD h.next) (.a_ [.int .i64 0,.int .i64 0,.int .i64 0,.str []] 0 false)):=by
    intro ad bw aX n_ v';unfold td;rw [aX];refine ⟨n_.set (fun q=>absurd (show cY (aD h.next)<h.next from q) (by rw [ee];omega)) _,_,_,_,rfl,by decide,bw,?_⟩;rw [fh,anE (by rw [dv];exact id),v'];rfl
   have step:∀(ad:ah),Mod (fun q=>q=b) h ad->ab.next<=ad.next->cZ (h.next+1) ad 1 v fN.length (ea fN)->∀(c:UInt8),∃v3 aC,jz 1 v (.slice (aD ad.next) 0 1 1) (ad.new (.a_ [.int .u8 (c.toNat:Int)] 0 false))=.val v3 aC/\cZ (h.next+1) aC 1 v3 (fN++[c]).length (ea (fN++[c]))/\Mod (fun q=>q=b) h aC/\h.next+1<=aC.next/\aC.get b=ad.get b/\aC.get (aD h.next)=ad.get (aD h.next):=by
    intro ad n_ amy l0 c;obtain ⟨v3,aC,ag,av,aJ,bU,cX⟩:=xT (cs:=[.int .u8 (c.toNat:Int)]) (by omega) l0 (by omega) (by unfold top;omega) rfl rfl;refine ⟨v3,aC,ag,by rw [anw,vw];exact av,n_.akX aJ (fun q aq=>aol (Nat.le_succ _) (l0.base aq)),by omega,?_,?_⟩
    . exact aJ.get _ (n_.cJ hp) (fun aq=>zi l0 _ aq rfl)
    . exact aJ.get _ (hE (by omega)) (W' l0 _ (by omega))
   rcases bz with ⟨rfl,bz⟩ | ⟨rfl,bz⟩
   . by_cases gE:(s.length:Int)<=(a:Int)
     . have bF:a=s.length:=by omega
       rw [bF,apD,akT] at bz;simp +contextual only [ba,dw,bY,an,gE,bJ,dq,dv,↓aa,ae,simprocAttr];exact fin _ _ bz (hm.set (fun _=>rfl) _) (by rw [fh,anL rfl])
     . have aH:a<s.length:=by omega
       rw [drop_cons aH,akS] at bz;have f0:(0<=(a:Int))=True:=anJ (by omega);have f1:((a:Int) < (s.length:Int))=True:=anJ (by omega);have b1:IntKind.i64.wrap ((a:Int)+1)=((a+1:Nat):Int):=by rw [wrap_i64 (by omega) (by omega)];rfl
       have hO:(((s[a]).toNat:Int)=34)=(s[a]=34):=pW _ 34 (by omega);have nj:(((s[a]).toNat:Int)=92)=(s[a]=92):=pW _ 92 (by omega);have Pv:(((s[a]).toNat:Int)=127)=(s[a]=127):=pW _ 127 (by omega);have R4:(((s[a]).toNat:Int)<32)=(s[a]<32):=alc _ 32 (by omega);by_cases bW:s[a]=34
       . rw [anL bW] at bz;replace bW:(s[a]=34)=True:=anJ bW;simp only [ao2,an_] at bz;by_cases Ba:(4096:Int) < (fN.length:Int)
         . have l0:∀k b_,cZ (h.next+1) ((ab.set b k).set b b_) 1 v fN.length (ea fN):=fun k b_=>hb.mod (((Mod.refl (fun q=>q=b) ab).set (fun _=>rfl) _).set (fun _=>rfl) _) (zi hb);simp +contextual only [ba,dw,bY,an,gE,bJ,dq,dv,f0,f1,b1,hO,bW,hb.v.len,Ba,AS (l0 _ _),anv aH,anI,↓aa,ae,simprocAttr];refine ⟨((hm.set (fun _=>rfl) _).set (fun _=>rfl) _).set (fun q=>absurd (show cY (aD h.next)<h.next from q) (by rw [ee];omega)) _,_,_,_,rfl,?_⟩;unfold td;rw [bz];simp only;rw [anL (by omega)];refine ⟨by decide,((a+1:Nat):Int),?_⟩;simp only [fS,dq,dv,↓aa,ae,simprocAttr]
         . have l0:∀k,cZ (h.next+1) (ab.set b k) 1 v fN.length (ea fN):=fun k=>hb.mod ((Mod.refl (fun q=>q=b) ab).set (fun _=>rfl) _) (zi hb);simp +contextual only [ba,dw,bY,an,gE,bJ,dq,dv,f0,f1,b1,hO,bW,hb.v.len,Ba,AS (l0 _),anv aH,anI,↓aa,ae,simprocAttr];refine ⟨(hm.set (fun _=>rfl) _).set (fun q=>absurd (show cY (aD h.next)<h.next from q) (by rw [ee];omega)) _,_,_,_,rfl,?_⟩;unfold td;rw [bz];simp only;rw [anE (by omega)];refine ⟨rfl,rfl,rfl,?_,?_⟩
           . simp only [fS,dq,dv,↓aa,ae,simprocAttr];rw [show a0 + (1 + (a - (a0+1))+1)=a+1 from by omega]
           . simp only;omega
       rw [anE bW] at bz;by_cases cu:s[a]=92
       . rw [anL cu] at bz;replace cu:(s[a]=92)=True:=anJ cu;simp +contextual only [ba,dw,bY,an,gE,bJ,dq,dv,f0,f1,b1,hO,nj,bW,cu,anv aH,anI,↓aa,ae,simprocAttr];refine bq (aau s a b ab an aH aL Q3) ?_;rintro x ad ⟨n_,ar⟩;have l0:=hb.mod n_ (zi hb);have rH:ad.get (aD h.next)=.a_ [.int .i64 0,.int .i64 0,.int .i64 0,.str []] 0 false:=by
          rw [n_.get _ (hE (by omega)) (by rw [dv];exact id),bJ]
         have Ci:=n_.next
         obtain ⟨c,ao,yK⟩:∃c:UInt8,x=.int .u8 (c.toNat:Int)/\((∃n,qf (s.drop (a+1))=some (c,n)/\ad.get b=fS s ((a+1+n:Nat):Int) 0/\a+1+n<=s.length)\/(qf (s.drop (a+1))=none/\ad.get b=fS s ((a+1:Nat):Int) 252)):=by
          cases yv:qf (s.drop (a+1)) with
          | none=>rw [yv] at ar;exact ⟨0,ar.1,.inr ⟨rfl,ar.2⟩⟩
          | some q=>rw [yv] at ar;exact ⟨q.1,ar.1,.inl ⟨q.2,rfl,ar.2⟩⟩
         subst ao;obtain ⟨v3,aC,ag,av,aJ,bU,cX,ev⟩:=step ad (hm.trans n_) Ci l0 c;have FF:cZ (h.next+1) aC 1 v3 (fN.length+1) (ea (fN++[c])):=by rw [anw] at av;exact av
         have BI:aC.get (aD h.next)=.a_ [.int .i64 0,.int .i64 0,.int .i64 0,.str []] 0 false:=by rw [ev,rH]
         unfold fS at yK;rcases yK with ⟨n,yv,v',hle⟩ | ⟨yv,v'⟩
         . simp +contextual only [ag,ba,dw,an,v',cX,dq,dv,↓aa,ae,simprocAttr];rw [yv] at bz;simp only at bz;refine ⟨⟨a+1+n,0,fN++[c],rfl,hle,by omega,by simp;omega,BI,aJ,bU,av,.inl ⟨rfl,?_⟩⟩,by omega⟩;rw [bz,aoK,apM];congr 1;funext q;simp only [Function.comp,anG,List.singleton_append,aoS,api];omega
         . simp +contextual only [ag,ba,dw,an,v',cX,dq,dv,↓aa,ae,simprocAttr];rw [yv] at bz;exact ⟨⟨a+1,252,fN++[c],rfl,by omega,by omega,by simp;omega,BI,aJ,bU,av,.inr ⟨rfl,bz⟩⟩,by omega⟩
       rw [anE cu] at bz;by_cases c3:s[a]<32\/s[a]=127
       . rw [anL c3] at bz;have qb:(decide (s[a]<32)||decide (s[a]=127))=true:=by simpa using c3
         simp +contextual only [ba,dw,bY,an,gE,bJ,dq,dv,f0,f1,b1,hO,nj,Pv,R4,bW,cu,qb,anv aH,anI,↓aa,ae,simprocAttr];exact ⟨⟨a,252,fN,rfl,bX,cC,yZ,hm.self _,mH,hb.mod ((Mod.refl (fun q=>q=b) ab).self _) (zi hb),.inr ⟨rfl,bz⟩⟩,by omega⟩
       . rw [anE c3] at bz;have qb:(decide (s[a]<32)||decide (s[a]=127))=false:=by simpa using c3
         obtain ⟨v3,aC,ag,av,aJ,bU,cX,ev⟩:=step (ab.set b (.a_ [.str s,.int .i64 ((a+1:Nat):Int),.int .i64 0] 0 false)) (hm.self _) (by rw [o3];exact anD _) (hb.mod ((Mod.refl (fun q=>q=b) ab).self _) (zi hb)) s[a];simp only [o3,fh,dq,dv,an7,an4] at ag cX ev;simp +contextual only [ag,ba,dw,bY,an,gE,bJ,dq,dv,f0,f1,b1,hO,nj,Pv,R4,bW,cu,qb,cX,anv aH,anI,↓aa,ae,simprocAttr];refine ⟨⟨a+1,0,fN++[s[a]],rfl,by omega,by omega,by simp;omega,by rw [ev,bJ],aJ,bU,av,.inl ⟨rfl,?_⟩⟩,by omega⟩;rw [bz,apM];congr 1;funext q;simp only [Function.comp,anG,List.singleton_append,aoS,api];omega
   . simp +contextual only [ba,dw,bY,an,bJ,dq,dv,↓aa,ae,simprocAttr];exact fin _ _ bz hm an
def y0:List UInt8:=[32,97,110,100,32,98,101,103,105,110,32,101,108,115,101,32,101,110,100,32,101,120,99,101,112,116,105,111,110,32,102,97,108,115,101,32,102,117,110,32,105,102,32,105,110,32,108,101,116,32,109,97,116,99,104,32,109,111,100,32,111,102,32,114,97,105,115,101,32,114,101,99,32,116,104,101,110,32,116,114,117,101,32,116,114,121,32,116,121,112,101,32,119,105,116,104,32]
def tG:List (List UInt8)->List UInt8
 | []=>[32]
 | w::L=>32::(w++tG L)
theorem aaT:tG iR=y0:=by decide
theorem aaS (L:List (List UInt8)):∃r,tG L=32::r:=by cases L<;>exact ⟨_,rfl⟩
theorem index_ge (sub:List UInt8):∀l:List UInt8,-1<=Lib.index l sub
 | []=>by simp only [Lib.index];split<;>decide
 | b::l=>by
   have:=index_ge sub l;simp only [Lib.index]
   split
   . decide
   . split<;>omega
theorem JA (sub:List UInt8) (b:UInt8) (l:List UInt8):(0<=Lib.index (b::l) sub)↔(sub.isPrefixOf (b::l)=true\/0<=Lib.index l sub):=by
 have:=index_ge sub l;simp only [Lib.index]
 split
 . rename_i h;simp [h]
 . rename_i h
   split
   . rename_i ad;have:Lib.index l sub=-1:=by simpa using ad
     simp [h,this]
   . rename_i ad;have aC:¬Lib.index l sub=-1:=by simpa using ad
     simp only [h,anV,apA];omega
theorem RF (x:List UInt8) (r:List UInt8):∀w:List UInt8,(32:UInt8) ∉ w->((0<=Lib.index (w++r) (32::x))↔0<=Lib.index r (32::x))
 | [],_=>Iff.rfl
 | b::w,h=>by
   rw [anO,JA,RF x r w (fun q=>h (aoh _ q))];have aj:((32:UInt8) == b)=false:=by rw [aoQ];rintro rfl;exact h (aot ..)
   simp [List.isPrefixOf,aj]
theorem TE (r:List UInt8):∀(t w:List UInt8),(32:UInt8) ∉ t->(32:UInt8) ∉ w->((t++[32]).isPrefixOf (w++32::r)=true↔t=w)
 | [],[],_,_=>by simp [List.isPrefixOf]
 | [],b::w,_,h=>by
   have aj:((32:UInt8) == b)=false:=by rw [aoQ];rintro rfl;exact h (aot ..)
   simp [List.isPrefixOf,aj]
 | a::t,[],h,_=>by
   have aj:(a == (32:UInt8))=false:=by rw [aoQ];rintro rfl;exact h (aot ..)
   simp [List.isPrefixOf,aj]
 | a::t,b::w,h,ab=>by have bC:=TE r t w (fun q=>h (aoh _ q)) (fun q=>ab (aoh _ q));simp only [anO,List.isPrefixOf,anu,ao5,bC,aoY]
theorem RE (t:List UInt8) (aE:(32:UInt8) ∉ t):∀L:List (List UInt8),(∀w ∈ L,(32:UInt8) ∉ w)->((0<=Lib.index (tG L) (32::(t++[32])))↔t ∈ L)
 | [],_=>by cases t<;>simp [tG,Lib.index,List.isPrefixOf]
 | w::L,h=>by
   have bC:=RE t aE L (fun x ar=>h x (aoh _ ar));have hw:=h w (aot ..);obtain ⟨r,aK⟩:=aaS L;simp only [tG];rw [JA,RF _ _ _ hw,bC,an2];have:(32::(t++[32])).isPrefixOf (32::(w++tG L))=(t++[32]).isPrefixOf (w++tG L):=by simp [List.isPrefixOf]
   rw [this,aK,TE r t w aE hw]
theorem DN (t:List UInt8) (aE:(32:UInt8) ∉ t):Lib.contains y0 (32::(t++[32]))=hr t:=by have:=RE t aE iR (by decide);rw [aaT] at this;unfold Lib.contains hr;rw [aon,anM,this];simp
theorem ahp {l:List UInt8}:(32:UInt8) ∉ l.takeWhile fF:=fun h=>by have:=UT _ h;revert this;decide
theorem E_ (s:List UInt8) (a0:Nat) (k:Int) (b:aU) (h:ah) (aj:h.get b=fS s a0 0) (a6:a0<=s.length) (aL:s.length<=100000) (hp:Old h b):
 b8 Tryz.prog 146 [.ptr b 0,.int .i64 k] h (pa s a0 b h (kY k (s.drop a0))):=by
 refine XL.z rfl (ck ?_);unfold Nf;have dq:(b=aD h.next)=False:=Ce hp (anD _);have dv:(aD h.next=b)=False:=by rw [<-dq];exact propext eq_comm
 simp only [aj,dq,dv,↓aa,ae,simprocAttr];have ar:Ext h (h.new (.a_ [.int .i64 0,.int .i64 0,.int .i64 0,.str []] 0 false)):=(Ext.refl h).new _;refine bq (Um s a0 0 b 88 rO _ (by rw [ar.get _ hp,aj]) a6 aL (by decide) (fun c h=>So c h)) ?_;rintro x J ⟨rfl,hm,an⟩;have k':(fun c:UInt8=>rO (c.toNat:Int))=fF:=rfl;rw [k'] at an ⊢;have wk:Mod (fun q=>q=b) h J:=(ar.mod _).trans hm;have g1:J.get (aD h.next)=.a_ [.int .i64 0,.int .i64 0,.int .i64 0,.str []] 0 false:=by rw [hm.get _ (hE (by rw [gI];omega)) (by rw [dv];exact id)];simp only [↓aa,ae,simprocAttr]
 have hlen:=UW fF s a0;have Ie:(32:UInt8) ∉ (s.drop a0).takeWhile fF:=ahp;unfold fS at an;have yE:kY k (s.drop a0)=if k=3/\(s.drop a0).takeWhile fF=[95] then .ok (7,0,(s.drop a0).takeWhile fF,((s.drop a0).takeWhile fF).length) else if k=3/\hr ((s.drop a0).takeWhile fF) then .ok (6,0,(s.drop a0).takeWhile fF,((s.drop a0).takeWhile fF).length) else if 64 < ((s.drop a0).takeWhile fF).length then .error 255 else .ok (k,0,(s.drop a0).takeWhile fF,((s.drop a0).takeWhile fF).length):=rfl;rw [yE];generalize (s.drop a0).takeWhile fF=t at *;have Fk:∀(dB:Int),pa s a0 b h (.ok (dB,0,t,t.length)) (.agg [.int .i64 dB,.int .i64 0,.int .i64 0,.str t]) (J.set (aD h.next) (.a_ [.int .i64 dB,.int .i64 0,.int .i64 0,.str t] 0 false)):=by intro dB;refine ⟨wk.fresh (anD _) _,_,_,_,rfl,rfl,rfl,rfl,?_,by show a0+t.length<=s.length;omega⟩;rw [fh,anE (by rw [dv];exact id),an];rfl
 have tail:(64<t.length->pa s a0 b h (.error 255) (.agg [.int .i64 k,.int .i64 0,.int .i64 0,.str t]) ((J.set b (.a_ [.str s,.int .i64 ((a0+t.length:Nat):Int),.int .i64 255] 0 false)).set (aD h.next) (.a_ [.int .i64 k,.int .i64 0,.int .i64 0,.str t] 0 false))):=by intro aw;refine ⟨(wk.self _).fresh (anD _) _,_,_,_,rfl,by decide,((a0+t.length:Nat):Int),?_⟩;simp only [fS,dq,dv,↓aa,ae,simprocAttr]
 by_cases ay:k=3
 . subst ay;by_cases hu:t=[95]
   . simp only [g1,an,dq,dv,hu,api,↓aa,ae,simprocAttr];subst hu;exact Fk 7
   . have t1:(1+t.length<=top)=True:=anJ (by unfold top;omega);have t2:(t.length+1+1<=top)=True:=anJ (by unfold top;omega);simp only [top] at t1 t2;simp only [g1,an,dq,dv,hu,api,anw,t1,t2,↓aa,ae,simprocAttr];refine ey (AR y0 (32::(t++[32])) (by decide) _) ?_;rw [DN t Ie];cases Bo:hr t with
     | true=>
       simp only [g1,an,dq,dv,hu,api,apQ,Bo,anw,t1,t2,↓aa,ae,simprocAttr];exact Fk 6
     | false=>
       by_cases aw:64<t.length
       . have gu:(64:Int) < (t.length:Int):=by omega
         simp only [g1,an,dq,dv,hu,aw,gu,api,apQ,Bo,anw,t1,t2,anV,↓aa,ae,simprocAttr];exact tail aw
       . have gu:¬(64:Int) < (t.length:Int):=by omega
         simp only [g1,an,dq,dv,hu,aw,gu,api,apQ,Bo,anw,t1,t2,anV,↓aa,ae,simprocAttr];exact Fk 3
 . by_cases aw:64<t.length
   . have gu:(64:Int) < (t.length:Int):=by omega
     simp only [g1,an,dq,dv,ay,aw,gu,apK,↓aa,ae,simprocAttr];exact tail aw
   . have gu:¬(64:Int) < (t.length:Int):=by omega
     simp only [g1,an,dq,dv,ay,aw,gu,apK,↓aa,ae,simprocAttr];exact Fk k
def qR:List V:=gK.map V.str
theorem UB (h:ah):b8 Tryz.prog 54 [] h fun x ab=>x=.slice (aD h.next) 0 17 17/\ab=h.new (.a_ qR 0 false):=by refine Yi.z rfl (ck ?_);unfold N4;simp +contextual only [↓aa,ae,simprocAttr];rfl
theorem aki {i:Nat} (au:i<17):qR[i]? =some (.str (gK[i]'au)):=by unfold qR;rw [aoo,anv (show i<gK.length from au)];rfl
theorem aaQ (p:List UInt8->Bool) {i:Nat} (au:i<17):(gK.drop i).find? p=if p (gK[i]'au) then some (gK[i]'au) else (gK.drop (i+1)).find? p:=by rw [anZ (show i<gK.length from au),List.find?_cons];cases p gK[i]<;>rfl
theorem pa.store {s:List UInt8} {p:Nat} {b:aU} {h:ah} {z b_:cn} {res:ts} {x:V} {J:ah} (w:pa s p b (h.new z) res x J) (hp:Old h b):pa s p b h res x (J.set (aD h.next) b_):=by
 have dv:¬(aD h.next=b):=by
  intro q;have:cY b<h.next:=hp
  rw [<-q,ee] at this;omega
 obtain ⟨hm,k,n,t,ar,aK⟩:=w;refine ⟨((((Ext.refl h).new z).mod _).trans hm).fresh (anD _) _,k,n,t,ar,?_⟩;cases res with
 | ok q=>simpa only [fh,anE dv] using aK
 | error e=>simpa only [fh,anE dv] using aK
theorem ahT (s:List UInt8) (a0:Nat) (b:aU) (h:ah) (aj:h.get b=fS s a0 0) (a6:a0<s.length) (aL:s.length<=100000) (hp:Old h b):
 b8 Tryz.prog 137 [.ptr b 0] h (pa s a0 b h (hD (s.drop a0))):=by
 refine XG.z rfl (ck ?_);unfold M9;have dq:(b=aD h.next)=False:=Ce hp (anD _);have dv:(aD h.next=b)=False:=by rw [<-dq];exact propext eq_comm
 have jE:=aj;unfold fS at aj;have f0:(0<=(a0:Int))=True:=anJ (by omega);have f1:((a0:Int) < (s.length:Int))=True:=anJ (by omega);have ar:Ext h (h.new (.a_ [.int .i64 0,.int .i64 0,.int .i64 0,.str []] 0 false)):=(Ext.refl h).new _;have yG:Old (h.new (.a_ [.int .i64 0,.int .i64 0,.int .i64 0,.str []] 0 false)) b:=ar.cJ hp;have Bc:(h.new (.a_ [.int .i64 0,.int .i64 0,.int .i64 0,.str []] 0 false)).get b=fS s a0 0:=by rw [ar.get _ hp,jE]
 have yf:∀{res:ts} {x:V} {J:ah},pa s a0 b (h.new (.a_ [.int .i64 0,.int .i64 0,.int .i64 0,.str []] 0 false)) res x J->J.get (aD h.next)=.a_ [.int .i64 0,.int .i64 0,.int .i64 0,.str []] 0 false:=by intro res x J w;rw [w.mod.get _ (hE (by rw [gI];omega)) (by rw [dv];exact id)];simp only [↓aa,ae,simprocAttr]
 have aZ:=drop_cons a6;rw [aZ];have dg:nY ((s[a0]).toNat:Int)=fX s[a0]:=rfl;have hO:(((s[a0]).toNat:Int)=34)=(s[a0]=34):=pW _ 34 (by omega);have tF:(((s[a0]).toNat:Int)=95)=(s[a0]=95):=pW _ 95 (by omega);have x3:(((s[a0]).toNat:Int)=39)=(s[a0]=39):=pW _ 39 (by omega);simp +contextual only [aj,dq,dv,f0,f1,anv a6,anI,↓aa,ae,simprocAttr];refine ey (x1 _ _) ?_;rw [dg];cases J:fX s[a0] with
 | true=>
   have eV:hD (s[a0]::s.drop (a0+1))=zj (s.drop a0):=by rw [aZ];simp only [hD,J,an7]
   rw [eV];simp +contextual only [aj,dq,dv,f0,f1,anv a6,anI,↓aa,ae,simprocAttr];refine bq (ah3 s a0 b _ Bc a6 aL yG J) ?_;rintro x ak w;have g1:=yf w;obtain ⟨k,n,t,rfl,_⟩:=w.res;simp +contextual only [g1,aj,dq,dv,f0,f1,↓aa,ae,simprocAttr];exact w.store hp
 | false=>
   by_cases ad:s[a0]=34
   . have eV:hD (s[a0]::s.drop (a0+1))=td (s.drop (a0+1)):=by simp only [hD];rw [anE (by rw [J];exact aoW),anL ad]
     rw [eV];replace ad:=anJ ad;simp +contextual only [aj,dq,dv,f0,f1,hO,ad,anv a6,anI,↓aa,ae,simprocAttr];refine bq (akU s a0 b _ Bc a6 aL yG) ?_;rintro x ak w;have g1:=yf w;obtain ⟨k,n,t,rfl,_⟩:=w.res;simp +contextual only [g1,aj,dq,dv,f0,f1,↓aa,ae,simprocAttr];exact w.store hp
   simp +contextual only [aj,dq,dv,f0,f1,hO,ad,anv a6,anI,↓aa,ae,simprocAttr];refine ey (zF _ _) ?_;by_cases aC:(hg ((s[a0]).toNat:Int)||decide (s[a0]=95))=true
   . have eV:hD (s[a0]::s.drop (a0+1))=kY 3 (s.drop a0):=by rw [aZ];simp only [hD,J,ad,aC,anV,an4,an7]
     rw [eV];have fin:nW Tryz.prog 146 [.ptr b 0,.int .i64 3] (some 33) none [] [] (fun _=>.bad) h (fun _ _ _=>True)->True:=fun _=>trivial;cases wB:hg ((s[a0]).toNat:Int) with
     | true=>
       simp +contextual only [aj,dq,dv,f0,f1,hO,ad,wB,anv a6,anI,↓aa,ae,simprocAttr];refine bq (E_ s a0 3 b _ Bc (by omega) aL yG) ?_;rintro x ak w;have g1:=yf w;obtain ⟨k,n,t,rfl,_⟩:=w.res;simp +contextual only [g1,aj,dq,dv,f0,f1,↓aa,ae,simprocAttr];exact w.store hp
     | false=>
       rw [wB,apd,anM] at aC;replace aC:=anJ aC;simp +contextual only [aj,dq,dv,f0,f1,hO,tF,ad,aC,wB,anv a6,anI,↓aa,ae,simprocAttr];refine bq (E_ s a0 3 b _ Bc (by omega) aL yG) ?_;rintro x ak w;have g1:=yf w;obtain ⟨k,n,t,rfl,_⟩:=w.res;simp +contextual only [g1,aj,dq,dv,f0,f1,↓aa,ae,simprocAttr];exact w.store hp
   . have Ql:=aC;rw [aof,apB,aoA] at Ql;obtain ⟨abI,abJ⟩:=Ql;simp +contextual only [aj,dq,dv,f0,f1,hO,tF,ad,abI,abJ,anv a6,anI,↓aa,ae,simprocAttr];refine ey (H8 _ _) ?_;cases bn:n2 ((s[a0]).toNat:Int) with
     | true=>
       have eV:hD (s[a0]::s.drop (a0+1))=kY 4 (s.drop a0):=by rw [aZ];simp only [hD,J,ad,aC,bn,anV,an4,an7]
       rw [eV];simp +contextual only [aj,dq,dv,f0,f1,anv a6,anI,↓aa,ae,simprocAttr];refine bq (E_ s a0 4 b _ Bc (by omega) aL yG) ?_;rintro x ak w;have g1:=yf w;obtain ⟨k,n,t,rfl,_⟩:=w.res;simp +contextual only [g1,aj,dq,dv,f0,f1,↓aa,ae,simprocAttr];exact w.store hp
     | false=>
       have b4:IntKind.i64.wrap ((a0:Int)+1)=((a0+1:Nat):Int):=by rw [wrap_i64 (by omega) (by omega)];rfl
       have f2:(0<=((a0+1:Nat):Int))=True:=anJ (by omega);by_cases b0:s[a0]=39/\lg (s.drop (a0+1))
       . have eV:hD (s[a0]::s.drop (a0+1))=(kY 5 (s.drop (a0+1))).map fun q=>(q.1,q.2.1,q.2.2.1,q.2.2.2+1):=by simp only [hD];rw [anE (by rw [J];exact aoW),anE ad,anE aC,anE (by rw [bn];exact aoW),anL b0]
         rw [eV];obtain ⟨Eh,Ei⟩:=b0;replace Eh:=anJ Eh;have aH:a0+1<s.length:=by
          by_cases q:a0+1<s.length
          . exact q
          . rw [an5 (by omega)] at Ei;cases Ei
         rw [drop_cons aH] at Ei;have f3:(((a0+1:Nat):Int) < (s.length:Int))=True:=anJ (by omega);simp +contextual (maxSteps:=1000000) only [aj,dq,dv,f0,f1,f2,f3,b4,hO,tF,x3,ad,Eh,anv a6,anv aH,anI,↓aa,ae,simprocAttr];refine ey (zF _ _) ?_;rw [show hg ((s[a0+1]).toNat:Int)=true from Ei];simp +contextual (maxSteps:=1000000) only [aj,dq,dv,f0,f1,f2,f3,b4,hO,tF,x3,ad,Eh,anv a6,anv aH,anI,↓aa,ae,simprocAttr];have Q0:Mod (fun q=>q=b) (h.new (.a_ [.int .i64 0,.int .i64 0,.int .i64 0,.str []] 0 false)) ((h.new (.a_ [.int .i64 0,.int .i64 0,.int .i64 0,.str []] 0 false)).set b (.a_ [.str s,.int .i64 ((a0+1:Nat):Int),.int .i64 0] 0 false)):=(Mod.refl _ _).self _;refine bq (E_ s (a0+1) 5 b _ (by rw [fh,anL rfl];rfl) (by omega) aL (Q0.cJ yG)) ?_;rintro x ak w;have w':pa s a0 b (h.new (.a_ [.int .i64 0,.int .i64 0,.int .i64 0,.str []] 0 false)) ((kY 5 (s.drop (a0+1))).map fun q=>(q.1,q.2.1,q.2.2.1,q.2.2.2+1)) x ak:=by
          obtain ⟨alr,k,n,t,alI,wr⟩:=w;refine ⟨Q0.trans alr,k,n,t,alI,?_⟩;cases aX:kY 5 (s.drop (a0+1)) with
          | error e=>rw [aX] at wr;exact wr
          | ok q=>
            rw [aX] at wr;obtain ⟨bM,dw,bY,dR,cW⟩:=wr;refine ⟨bM,dw,bY,?_,?_⟩
            . rw [dR];show fS s ((a0+1+q.2.2.2:Nat):Int) 0=fS s ((a0 + (q.2.2.2+1):Nat):Int) 0;rw [show a0+1+q.2.2.2=a0 + (q.2.2.2+1) from by omega]
            . show a0 + (q.2.2.2+1)<=s.length;omega
         have g1:=yf w';obtain ⟨k,n,t,rfl,_⟩:=w'.res;simp +contextual only [g1,aj,dq,dv,f0,f1,↓aa,ae,simprocAttr];exact w'.store hp
       . have eV:hD (s[a0]::s.drop (a0+1))=zC (s.drop a0):=by rw [aZ];simp only [hD];rw [anE (by rw [J];exact aoW),anE ad,anE aC,anE (by rw [bn];exact aoW),anE b0]
         rw [eV];have ab8:((s[a0]=39)=False)\/(((s[a0]=39)=True)/\¬a0+1<s.length)\/(((s[a0]=39)=True)/\∃aH:a0+1<s.length,hg ((s[a0+1]).toNat:Int)=false):=by
          by_cases q:s[a0]=39
          . by_cases aH:a0+1<s.length
            . refine .inr (.inr ⟨anJ q,aH,?_⟩);cases aq:hg ((s[a0+1]).toNat:Int) with
              | false=>rfl
              | true=>exact absurd ⟨q,by rw [drop_cons aH];exact aq⟩ b0
            . exact .inr (.inl ⟨anJ q,aH⟩)
          . exact .inl (anA q)
         have two:∀t ∈ gK,t.length<=2:=by decide
         have AK:((17:Nat):Int)=17:=rfl;rcases ab8 with ag | ⟨ag,av⟩ | ⟨ag,aH,av⟩
         case' neg.inl=>
          simp +contextual (maxSteps:=1000000) only [aj,dq,dv,f0,f1,f2,b4,hO,tF,x3,ad,ag,anv a6,anI,↓aa,ae,simprocAttr]
         case' neg.inr.inl=>
          have f3:(((a0+1:Nat):Int) < (s.length:Int))=False:=anA (by omega);simp +contextual (maxSteps:=1000000) only [aj,dq,dv,f0,f1,f2,f3,b4,hO,tF,x3,ad,ag,anv a6,anI,↓aa,ae,simprocAttr]
         case' neg.inr.inr=>
          have f3:(((a0+1:Nat):Int) < (s.length:Int))=True:=anJ (by omega);simp +contextual (maxSteps:=1000000) only [aj,dq,dv,f0,f1,f2,f3,b4,hO,tF,x3,ad,ag,anv a6,anv aH,anI,↓aa,ae,simprocAttr];refine ey (zF _ _) ?_;rw [av];simp +contextual (maxSteps:=1000000) only [aj,dq,dv,f0,f1,f2,f3,b4,hO,tF,x3,ad,ag,anv a6,anv aH,anI,↓aa,ae,simprocAttr]
         all_goals
          refine bq (UB _) ?_;rintro x ak ⟨rfl,rfl⟩;simp +contextual only [↓aa,ae,simprocAttr]
          refine fE (fun r ab=>r 0=.ptr b 0/\r 2=.ptr (aD h.next) 0/\r 77=.slice (aD (h.next+1)) 0 17 17/\r 78=.int .i64 17/\∃i:Nat,i<=17/\r 79=.int .i64 i/\ab=(h.new (.a_ [.int .i64 0,.int .i64 0,.int .i64 0,.str []] 0 false)).new (.a_ qR 0 false)/\
           gK.find? (·.isPrefixOf (s.drop a0))=(gK.drop i).find? (·.isPrefixOf (s.drop a0))) (fun r ab=>17 - (r 79).toN) ?_ ?_
          . exact ⟨by simp only [↓aa,ae,simprocAttr],by simp only [↓aa,ae,simprocAttr],by simp only [↓aa,ae,simprocAttr],by simp only [AK,↓aa,ae,simprocAttr],0,by omega,by simp only [↓aa,ae,simprocAttr]<;>rfl,rfl,rfl⟩
          . rintro r ab ⟨ba,dw,FM,FN,i,au,FO,rfl,tQ⟩;unfold M';have Q3:Old ((h.new (.a_ [.int .i64 0,.int .i64 0,.int .i64 0,.str []] 0 false)).new (.a_ qR 0 false)) b:=(ar.new _).cJ hp;have sw:((h.new (.a_ [.int .i64 0,.int .i64 0,.int .i64 0,.str []] 0 false)).new (.a_ qR 0 false)).get b=.a_ [.str s,.int .i64 a0,.int .i64 0] 0 false:=by rw [(ar.new _).get _ hp,aj]
            have Cd:(b=aD (h.next+1))=False:=Ce hp (by omega);have DB:(aD (h.next+1)=b)=False:=by rw [<-Cd];exact propext eq_comm
            by_cases qu:i<17
            . have g0:((i:Int)<17)=True:=anJ (by omega);have g1:(0<=(i:Int))=True:=anJ (by omega);rw [aaQ _ qu] at tQ;have hlen:=two _ (anB (h:=(show i<gK.length from qu)));simp +contextual only [AK,ba,dw,FM,FN,FO,g0,g1,dq,dv,Cd,DB,anI,ao4,aki qu,↓aa,ae,simprocAttr];refine ey (Io s _ (a0:Int) [.int .i64 0] b 0 false _ sw (by omega) (by omega)) ?_;rw [anI];cases mK:(gK[i]'qu).isPrefixOf (s.drop a0) with
              | true=>
                rw [mK,anL rfl] at tQ;have kU:(gK[i]'qu).length<=s.length-a0:=by rw [aph] at mK;have:=mK.length_le;rwa [an1] at this
                have jt:IntKind.i64.wrap ((a0:Int) + ((gK[i]'qu).length:Int))=((a0 + (gK[i]'qu).length:Nat):Int):=by rw [wrap_i64 (by omega) (by omega)];rfl
                simp +contextual only [AK,ba,dw,FM,FN,FO,g0,g1,jt,dq,dv,Cd,DB,aj,↓aa,ae,simprocAttr];unfold zC;rw [tQ];refine ⟨(((ar.new _).mod _).self _).fresh (anD _) _,_,_,_,rfl,rfl,rfl,rfl,?_,by show a0 + (gK[i]'qu).length<=s.length;omega⟩;simp only [fS,dq,dv,↓aa,ae,simprocAttr]
              | false=>
                rw [mK,anE aoW] at tQ;have jt:IntKind.i64.wrap ((i:Int)+1)=((i+1:Nat):Int):=by rw [wrap_i64 (by omega) (by omega)];rfl
                simp +contextual only [AK,ba,dw,FM,FN,FO,g0,g1,jt,dq,dv,Cd,DB,aj,↓aa,ae,simprocAttr];exact ⟨⟨i+1,by omega,rfl,tQ⟩,by omega⟩
            . obtain rfl:i=17:=by omega
              have ec:gK.find? (·.isPrefixOf (s.drop a0))=none:=by rw [tQ];rfl
              have g0:((17:Int)<17)=False:=anA (by omega);simp +contextual only [AK,ba,dw,FM,FN,FO,g0,sw,dq,dv,Cd,DB,aj,↓aa,ae,simprocAttr];unfold zC;rw [ec];refine ⟨(((ar.new _).mod _).self _).fresh (anD _) _,_,_,_,rfl,by decide,(a0:Int),?_⟩;simp only [fS,dq,dv,↓aa,ae,simprocAttr]
theorem Qc (s:List UInt8) (i:Nat):(ByteArray.mk ⟨s⟩).get! i=(s[i]?).getD 0:=by show (Array.mk s)[i]! =_;simp;rfl
theorem Z0 (s:List UInt8) (a:Nat):Lib.decodeGo ⟨⟨s.drop a⟩⟩=if a<s.length then decodeL s a else (65533,0):=by
 unfold Lib.decodeGo decodeL;have bJ:(ByteArray.mk ⟨s.drop a⟩).size=s.length-a:=by show (s.drop a).length=_;rw [an1]
 have rH:(ByteArray.mk ⟨s⟩).size=s.length:=rfl;by_cases bF:a<s.length
 . rw [anL bF,anE (by rw [bJ];omega),Lib.decode_at,Lib.decode_at,bJ,rH];simp only [Qc,aoJ,ao7,apF,an8]
 . rw [anE bF,anL (by rw [bJ];omega)]
theorem ahR {h:ah} {b:aU} {s:List UInt8} {a:Nat} (an:h.get b=.iter s a):
 w0 (.ptr b 0) h=if a<s.length then .val (.tuple [.bool true,.int .i64 a,.int .i32 (decodeL s a).1]) (h.set b (.iter s (a + (decodeL s a).2))) else .val (.tuple [.bool false]) h:=by
 unfold w0;simp only [V.j0,an];rw [show Nat.beq 0 0=true from rfl];simp only [anC];by_cases bF:a<s.length
 . rw [anL bF,show Nat.blt a s.length=true from by rw [aoa];exact bF];rfl
 . rw [anE bF,show Nat.blt a s.length=false from by rw [<-aof,aoa];exact bF];rfl
def ad_ (s:List UInt8):cn->Nat
 | .iter _ a=>s.length-a
 | _=>0
theorem ZY (s:List UInt8) (a:Nat):1<=(decodeL s a).2:=by
 unfold decodeL;rw [Lib.decode_at];unfold Lib.decodeN
 repeat' split
 all_goals simp
theorem ajK (s:List UInt8) (aL:s.length<=100000) (h:ah):b8 Tryz.prog 133 [.str s] h fun x ab=>x=.int .i64 (uR s:Nat)/\Ext h ab:=by
 refine XC.z rfl (ck ?_);unfold M3;simp only [↓aa,ae,simprocAttr];refine fE (fun r ab=>r 0=.str s/\r 8=.ptr (aD h.next) 0/\Ext h ab/\∃a,ab.get (aD h.next)=.iter s a/\uR s=rV s a) (fun r ab=>ad_ s (ab.get (aD h.next))) ?_ ?_
 . exact ⟨by simp only [↓aa,ae,simprocAttr],by simp only [↓aa,ae,simprocAttr],(Ext.refl h).new _,0,by simp only [↓aa,ae,simprocAttr],rfl⟩
 . rintro r ab ⟨ba,dS,ar,a,an,bF⟩;unfold M4;have mH:=ahR an;by_cases aH:a<s.length
   . rw [anL aH] at mH;have ak:=ZY s a;by_cases ao:(decodeL s a).1=65533
     . have jF:(((decodeL s a).1:Int)=65533)=True:=anJ (by omega);have f0:(0<=(a:Int))=True:=anJ (by omega);have f1:((a:Int)<=(s.length:Int))=True:=anJ (by omega);simp only [ba,dS,mH,jF,f0,f1,anI,↓aa,ae,simprocAttr];refine ey (ZZ _ _) ?_;rw [Z0,anL aH];by_cases hw:(decodeL s a).2=1
       . have wD:(((decodeL s a).2:Int)=1)=True:=anJ (by omega);have l1:nX s a=0:=by unfold nX;rw [anL (Prod.ext ao hw)]
         rw [ajJ aH l1] at bF;simp only [ba,dS,mH,jF,wD,f0,f1,anI,↓aa,ae,simprocAttr];rw [bF];exact ⟨rfl,ar.set (anD _) _⟩
       . have wD:(((decodeL s a).2:Int)=1)=False:=anA (by omega);have l1:nX s a=(decodeL s a).2:=by unfold nX;rw [anE (fun q=>hw (congrArg Prod.snd q))]
         rw [K0 aH (by rw [l1];omega),l1] at bF;simp only [ba,dS,mH,jF,wD,f0,f1,anI,↓aa,ae,simprocAttr];refine ⟨⟨ar.set (anD _) _,_,rfl,bF⟩,?_⟩;rw [an];show s.length - (a + (decodeL s a).2)<s.length-a;omega
     . have jF:(((decodeL s a).1:Int)=65533)=False:=anA (by omega);have l1:nX s a=(decodeL s a).2:=by unfold nX;rw [anE (fun q=>ao (congrArg Prod.fst q))]
       rw [K0 aH (by rw [l1];omega),l1] at bF;simp only [ba,dS,mH,jF,anI,↓aa,ae,simprocAttr];refine ⟨⟨ar.set (anD _) _,_,rfl,bF⟩,?_⟩;rw [an];show s.length - (a + (decodeL s a).2)<s.length-a;omega
   . rw [anE aH] at mH;rw [Ue (by omega)] at bF;simp only [ba,dS,mH,anI,↓aa,ae,simprocAttr];rw [bF];exact ⟨rfl,ar⟩
def cd.enc (w:cd):List V:=[.int .i64 w.kind,.int .i64 w.num,.int .i64 w.pos,.str w.text]
def jO:List cd->List V
 | []=>[]
 | w::ws=>w.enc++jO ws
theorem Vg:∀a b:List cd,jO (a++b)=jO a++jO b
 | [],b=>rfl
 | w::a,b=>by simp only [jO,anO,Vg a b,anG]
def CB (ws:List cd):Except (Int × Nat) (List cd)->Except (Int × Nat) (List cd)
 | .ok b1=>.ok (ws++b1)
 | .error e=>.error e
theorem ai3 (ws:List cd) (w:cd) (r:Except (Int × Nat) (List cd)):CB ws (AQ w r)=CB (ws++[w]) r:=by
 cases r with
 | ok b1=>simp [CB,AQ]
 | error e=>rfl
theorem ai4 (r:Except (Int × Nat) (List cd)):CB [] r=r:=by cases r<;>rfl
def VQ (s:List UInt8) (h:ah) (x:V) (ab:ah):Prop:=Ext h ab/\match mc s with
 | .ok ws=>∃v,x=.tuple [v,.agg [.int .i64 0,.int .i64 0]]/\cZ h.next ab 4 v ws.length (jO ws)
 | .error e=>x=.tuple [.cr,.agg [.int .i64 e.1,.int .i64 e.2]]
theorem Mu (c:UInt8):(0<=Lib.indexByte [9,10,13,32] c)=(blank c=true):=by
 have a6:∀d:UInt8,(d == c)=decide (c=d):=fun d=>by
  by_cases q:c=d
  . subst q;simp
  . have fH:¬d=c:=fun e=>q e.symm;simp [q,fH]
 simp only [Lib.indexByte,a6,blank];by_cases J:c=9
 . subst J;decide
 . by_cases ad:c=10
   . subst ad;decide
   . by_cases aC:c=13
     . subst aC;decide
     . by_cases bn:c=32
       . subst bn;decide
       . simp [J,ad,aC,bn]
theorem Ss (s:List UInt8) (h:ah):b8 Tryz.prog 120 [.str s] h (VQ s h):=by
 refine Xy.z rfl (ck ?_);unfold MW;by_cases QU:(65536:Int) < (s.length:Int)
 . simp only [QU,↓aa,ae,simprocAttr];refine ⟨((Ext.refl h).new _).set (anD _) _,?_⟩;unfold mc;rw [anL (by omega)];rfl
 simp only [QU,↓aa,ae,simprocAttr];refine bq (ajK s (by omega) _) ?_;rintro x J ⟨rfl,rG⟩;have ar:Ext h (h.new (.a_ [.int .i64 0,.int .i64 0] 0 false)):=(Ext.refl h).new _;have fP:=ar.trans rG;have g1:J.get (aD h.next)=.a_ [.int .i64 0,.int .i64 0] 0 false:=by rw [rG.get _ (hE (by rw [gI];omega))];simp only [↓aa,ae,simprocAttr]
 have SY:h.next+1<=J.next:=rG.next
 have cR:(aD J.next=aD h.next)=False:=by rw [s3];exact anA (by omega)
 have de:(aD h.next=aD J.next)=False:=by rw [s3];exact anA (by omega)
 have o2:(J.next=h.next)=False:=anA (by omega);have kj:(h.next=J.next)=False:=anA (by omega);have hlen:¬65536<s.length:=by omega
 by_cases aK:uR s<s.length
 . have sH:((uR s:Int) < (s.length:Int))=True:=anJ (by omega);simp only [sH,g1,cR,de,o2,kj,↓aa,ae,simprocAttr];refine ⟨fP.set (anD _) _,?_⟩;unfold mc;rw [anE hlen,anL aK]
 have sH:((uR s:Int) < (s.length:Int))=False:=anA (by omega);have mG:mc s=rP s 0:=by unfold mc;rw [anE hlen,anE aK]
 simp only [sH,g1,cR,de,o2,kj,↓aa,ae,simprocAttr];have oY:Ext h (J.new (.a_ [.str s,.int .i64 0,.int .i64 0] 0 false)):=fP.new _
 refine fE (fun r ab=>r 0=.str s/\r 3=.ptr (aD h.next) 0/\r 5=.ptr (aD J.next) 0/\∃(a:Nat) (ws:List cd) (v:V),r 6=v/\ab.get (aD J.next)=.a_ [.str s,.int .i64 a,.int .i64 0] 0 false/\a<=s.length/\ws.length<=a/\
  ab.get (aD h.next)=.a_ [.int .i64 0,.int .i64 0] 0 false/\Ext h ab/\J.next+1<=ab.next/\cZ (J.next+1) ab 4 v ws.length (jO ws)/\mc s=CB ws (rP (s.drop a) a))
  (fun r ab=>s.length - ((jL (ab.get (aD J.next)) 1).getD .bad).toN) ?_ ?_
 . refine ⟨by simp only [↓aa,ae,simprocAttr],by simp only [↓aa,ae,simprocAttr],by simp only [↓aa,ae,simprocAttr],0,[],.cr,by simp only [↓aa,ae,simprocAttr],by simp only [↓aa,ae,simprocAttr]<;>rfl,by omega,by simp,by simp only [g1,cR,o2,de,kj,↓aa,ae,simprocAttr],oY,?_,⟨rfl,rfl⟩,?_⟩
   . rw [gI];exact anD _
   . rw [mG,aok,ai4]
 . rintro r ab ⟨ba,bY,cW,a,ws,v,fY,an,bX,kw,bJ,oZ,mH,hb,bz⟩;unfold MX;have hp:Old ab (aD J.next):=hE (by omega);by_cases gE:(s.length:Int)<=(a:Int)
   . have bF:a=s.length:=by omega
     have EA:mc s=.ok ws:=by rw [bz,bF,apD];show Except.ok (ws++[])=_;rw [an_]
     simp only [ba,bY,cW,fY,an,bJ,gE,cR,de,o2,kj,↓aa,ae,simprocAttr];refine ⟨oZ.set (anD _) _,?_⟩;rw [EA];refine ⟨v,rfl,?_⟩;have:=hb.mod ((Mod.refl (fun q=>q=aD h.next) ab).self (.a_ [.int .i64 0,.int .i64 0] 0 false)) (fun q aq e=>by have ad:=hb.base aq;rw [show q=aD h.next from e,ee] at ad;omega);exact this.mono (by omega)
   . have aH:a<s.length:=by omega
     rw [drop_cons aH,Sr,<-drop_cons aH] at bz;have f0:(0<=(a:Int))=True:=anJ (by omega);have f1:((a:Int) < (s.length:Int))=True:=anJ (by omega);have b4:IntKind.i64.wrap ((a:Int)+1)=((a+1:Nat):Int):=by rw [wrap_i64 (by omega) (by omega)];rfl
     simp only [ba,bY,cW,fY,an,bJ,gE,cR,de,o2,kj,f0,f1,anv aH,anI,↓aa,ae,simprocAttr];refine ey (RC _ _ _) ?_;rw [U5];by_cases Ep:blank s[a]=true
     . have It:(0<=Lib.indexByte [9,10,13,32] s[a])=True:=by rw [Mu,Ep];exact eq_self _
       rw [anL Ep] at bz;simp only [It,b4,ba,bY,cW,fY,an,bJ,gE,cR,de,o2,kj,f0,f1,anv aH,anI,↓aa,ae,simprocAttr];refine ⟨⟨a+1,ws,rfl,by omega,by omega,oZ.set (by omega) _,mH,?_,bz⟩,by omega⟩;exact hb.mod ((Mod.refl (fun q=>q=aD J.next) ab).self _) (fun q aq e=>by have ad:=hb.base aq;rw [show q=aD J.next from e,ee] at ad;omega)
     . have It:(0<=Lib.indexByte [9,10,13,32] s[a])=False:=by rw [Mu];exact anA Ep
       rw [anE Ep] at bz;simp only [It,b4,ba,bY,cW,fY,an,bJ,gE,cR,de,o2,kj,f0,f1,anv aH,anI,↓aa,ae,simprocAttr];have Bw:=Io s [40,42] (a:Int) [.int .i64 0] (aD J.next) 0 false ab an (by omega) (by omega);rw [anI] at Bw;refine ey Bw ?_;cases mK:([40,42]:List UInt8).isPrefixOf (s.drop a) with
       | true=>
         rw [mK,anL rfl] at bz;simp only [b4,ba,bY,cW,fY,an,bJ,gE,cR,de,o2,kj,f0,f1,anv aH,anI,↓aa,ae,simprocAttr];refine bq (ah0 s a 0 (aD J.next) ab an bX (by omega) hp) ?_;rintro x ad ⟨rfl,hm,aX⟩;have rH:ad.get (aD h.next)=.a_ [.int .i64 0,.int .i64 0] 0 false:=by rw [hm.get _ (hE (by omega)) (by rw [de];exact id),bJ]
         have oe:Ext h ad:=oZ.me hm (fun b aj=>by rw [show b=aD J.next from aj,ee];omega);have Ci:=hm.next
         have l0:=hb.mod hm (fun q aq e=>by have ad:=hb.base aq;rw [show q=aD J.next from e,ee] at ad;omega);cases I7:jm (s.drop a) 0 with
         | some n=>
           rw [I7] at aX bz;obtain ⟨g2,hle⟩:=aX;have Bv:=Fi I7;unfold fS at g2;simp only [b4,ba,bY,cW,fY,g2,an,rH,gE,cR,de,o2,kj,f0,f1,anv aH,anI,↓aa,ae,simprocAttr];refine ⟨⟨a+n,ws,rfl,hle,by omega,oe,by omega,l0,?_⟩,by omega⟩;rw [bz];simp only [aoK]
         | none=>
           rw [I7] at aX bz;unfold fS at aX;simp only [b4,ba,bY,cW,fY,aX,an,rH,gE,cR,de,o2,kj,f0,f1,anv aH,anI,↓aa,ae,simprocAttr];refine ⟨oe.set (anD _) _,?_⟩;rw [bz];rfl
       | false=>
         rw [mK,anE aoW] at bz;simp only [b4,ba,bY,cW,fY,an,bJ,gE,cR,de,o2,kj,f0,f1,anv aH,anI,↓aa,ae,simprocAttr];refine bq (ahT s a (aD J.next) ab an aH (by omega) hp) ?_;rintro x ad w;obtain ⟨hm,k,n,t,rfl,yJ⟩:=w;have rH:ad.get (aD h.next)=.a_ [.int .i64 0,.int .i64 0] 0 false:=by rw [hm.get _ (hE (by omega)) (by rw [de];exact id),bJ]
         have oe:Ext h ad:=oZ.me hm (fun b aj=>by rw [show b=aD J.next from aj,ee];omega);have Ci:=hm.next
         have l0:=hb.mod hm (fun q aq e=>by have ad:=hb.base aq;rw [show q=aD J.next from e,ee] at ad;omega);have m0:(aD ad.next=aD h.next)=False:=by rw [s3];exact anA (by omega)
         have m1:(aD ad.next=aD J.next)=False:=by rw [s3];exact anA (by omega)
         have SA:(ad.next=h.next)=False:=anA (by omega);have SB:(ad.next=J.next)=False:=anA (by omega);have EE:Ext ad (((ad.new (.a_ [.int .i64 0,.int .i64 0,.int .i64 0,.str []] 0 false)).set (aD ad.next) (.a_ [.int .i64 k,.int .i64 n,.int .i64 0,.str t] 0 false)).set (aD ad.next) (.a_ [.int .i64 k,.int .i64 n,.int .i64 a,.str t] 0 false)):=(((Ext.refl ad).new _).set (anD _) _).set (anD _) _;obtain ⟨v3,aC,ag,av,aJ,bU,cX⟩:=xT (cs:=[.int .i64 k,.int .i64 n,.int .i64 a,.str t]) (by omega) (l0.ext EE) (by simp only [o3,gI];omega) (by unfold top;omega) rfl rfl;simp only [o3,gI] at ag bU;have BG:Ext h aC:=(oe.trans EE).me aJ (fun b aj=>aol (by omega) (l0.base aj));have BI:aC.get (aD h.next)=.a_ [.int .i64 0,.int .i64 0] 0 false:=by rw [aJ.get _ (hE (by simp only [o3,gI];omega)) (fun aq=>by have:=l0.base aq;rw [ee] at this;omega),EE.get _ (hE (by omega)),rH]
         have lh:aC.get (aD J.next)=ad.get (aD J.next):=by rw [aJ.get _ (hE (by simp only [o3,gI];omega)) (fun aq=>by have:=l0.base aq;rw [ee] at this;omega),EE.get _ (hE (by omega))]
         cases mH:hD (s.drop a) with
         | ok q=>
           have Bv:=Kg mH;rw [mH] at yJ bz;obtain ⟨rfl,rfl,rfl,g2,hle⟩:=yJ;unfold fS at g2;rw [g2] at lh;simp only [ag,m0,m1,SA,SB,b4,ba,bY,cW,fY,g2,lh,an,rH,gE,cR,de,o2,kj,f0,f1,anv aH,anI,↓aa,ae,simprocAttr];refine ⟨⟨a+q.2.2.2,ws++[⟨q.1,q.2.1,a,q.2.2.1⟩],rfl,hle,by simp;omega,BI,BG,by omega,?_,?_⟩,by omega⟩
           . rw [anw,Vg];exact av
           . rw [bz,ai3];simp only [aoK]
         | error e=>
           rw [mH] at yJ bz;obtain ⟨he,bw,g2⟩:=yJ;unfold fS at g2;rw [g2] at lh;simp only [he,ag,m0,m1,SA,SB,b4,ba,bY,cW,fY,g2,lh,BI,an,rH,gE,cR,de,o2,kj,f0,f1,anv aH,anI,↓aa,ae,simprocAttr];refine ⟨BG.set (anD _) _,?_⟩;rw [bz];rfl
def ed (L:List (List UInt8)):List V:=L.map V.str
theorem ES (h:ah):b8 Tryz.prog 61 [] h fun x ab=>x=.slice (aD h.next) 0 20 20/\ab=h.new (.a_ (ed iR) 0 false):=by refine Ym.z rfl (ck ?_);unfold N9;simp only [↓aa,ae,simprocAttr];rfl
theorem ajy (h:ah):b8 Tryz.prog 62 [] h fun x ab=>x=.slice (aD h.next) 0 17 17/\ab=h.new (.a_ (ed gK) 0 false):=by refine Yn.z rfl (ck ?_);unfold N';simp only [↓aa,ae,simprocAttr];rfl
theorem uX (L:List (List UInt8)):(ed L).length=L.length:=by simp [ed]
theorem Gc {L:List (List UInt8)} {i:Nat} (au:i<L.length):(ed L)[i]? =some (.str L[i]):=by unfold ed;rw [aoo,anv au];rfl
theorem Pt {t:List UInt8} {L:List (List UInt8)} {i:Nat} (au:i<L.length):(L.drop i).contains t=(decide (L[i]=t)||(L.drop (i+1)).contains t):=by rw [anZ au,List.contains_cons];congr 1;rw [aon];simp;exact eq_comm
theorem ud (t:List UInt8) (L:List (List UInt8)) (b:aU) (cap:Nat) (h:ah) (cB:L.length<=100000) (an:h.get b=.a_ (ed L) 0 false):
 ff Tryz.prog 60 [.str t,.slice b 0 L.length cap] h (.bool (L.contains t)) h:=by
 refine mm (Yl.z rfl (ck ?_));unfold N7;simp only [↓aa,ae,simprocAttr];refine fE (fun r ab=>ab=h/\r 0=.str t/\r 1=.slice b 0 L.length cap/\∃i:Nat,r 5=.int .i64 i/\i<=L.length/\L.contains t=(L.drop i).contains t) (fun r ab=>L.length - (r 5).toN) ?_ ?_
 . exact ⟨rfl,by simp only [↓aa,ae,simprocAttr],by simp only [↓aa,ae,simprocAttr],0,by simp only [↓aa,ae,simprocAttr]<;>rfl,by omega,rfl⟩
 . rintro r ab ⟨rfl,ba,bM,i,cW,au,bz⟩;unfold N8;by_cases aH:i<L.length
   . have g0:((i:Int) < (L.length:Int))=True:=anJ (by omega);have g1:(0<=(i:Int))=True:=anJ (by omega);rw [Pt aH] at bz;by_cases he:L[i]=t
     . simp only [ba,bM,cW,g0,g1,an,he,anI,ao4,Gc aH,↓aa,ae,simprocAttr];rw [bz];simp [he]
     . have w:IntKind.i64.wrap ((i:Int)+1)=((i+1:Nat):Int):=by rw [wrap_i64 (by omega) (by omega)];rfl
       simp only [ba,bM,cW,g0,g1,an,he,w,anI,ao4,Gc aH,↓aa,ae,simprocAttr];refine ⟨⟨i+1,rfl,aH,?_⟩,by omega⟩;rw [bz];simp [he]
   . have g0:((i:Int) < (L.length:Int))=False:=anA (by omega);rw [an5 (by omega)] at bz;rw [bz];simp only [ba,bM,cW,g0,↓aa,ae,simprocAttr];rfl
def ys:List UInt8->Bool
 | d::_=>n2 d.toNat
 | []=>false
def dG (k:Int) (s:List UInt8):Bool:=
 decide (s≠[])&&decide (s.length<=64)&&s.all fF&&(if k=3 then (lg s||s.head? == some 95)&&!decide (s=[95])&&!hr s else if k=4 then ys s else lg s)
def jl (k n:Int) (s:List UInt8):Bool:=
 if k=1 then decide (s=[])&&decide (-1073741824<=n)&&decide (n<=1073741823)
 else if k=2 then decide (n=0)&&decide (s.length<=4096)
 else if k=3\/k=4\/k=5 then decide (n=0)&&dG k s
 else if k=6 then decide (n=0)&&hr s
 else if k=7 then decide (n=0)&&gK.contains s
 else false
theorem O1 (s:List UInt8) (h:ah) (aL:s.length<=top):vz.run (.str s) h=.val (.et (aD h.next) 0 s.length 0) (h.new (.a_ (ea s) 1 true)):=by simp only [vz,wY (show (ea s).length<=top by rw [oQ];exact aL) (anD 1)]
theorem O2 (s:List UInt8) (h:ah):cZ h.next (h.new (.a_ (ea s) 1 true)) 1 (.et (aD h.next) 0 s.length 0) s.length (ea s):=cZ.grown (by rw [oQ,ao4]) (anD _)
theorem Hq:∀(l:List UInt8) (i:Nat) (au:i<l.length) (ad:i < (ea l).length),(ea l)[i]=.int .u8 (l[i].toNat:Int)
 | c::l,0,_,_=>rfl
 | c::l,i+1,J,ad=>by have:=Hq l i (by simpa using J) (by rw [oQ];simpa using J);simpa [ea] using this
theorem adZ (l:List UInt8) (v:V) (h:ah) (H:e3 h 1 v l.length (ea l)) (aw:l.length<=100000) (g:FuncId) (bc:(g=4294967296)=False) (p:Int->Bool) (ak:∀c h,ff Tryz.prog g [.int .u8 c] h (.bool (p c)) h):
 b8 Tryz.prog 111 [v,.func g []] h fun x ab=>ab=h/\∃i:Int,x=.int .i64 i/\decide (0<=i)=l.any fun c=>p c.toNat:=by
 refine Xv.z rfl (ck ?_);unfold MR;simp only [H.len,↓aa,ae,simprocAttr];refine fE (fun r ab=>ab=h/\r 0=v/\r 1=.func g []/\r 7=.int .i64 l.length/\∃i:Nat,r 8=.int .i64 i/\i<=l.length/\(l.any fun c=>p c.toNat)=((l.drop i).any fun c=>p c.toNat)) (fun r ab=>l.length - (r 8).toN) ?_ ?_
 . exact ⟨rfl,by simp only [↓aa,ae,simprocAttr],by simp only [↓aa,ae,simprocAttr],by simp only [↓aa,ae,simprocAttr],0,by simp only [↓aa,ae,simprocAttr]<;>rfl,by omega,rfl⟩
 . rintro r ab ⟨rfl,ba,bM,hx,i,dS,au,bz⟩;unfold MS;by_cases aH:i<l.length
   . have g0:((i:Int) < (l.length:Int))=True:=anJ (by omega);obtain ⟨b9,dc,hd,dp⟩:=H.dj (k:=.i64) aH;have ep:=dp.ep (i:=i * 1) (by rw [oQ];omega);simp only [ao4] at ep hd;rw [Hq l i aH] at ep;rw [anZ aH,List.any_cons] at bz;have w:IntKind.i64.wrap ((i:Int)+1)=((i+1:Nat):Int):=by rw [wrap_i64 (by omega) (by omega)];rfl
     simp only [bc,an4,ba,bM,hx,dS,g0,hd,ep,↓aa,ae,simprocAttr];refine ey (ak _ _) ?_;cases od:p ((l[i]).toNat:Int) with
     | true=>
       simp only [ba,bM,hx,dS,↓aa,ae,simprocAttr];exact ⟨i,rfl,by rw [bz,od];simp⟩
     | false=>
       simp only [ba,bM,hx,dS,w,↓aa,ae,simprocAttr];exact ⟨⟨i+1,rfl,aH,by rw [bz,od,apd]⟩,by omega⟩
   . have g0:((i:Int) < (l.length:Int))=False:=anA (by omega);rw [an5 (by omega)] at bz;simp only [ba,bM,hx,dS,g0,↓aa,ae,simprocAttr];exact ⟨_,rfl,by rw [bz];rfl⟩
theorem ZC (l:List UInt8) (v:V) (h:ah) (H:e3 h 1 v l.length (ea l)) (aw:l.length<=100000) (g:FuncId) (bc:(g=4294967296)=False) (p:Int->Bool) (ak:∀c h,ff Tryz.prog g [.int .u8 c] h (.bool (p c)) h):
 ff Tryz.prog 86 [v,.func g []] h (.bool (l.any fun c=>p c.toNat)) h:=by
 refine mm (YM.z rfl (ck ?_));unfold OD;simp only [↓aa,ae,simprocAttr];refine bq (adZ l v h H aw g bc p ak) ?_;rintro x J ⟨rfl,i,rfl,au⟩;simp only [au,↓aa,ae,simprocAttr]
theorem ahY (c:Int) (h:ah):ff Tryz.prog 87 [.int .u8 c] h (.bool (!rO c)) h:=by refine mm (YN.z rfl (ck ?_));unfold OE;simp only [↓aa,ae,simprocAttr];refine ey (So _ _) ?_;simp only [↓aa,ae,simprocAttr]
theorem adV (t:List UInt8) (L:List (List UInt8)) (v:V) (h:ah) (H:e3 h 1 v L.length (ed L)) (cB:L.length<=100000):
 b8 Tryz.prog 92 [v,.str t] h fun x ab=>ab=h/\∃i:Int,x=.int .i64 i/\decide (0<=i)=L.contains t:=by
 refine YS.z rfl (ck ?_);unfold OJ;simp only [H.len,↓aa,ae,simprocAttr];refine fE (fun r ab=>ab=h/\r 0=v/\r 1=.str t/\r 7=.int .i64 L.length/\∃i:Nat,r 8=.int .i64 i/\i<=L.length/\L.contains t=(L.drop i).contains t) (fun r ab=>L.length - (r 8).toN) ?_ ?_
 . exact ⟨rfl,by simp only [↓aa,ae,simprocAttr],by simp only [↓aa,ae,simprocAttr],by simp only [↓aa,ae,simprocAttr],0,by simp only [↓aa,ae,simprocAttr]<;>rfl,by omega,rfl⟩
 . rintro r ab ⟨rfl,ba,bM,hx,i,dS,au,bz⟩;unfold OK;by_cases aH:i<L.length
   . have g0:((i:Int) < (L.length:Int))=True:=anJ (by omega);obtain ⟨b9,dc,hd,dp⟩:=H.dj (k:=.i64) aH;have ep:=dp.ep (i:=i * 1) (by rw [uX];omega);simp only [ao4] at ep hd;have Bj:(ed L)[i]'(by rw [uX];exact aH)=.str L[i]:=by
      have:=Gc aH;rw [anv (by rw [uX];exact aH)] at this;exact aoN this
     rw [Bj] at ep;rw [Pt aH] at bz;have w:IntKind.i64.wrap ((i:Int)+1)=((i+1:Nat):Int):=by rw [wrap_i64 (by omega) (by omega)];rfl
     by_cases he:t=L[i]
     . have eW:decide (t=L[i])=true:=aoc he;simp only [ba,bM,hx,dS,g0,hd,ep,eW,↓aa,ae,simprocAttr];exact ⟨i,rfl,by rw [bz,<-he];simp⟩
     . have eW:decide (t=L[i])=false:=aoe he;simp only [ba,bM,hx,dS,g0,hd,ep,eW,w,↓aa,ae,simprocAttr];refine ⟨⟨i+1,rfl,aH,?_⟩,by omega⟩;rw [bz,aoe (fun q=>he q.symm),apd]
   . have g0:((i:Int) < (L.length:Int))=False:=anA (by omega);rw [an5 (by omega)] at bz;simp only [ba,bM,hx,dS,g0,↓aa,ae,simprocAttr];exact ⟨_,rfl,by rw [bz];rfl⟩
theorem OZ (t:List UInt8) (L:List (List UInt8)) (v:V) (h:ah) (H:e3 h 1 v L.length (ed L)) (cB:L.length<=100000):
 ff Tryz.prog 53 [v,.str t] h (.bool (L.contains t)) h:=by
 refine mm (Yh.z rfl (ck ?_));unfold N3;simp only [↓aa,ae,simprocAttr];refine bq (adV t L v h H cB) ?_;rintro x J ⟨rfl,i,rfl,au⟩;simp only [au,↓aa,ae,simprocAttr]
theorem Wu (s:List UInt8):(s.any fun c=>!rO c.toNat)=!(s.all fF):=by
 induction s with
 | nil=>rfl
 | cons c s bC=>rw [List.any_cons,aoy,bC,Bool.not_and];rfl
theorem L7 {s:List UInt8} (h:s.all fF=true):(32:UInt8) ∉ s:=fun q=>by have:=an0.1 h _ q;revert this;decide
theorem Kd (k:Int) (s:List UInt8) (aL:s.length<=100000) (h:ah):b8 Tryz.prog 51 [.int .i64 k,.str s] h fun x ab=>x=.bool (dG k s)/\Ext h ab:=by
 refine Yg.z rfl (ck ?_);unfold c51;by_cases oa:s=[]
 . subst oa;simp only [↓aa,ae,simprocAttr];exact ⟨rfl,Ext.refl _⟩
 obtain ⟨c,r,qy⟩:=List.exists_cons_of_ne_nil oa;have dI:(s=([]:List UInt8))=False:=anA oa;have iB:s[0]? =some c:=by rw [qy];rfl
 by_cases hlen:(64:Int) < (s.length:Int)
 . have aX:dG k s=false:=by
    unfold dG;rw [aoe (show ¬s.length<=64 by omega)];simp
   have wh:=anJ hlen;simp only [dI,wh,aX,↓aa,ae,simprocAttr];exact Ext.refl _
 have wh:=anA hlen;have rE:s.length<=top:=by unfold top;omega
 simp only [dI,wh,O1 s h rE,↓aa,ae,simprocAttr];have ar:Ext h (h.new (.a_ (ea s) 1 true)):=(Ext.refl h).new _;have hb:=(O2 s h).v;generalize h.new (.a_ (ea s) 1 true)=J at *;refine ey (ZC s _ J hb aL 87 (by decide) _ ahY) ?_;rw [Wu];cases dx:s.all fF with
 | false=>
   have aX:dG k s=false:=by unfold dG;rw [dx];simp
   simp only [aX,↓aa,ae,simprocAttr];exact ar
 | true=>
   have f1:((0:Int) < (s.length:Int))=True:=anJ (by rw [qy];simp only [anz];omega);have aX:dG k s=(if k=3 then (lg s||s.head? == some 95)&&!decide (s=[95])&&!hr s else if k=4 then ys s else lg s):=by unfold dG;rw [dx,aoc (show s.length<=64 by omega),aoc (show s≠[] from oa)];simp
   rw [aX];by_cases aC:k=3
   . have dY:(k=3)=True:=anJ aC;have hu:((c.toNat:Int)=95)=(c=95):=pW c 95 (by omega);have aj:(lg s||s.head? == some 95)=(hg c.toNat||decide (c=95)):=by
      rw [qy];show (hg c.toNat||(some c == some 95))=_;congr 1
     rw [aj];have pr:(1+s.length<=17179869184)=True:=anJ (by omega);have ps:(s.length+1+1<=17179869184)=True:=anJ (by omega);have rv:(s.length+2<=17179869184)=True:=anJ (by omega);simp only [dY,f1,iB,aoF,an7,↓aa,ae,simprocAttr];refine ey (zF _ _) ?_;cases jY:hg (c.toNat:Int) with
     | false=>
       by_cases A5:c=95
       . have ka:=anJ A5;by_cases J:s=[95]
         . have fD:=anJ J;simp only [jY,hu,ka,fD,f1,iB,aoF,↓aa,ae,simprocAttr];exact ar
         . have fD:=anA J;simp only [jY,hu,ka,fD,f1,iB,pr,ps,rv,anO,anP,aoF,↓aa,ae,simprocAttr];refine ey (AR y0 (32::(s++[32])) (by decide) _) ?_;rw [DN s (L7 dx)];simp only [jY,hu,ka,fD,↓aa,ae,simprocAttr];exact ar
       . have ka:=anA A5;simp only [jY,hu,ka,f1,iB,aoF,↓aa,ae,simprocAttr];exact ar
     | true=>
       have ka:True=True:=rfl;by_cases J:s=[95]
       . have fD:=anJ J;simp only [jY,hu,ka,fD,f1,iB,aoF,↓aa,ae,simprocAttr];exact ar
       . have fD:=anA J;simp only [jY,hu,ka,fD,f1,iB,pr,ps,rv,anO,anP,aoF,↓aa,ae,simprocAttr];refine ey (AR y0 (32::(s++[32])) (by decide) _) ?_;rw [DN s (L7 dx)];simp only [jY,hu,ka,fD,↓aa,ae,simprocAttr];exact ar
   . have dY:(k=3)=False:=anA aC;by_cases bn:k=4
     . have eQ:(k=4)=True:=anJ bn;simp only [dY,eQ,f1,iB,aoF,an7,an4,↓aa,ae,simprocAttr];refine ey (H8 _ _) ?_;simp only [↓aa,ae,simprocAttr];exact ⟨by rw [qy];rfl,ar⟩
     . have eQ:(k=4)=False:=anA bn;simp only [dY,eQ,f1,iB,aoF,an7,an4,↓aa,ae,simprocAttr];refine ey (zF _ _) ?_;simp only [↓aa,ae,simprocAttr];exact ⟨by rw [qy];rfl,ar⟩
theorem index_one (c:UInt8):∀s:List UInt8,(0<=Lib.index s [c])↔c ∈ s
 | []=>by simp [Lib.index]
 | d::s=>by rw [JA,index_one c s,an2];simp [List.isPrefixOf]
theorem ZE (c:UInt8) (s:List UInt8):Lib.contains s [c]=decide (c ∈ s):=by unfold Lib.contains;rw [aon,anM,anM];exact index_one c s
theorem afu {t:List UInt8} (h:hr t=true):(32:UInt8) ∉ t:=by
 have hm:t ∈ iR:=by unfold hr at h;simpa using h
 exact (show ∀t ∈ iR,(32:UInt8) ∉ t by decide) t hm
theorem E' (n:Int) (s:List UInt8):jl 1 n s=(decide (s=[])&&decide (-1073741824<=n)&&decide (n<=1073741823)):=rfl
theorem SH (n:Int) (s:List UInt8):jl 2 n s=(decide (n=0)&&decide (s.length<=4096)):=rfl
theorem ahy (n:Int) (s:List UInt8):jl 3 n s=(decide (n=0)&&dG 3 s):=rfl
theorem ahz (n:Int) (s:List UInt8):jl 4 n s=(decide (n=0)&&dG 4 s):=rfl
theorem ahA (n:Int) (s:List UInt8):jl 5 n s=(decide (n=0)&&dG 5 s):=rfl
theorem SI (n:Int) (s:List UInt8):jl 6 n s=(decide (n=0)&&hr s):=rfl
theorem SJ (n:Int) (s:List UInt8):jl 7 n s=(decide (n=0)&&gK.contains s):=rfl
theorem ahf (k n p:Int) (s:List UInt8) (aL:s.length<=90000) (h:ah):b8 Tryz.prog 28 [.agg [.int .i64 k,.int .i64 n,.int .i64 p,.str s]] h fun x ab=>x=.bool (jl k n s)/\Ext h ab:=by
 refine XX.z rfl (ck ?_);unfold NB;have ar:Ext h (h.new (.a_ [.int .i64 k,.int .i64 n,.int .i64 p,.str s] 0 false)):=(Ext.refl h).new _;by_cases J:k=1
 . subst J;rw [E'];by_cases al:s=[]
   . have eg:=anJ al;by_cases aN:-1073741824<=n
     . have lW:=anJ aN;simp only [eg,lW,↓aa,ae,simprocAttr];exact ar
     . have lW:=anA aN;simp only [eg,lW,↓aa,ae,simprocAttr];exact ar
   . have eg:=anA al;simp only [eg,↓aa,ae,simprocAttr];exact ar
 by_cases ad:k=2
 . subst ad;rw [SH];have aw:((s.length:Int)<=4096)=(s.length<=4096):=propext ⟨fun q=>by omega,fun q=>by omega⟩;by_cases al:n=0
   . have eg:=anJ al;simp only [eg,aw,↓aa,ae,simprocAttr];exact ar
   . have eg:=anA al;simp only [eg,↓aa,ae,simprocAttr];exact ar
 by_cases po:k=3\/k=4\/k=5
 . have hm:jl k n s=(decide (n=0)&&dG k s):=by rcases po with rfl | rfl | rfl<;>rfl
   rw [hm];have bX:=anA J;have b_:=anA ad;have key:∀R:ah->Prop,(∀ab,Ext h ab->R ab)->True:=fun _ _=>trivial;rcases po with rfl | rfl | rfl
   . by_cases al:n=0
     . have eg:=anJ al;simp only [eg,↓aa,ae,simprocAttr];refine bq (Kd 3 s (by omega) _) ?_;rintro x ad ⟨rfl,fP⟩;simp only [↓aa,ae,simprocAttr];exact ar.trans fP
     . have eg:=anA al;simp only [eg,↓aa,ae,simprocAttr];exact ar
   . by_cases al:n=0
     . have eg:=anJ al;simp only [eg,↓aa,ae,simprocAttr];refine bq (Kd 4 s (by omega) _) ?_;rintro x ad ⟨rfl,fP⟩;simp only [↓aa,ae,simprocAttr];exact ar.trans fP
     . have eg:=anA al;simp only [eg,↓aa,ae,simprocAttr];exact ar
   . by_cases al:n=0
     . have eg:=anJ al;simp only [eg,↓aa,ae,simprocAttr];refine bq (Kd 5 s (by omega) _) ?_;rintro x ad ⟨rfl,fP⟩;simp only [↓aa,ae,simprocAttr];exact ar.trans fP
     . have eg:=anA al;simp only [eg,↓aa,ae,simprocAttr];exact ar
 have aC:¬k=3:=fun q=>po (.inl q);have bn:¬k=4:=fun q=>po (.inr (.inl q));have b0:¬k=5:=fun q=>po (.inr (.inr q));by_cases eo:k=6
 . subst eo;rw [SI];by_cases al:n=0
   . have eg:=anJ al;by_cases aN:s=[]
     . have lW:=anJ aN;have ay:hr s=false:=by rw [aN];rfl
       simp only [eg,lW,ay,↓aa,ae,simprocAttr];exact ar
     . have lW:=anA aN;simp only [eg,lW,↓aa,ae,simprocAttr];refine ey (AR s [32] (by omega) _) ?_;rw [ZE];by_cases cj:(32:UInt8) ∈ s
       . have ay:hr s=false:=by
          cases aq:hr s with
          | false=>rfl
          | true=>exact absurd cj (afu aq)
         have vC:=anJ cj;simp only [eg,lW,vC,ay,↓aa,ae,simprocAttr];exact ar
       . have vC:=anA cj;have pr:(1+s.length<=17179869184)=True:=anJ (by omega);have ps:(s.length+1+1<=17179869184)=True:=anJ (by omega);have rv:(s.length+2<=17179869184)=True:=anJ (by omega);simp only [eg,lW,vC,pr,ps,rv,anO,anP,↓aa,ae,simprocAttr];refine ey (AR y0 (32::(s++[32])) (by decide) _) ?_;rw [DN s cj];simp only [↓aa,ae,simprocAttr];exact ar
   . have eg:=anA al;simp only [eg,↓aa,ae,simprocAttr];exact ar
 by_cases fl:k=7
 . subst fl;rw [SJ];by_cases al:n=0
   . have eg:=anJ al;simp +contextual (maxSteps:=1000000) only [eg,↓aa,ae,simprocAttr];generalize tL:h.new (.a_ [.int .i64 7,.int .i64 n,.int .i64 p,.str s] 0 false)=H1 at ar ⊢;have g1:H1.get (aD h.next)=.a_ [.int .i64 7,.int .i64 n,.int .i64 p,.str s] 0 false:=by rw [<-tL,jD]
     have dc:Old H1 (aD h.next):=by rw [<-tL];exact hE (by rw [gI];omega)
     refine bq (UB H1) ?_;rintro x ad ⟨rfl,rfl⟩;have fP:Ext H1 (H1.new (.a_ qR 0 false)):=(Ext.refl H1).new _;have g2:(H1.new (.a_ qR 0 false)).get (aD h.next)=.a_ [.int .i64 7,.int .i64 n,.int .i64 p,.str s] 0 false:=by rw [fP.get _ dc,g1]
     have bB:e3 (H1.new (.a_ qR 0 false)) 1 (.slice (aD H1.next) 0 17 17) gK.length (ed gK):=⟨rfl,rfl,hE (by rw [gI];omega),qR,.inr ⟨0,false,jD _⟩,by decide,rfl⟩;generalize H1.new (.a_ qR 0 false)=cN at fP g2 bB ⊢;simp +contextual (maxSteps:=1000000) only [eg,g1,g2,↓aa,ae,simprocAttr];refine ey (OZ s gK _ cN bB (by decide)) ?_;simp +contextual (maxSteps:=1000000) only [eg,g1,g2,↓aa,ae,simprocAttr];exact ar.trans fP
   . have eg:=anA al;simp +contextual (maxSteps:=1000000) only [eg,↓aa,ae,simprocAttr];exact ar
 have hm:jl k n s=false:=by unfold jl;simp [J,ad,po,eo,fl]
 have bX:=anA J;have b_:=anA ad;have dY:=anA aC;have eQ:=anA bn;have fz:=anA b0;have il:=anA eo;have hS:=anA fl;rw [hm];simp only [bX,b_,dY,eQ,fz,il,hS,↓aa,ae,simprocAttr];exact ar
theorem wrap_u8 {n:Int} (a6:0<=n) (J:n<256):IntKind.u8.wrap n=n:=by simp [IntKind.wrap,IntKind.bits,IntKind.signed];omega
theorem At {B:Nat} {h:ah} {size:Nat} {s:V} {n m:Nat} {us cs:List V} (cx:1<=size) (H1:cZ B h size s n us) (dz:B<=h.next) (hlen:(n+m) * size<=top) (hc:cs.length=m * size) (a1:fi cs=true):
 ∃v ab,jz size s (.slice (aD h.next) 0 m m) (h.new (.a_ cs 0 false))=.val v ab/\cZ B ab size v (n+m) (us++cs)/\Mod s.bh h ab/\h.next+1<=ab.next/\∀b,v.bh b->s.bh b\/h.next<cY b:=by
 have ar:Ext h (h.new (.a_ cs 0 false)):=(Ext.refl h).new _;have bB:e3 (h.new (.a_ cs 0 false)) size (.slice (aD h.next) 0 m m) m cs:=by refine ⟨hc,rfl,hE (by rw [gI];omega),cs,.inr ⟨0,false,by rw [jD]⟩,by omega,by simp⟩
 obtain ⟨v,ab,ag,av,aJ,bU⟩:=Au cx (H1.ext ar) bB (by rw [gI];omega) hlen a1;refine ⟨v,ab,ag,av,(ar.mod _).trans aJ,by have:=aJ.next;rw [gI] at this;exact this,fun b aj=>?_⟩;rcases bU b aj with q | q
 . exact .inl q
 . exact .inr (by rw [gI] at q;omega)
def h5 (c:UInt8):List UInt8:=
 if c=34\/c=92 then [92,c] else if c.toNat<32\/127<=c.toNat then [92,(48+c.toNat / 100).toUInt8,(48+c.toNat / 10 % 10).toUInt8,(48+c.toNat % 10).toUInt8] else [c]
def qN (s:List UInt8):List UInt8:=34::(s.flatMap h5++[34])
theorem ajc (c:UInt8):(h5 c).length<=4:=by
 unfold h5
 split
 . simp
 . split<;>simp
theorem KN:∀s:List UInt8,(s.flatMap h5).length<=4 * s.length
 | []=>by simp
 | c::s=>by rw [List.flatMap_cons,anw,anz];have:=ajc c;have:=KN s;omega
theorem UU {s:List UInt8} {i:Nat} (au:i<s.length):(s.take (i+1)).flatMap h5=(s.take i).flatMap h5++h5 s[i]:=by rw [<-apn au,List.flatMap_append];simp
theorem FG (a k:Nat) (bF:a<256) (ay:k≠0):(dV.int .quo).run Tryz.prog (.int .u8 (a:Int)) (.int .u8 (k:Int))=some (.int .u8 ((a / k:Nat):Int)):=by have aq:a / k<=a:=Nat.div_le_self ..;rw [RT .u8 _ _ (by omega),<-Int.ofNat_tdiv,wrap_u8 (Int.natCast_nonneg _) (Int.ofNat_lt.2 (Nat.lt_of_le_of_lt aq bF))]
theorem FU (a k:Nat) (ay:k≠0):(dV.int .rem).run Tryz.prog (.int .u8 (a:Int)) (.int .u8 (k:Int))=some (.int .u8 ((a % k:Nat):Int)):=by rw [RU .u8 _ _ (by omega),<-Int.ofNat_tmod]
theorem zT (a:Nat) (bF:a<=9):IntKind.u8.wrap (48 + (a:Int))=((48+a:Nat):Int):=by rw [wrap_u8 (by omega) (by omega)];omega
theorem Lg (a:Nat) (bF:a<256):(a.toUInt8.toNat:Int)=(a:Int):=by simp;omega
theorem MA (c:UInt8):ea [92,(48+c.toNat / 100).toUInt8,(48+c.toNat / 10 % 10).toUInt8,(48+c.toNat % 10).toUInt8]=[.int .u8 92,.int .u8 ((48+c.toNat / 100:Nat):Int),.int .u8 ((48+c.toNat / 10 % 10:Nat):Int),.int .u8 ((48+c.toNat % 10:Nat):Int)]:=by have ao:=c.toNat_lt;simp only [ea,Lg _ (show 48+c.toNat / 100<256 by omega),Lg _ (show 48+c.toNat / 10 % 10<256 by omega),Lg _ (show 48+c.toNat % 10<256 by omega)];rfl
theorem ajf (s:List UInt8) (aL:s.length<=90000) (h:ah):b8 Tryz.prog 30 [.str s] h fun x ab=>x=.str (qN s)/\Ext h ab:=by
 refine XY.z rfl (ck ?_);unfold NC;have rE:s.length<=top:=by unfold top;omega
 simp only [O1 s _ rE,↓aa,ae,simprocAttr];have qC:Ext h (h.new (.a_ [.int .u8 34] 0 false)):=(Ext.refl h).new _;have Jo:cZ h.next (h.new (.a_ [.int .u8 34] 0 false)) 1 (.slice (aD h.next) 0 1 1) 1 (ea [34]):=⟨rfl,rfl,by rw [ee];exact anD _,hE (by rw [gI];omega),anD _,by unfold top;omega,_,0,false,jD _,by simp,rfl⟩
 have iP:(h.new (.a_ [.int .u8 34] 0 false)).next=h.next+1:=gI _ _
 generalize h.new (.a_ [.int .u8 34] 0 false)=J at *;have rG:Ext J (J.new (.a_ (ea s) 1 true)):=(Ext.refl J).new _;have hb:=(O2 s J).v;have yE:(J.new (.a_ (ea s) 1 true)).next=h.next+2:=by rw [gI,iP]
 have adB:=Jo.ext rG;have fP:=qC.trans rG;generalize J.new (.a_ (ea s) 1 true)=ad at *;rw [iP] at hb
 refine fE (fun r ab=>∃(i:Nat) (v:V) (n:Nat),r 3=v/\r 8=.et (aD (h.next+1)) 0 s.length 0/\r 9=.int .i64 s.length/\r 10=.int .i64 i/\i<=s.length/\n<=1+4 * i/\
  cZ h.next ab 1 v n (ea (34::(s.take i).flatMap h5))/\e3 ab 1 (.et (aD (h.next+1)) 0 s.length 0) s.length (ea s)/\Ext h ab/\h.next+2<=ab.next/\∀b,v.bh b->b≠aD (h.next+1)) (fun r ab=>s.length - (r 10).toN) ?_ ?_
 . refine ⟨0,_,1,by simp only [↓aa,ae,simprocAttr]<;>rfl,by simp only [↓aa,ae,simprocAttr],by simp only [↓aa,ae,simprocAttr],by simp only [↓aa,ae,simprocAttr]<;>rfl,by omega,by omega,adB,hb,fP,by omega,?_⟩;intro b aj e;rw [show b=aD h.next from aj,s3] at e;omega
 . rintro r ab ⟨i,v,n,bY,dS,iX,hv,au,aX,bB,Qp,ar,mH,yO⟩;unfold ND;by_cases aH:i<s.length
   . have g0:((i:Int) < (s.length:Int))=True:=anJ (by omega);have Bd:=(s[i]).toNat_lt;obtain ⟨b9,dc,hd,dp⟩:=Qp.dj (k:=.i64) aH;have ep:=dp.ep (i:=i * 1) (by rw [oQ];omega);simp only [ao4] at ep hd;rw [Hq s i aH] at ep;have w:IntKind.i64.wrap ((i:Int)+1)=((i+1:Nat):Int):=by rw [wrap_i64 (by omega) (by omega)];rfl
     have hO:(((s[i]).toNat:Int)=34)=(s[i]=34):=pW _ 34 (by omega);have nj:(((s[i]).toNat:Int)=92)=(s[i]=92):=pW _ 92 (by omega);have on:∀(m:Nat) (cs:List V),cs=ea (h5 s[i])->cs.length=m * 1->m<=4->∃c_ aC,jz 1 v (.slice (aD ab.next) 0 m m) (ab.new (.a_ cs 0 false))=.val c_ aC/\cZ h.next aC 1 c_ (n+m) (ea (34::(s.take (i+1)).flatMap h5))/\e3 aC 1 (.et (aD (h.next+1)) 0 s.length 0) s.length (ea s)/\Ext h aC/\h.next+2<=aC.next/\∀b,c_.bh b->b≠aD (h.next+1):=by
      intro m cs hc aw hm;obtain ⟨c_,aC,ag,av,aJ,bU,cX⟩:=At (m:=m) (cs:=cs) (by omega) bB ar.next (by unfold top;omega) aw (by rw [hc];exact DI _)
      refine ⟨c_,aC,ag,?_,Qp.mod aJ (fun b aj aq=>yO b aq aj),ar.me aJ (fun b aj=>bB.base aj),by omega,fun b aj=>?_⟩
      . rw [UU aH,<-anO,vw,<-hc];exact av
      . rcases cX b aj with q | q
        . exact yO b q
        . intro e;rw [e,ee] at q;omega
     by_cases J:s[i]=34\/s[i]=92
     . have aq:h5 s[i]=[92,s[i]]:=by unfold h5;rw [anL J]
       obtain ⟨c_,aC,ag,av,aJ,bU,cX,ev⟩:=on 2 [.int .u8 92,.int .u8 ((s[i]).toNat:Int)] (by rw [aq];rfl) rfl (by omega);have fin:(h.next+2<=aC.next):=cX;by_cases sq:s[i]=34
       . have t1:=anJ sq;simp only [bY,dS,iX,hv,g0,hd,ep,hO,nj,t1,ag,w,↓aa,ae,simprocAttr];exact ⟨⟨i+1,c_,n+2,rfl,rfl,aH,by omega,av,aJ,bU,cX,ev⟩,by omega⟩
       . have t1:=anA sq;have t2:=anJ (J.resolve_left sq);simp only [bY,dS,iX,hv,g0,hd,ep,hO,nj,t1,t2,ag,w,↓aa,ae,simprocAttr];exact ⟨⟨i+1,c_,n+2,rfl,rfl,aH,by omega,av,aJ,bU,cX,ev⟩,by omega⟩
     . have n34:=anA (fun q=>J (.inl q):¬s[i]=34);have wX:=anA (fun q=>J (.inr q):¬s[i]=92);by_cases ad:(s[i]).toNat<32\/127<=(s[i]).toNat
       . have aq:h5 s[i]=[92,(48 + (s[i]).toNat / 100).toUInt8,(48 + (s[i]).toNat / 10 % 10).toUInt8,(48 + (s[i]).toNat % 10).toUInt8]:=by unfold h5;rw [anE J,anL ad]
         obtain ⟨c_,aC,ag,av,aJ,bU,cX,ev⟩:=on 4 [.int .u8 92,.int .u8 ((48 + (s[i]).toNat / 100:Nat):Int),.int .u8 ((48 + (s[i]).toNat / 10 % 10:Nat):Int),.int .u8 ((48 + (s[i]).toNat % 10:Nat):Int)] (by rw [aq,MA]) rfl (by omega);have bf:(dV.int .quo).run Tryz.prog (.int .u8 ((s[i]).toNat:Int)) (.int .u8 100)=some (.int .u8 (((s[i]).toNat / 100:Nat):Int)):=FG (s[i]).toNat 100 Bd (by omega);have du:(dV.int .quo).run Tryz.prog (.int .u8 ((s[i]).toNat:Int)) (.int .u8 10)=some (.int .u8 (((s[i]).toNat / 10:Nat):Int)):=FG (s[i]).toNat 10 Bd (by omega);have u1:(dV.int .rem).run Tryz.prog (.int .u8 (((s[i]).toNat / 10:Nat):Int)) (.int .u8 10)=some (.int .u8 (((s[i]).toNat / 10 % 10:Nat):Int)):=FU ((s[i]).toNat / 10) 10 (by omega);have CU:(dV.int .rem).run Tryz.prog (.int .u8 ((s[i]).toNat:Int)) (.int .u8 10)=some (.int .u8 (((s[i]).toNat % 10:Nat):Int)):=FU (s[i]).toNat 10 (by omega);have b4:=zT ((s[i]).toNat / 100) (by omega);have b1:=zT ((s[i]).toNat / 10 % 10) (by omega);have jt:=zT ((s[i]).toNat % 10) (by omega);by_cases Ie:(s[i]).toNat<32
         . have t1:(((s[i]).toNat:Int)<32)=True:=anJ (by omega);simp only [bY,dS,iX,hv,g0,hd,ep,hO,nj,n34,wX,t1,bf,du,u1,CU,b4,b1,jt,ag,w,↓aa,ae,simprocAttr];exact ⟨⟨i+1,c_,n+4,rfl,rfl,aH,by omega,av,aJ,bU,cX,ev⟩,by omega⟩
         . have t1:(((s[i]).toNat:Int)<32)=False:=anA (by omega);have t2:((127:Int)<=((s[i]).toNat:Int))=True:=anJ (by omega);simp only [bY,dS,iX,hv,g0,hd,ep,hO,nj,n34,wX,t1,t2,bf,du,u1,CU,b4,b1,jt,ag,w,↓aa,ae,simprocAttr];exact ⟨⟨i+1,c_,n+4,rfl,rfl,aH,by omega,av,aJ,bU,cX,ev⟩,by omega⟩
       . have aq:h5 s[i]=[s[i]]:=by unfold h5;rw [anE J,anE ad]
         obtain ⟨c_,aC,ag,av,aJ,bU,cX,ev⟩:=on 1 [.int .u8 ((s[i]).toNat:Int)] (by rw [aq];rfl) rfl (by omega);have t1:(((s[i]).toNat:Int)<32)=False:=anA (by omega);have t2:((127:Int)<=((s[i]).toNat:Int))=False:=anA (by omega);simp only [bY,dS,iX,hv,g0,hd,ep,hO,nj,n34,wX,t1,t2,ag,w,↓aa,ae,simprocAttr];exact ⟨⟨i+1,c_,n+1,rfl,rfl,aH,by omega,av,aJ,bU,cX,ev⟩,by omega⟩
   . have kf:i=s.length:=by omega
     have g0:((i:Int) < (s.length:Int))=False:=anA (by omega);have aw:=KN s;rw [kf,ao8] at bB;obtain ⟨c_,aC,ag,av,aJ,bU,cX⟩:=At (m:=1) (cs:=[.int .u8 34]) (by omega) bB ar.next (by unfold top;omega) rfl rfl
     have aj:ea (34::s.flatMap h5)++[.int .u8 34]=ea (qN s):=by unfold qN;rw [<-anO,vw];rfl
     rw [aj] at av;have hlen:n+1=(qN s).length:=by have:=av.1;rw [oQ,ao4] at this;omega
     rw [hlen] at av;simp only [bY,dS,iX,hv,g0,ag,AS av,↓aa,ae,simprocAttr];exact ar.me aJ (fun b aj=>bB.base aj)
def Sn (c:Int):Bool:=oE c 97 122||oE c 65 90||oE c 48 57||decide (c=95)||decide (c=39)
theorem ag6 (c:UInt8):Sn (c.toNat:Int)=fF c:=by unfold Sn fF rO oE nY hg n2;generalize (c.toNat:Int)=x;cases decide (97<=x)<;>cases decide (x<=122)<;>cases decide (65<=x)<;>cases decide (x<=90)<;>cases decide (48<=x)<;>cases decide (x<=57)<;>cases decide (x=95)<;>cases decide (x=39)<;>rfl
theorem acf {s:List UInt8} {c:UInt8} {r:List UInt8} (h:s=c::r):lg s=hg c.toNat:=by rw [h];rfl
theorem o6 (k:Int) (s:List UInt8) (aL:s.length<=17179869184) (ay:k=3\/k=4\/k=5) (h:ah):b8 Tryz.prog 59 [.int .i64 k,.str s] h fun x ab=>x=.bool (dG k s)/\Ext h ab:=by
 refine Yj.z rfl (ck ?_);unfold N5;by_cases oa:s=[]
 . subst oa;simp only [↓aa,ae,simprocAttr];exact ⟨rfl,Ext.refl _⟩
 obtain ⟨c,r,qy⟩:=List.exists_cons_of_ne_nil oa;have dI:(s=([]:List UInt8))=False:=anA oa;have iB:s[0]? =some c:=by rw [qy];rfl
 by_cases hlen:(64:Int) < (s.length:Int)
 . have aX:dG k s=false:=by
    unfold dG;rw [aoe (show ¬s.length<=64 by omega)];simp
   have wh:=anJ hlen;simp only [dI,wh,aX,↓aa,ae,simprocAttr];exact Ext.refl _
 have wh:=anA hlen;simp only [dI,wh,↓aa,ae,simprocAttr];refine fE (fun r ab=>ab=h/\r 0=.int .i64 k/\r 1=.str s/\∃i:Nat,r 5=.int .i64 i/\i<=s.length/\s.all fF=(s.drop i).all fF) (fun r ab=>s.length - (r 5).toN) ?_ ?_
 . exact ⟨rfl,by simp only [↓aa,ae,simprocAttr],by simp only [↓aa,ae,simprocAttr],0,by simp only [↓aa,ae,simprocAttr]<;>rfl,by omega,rfl⟩
 . rintro R ab ⟨rfl,ba,bM,i,cW,au,bz⟩;unfold N6;by_cases aH:i<s.length
   . have g0:((i:Int) < (s.length:Int))=True:=anJ (by omega);have g1:(0<=(i:Int))=True:=anJ (by omega);rw [anZ aH,aoy] at bz;have w:IntKind.i64.wrap ((i:Int)+1)=((i+1:Nat):Int):=by rw [wrap_i64 (by omega) (by omega)];rfl
     simp only [ba,bM,cW,g0,g1,anv aH,anI,↓aa,ae,simprocAttr];refine ey (VP _ _) ?_;rw [show (oE (s[i].toNat:Int) 97 122||oE (s[i].toNat:Int) 65 90||oE (s[i].toNat:Int) 48 57||decide ((s[i].toNat:Int)=95)||decide ((s[i].toNat:Int)=39))=fF s[i] from ag6 _];cases aw:fF s[i] with
     | true=>
       simp only [ba,bM,cW,w,↓aa,ae,simprocAttr];exact ⟨⟨i+1,rfl,aH,by rw [bz,aw,aoC]⟩,by omega⟩
     | false=>
       have aX:dG k s=false:=by unfold dG;rw [bz,aw];simp
       simp only [aX,↓aa,ae,simprocAttr];exact Ext.refl _
   . have g0:((i:Int) < (s.length:Int))=False:=anA (by omega);rw [an5 (by omega)] at bz;have dx:s.all fF=true:=by rw [bz];rfl
     have f1:((0:Int) < (s.length:Int))=True:=anJ (by rw [qy];simp only [anz];omega);have aX:dG k s=(if k=3 then (lg s||s.head? == some 95)&&!decide (s=[95])&&!hr s else if k=4 then ys s else lg s):=by unfold dG;rw [dx,aoc (show s.length<=64 by omega),aoc (show s≠[] from oa)];simp
     rw [aX];have aj:(lg s||s.head? == some 95)=(hg c.toNat||decide (c=95)):=by rw [qy];show (hg c.toNat||(some c == some 95))=_;congr 1
     have adp:lg s=hg c.toNat:=acf qy;have acv:ys s=n2 c.toNat:=by rw [qy];rfl
     rw [aj];have hu:((c.toNat:Int)=95)=(c=95):=pW c 95 (by omega);rcases ay with rfl | rfl | rfl
     . simp only [ba,bM,cW,g0,f1,iB,aoF,an7,↓aa,ae,simprocAttr];refine ey (zQ _ _ _ _) ?_;rw [show oE (c.toNat:Int) 97 122=hg (c.toNat:Int) from rfl];cases jY:hg (c.toNat:Int) with
       | false=>
         by_cases A5:c=95
         . have ka:=anJ A5;by_cases J:s=[95]
           . have fD:=anJ J;simp only [ba,bM,jY,hu,ka,fD,f1,iB,aoF,↓aa,ae,simprocAttr];exact Ext.refl _
           . have fD:=anA J;simp only [ba,bM,jY,hu,ka,fD,f1,iB,aoF,↓aa,ae,simprocAttr];refine bq (ES _) ?_;rintro x J ⟨rfl,rfl⟩;simp only [ba,bM,jY,hu,ka,fD,f1,iB,↓aa,ae,simprocAttr];refine ey (ud s iR _ 20 _ (by decide) (by rw [jD])) ?_;have ru:iR.contains s=hr s:=rfl;rw [ru];simp only [ba,bM,jY,hu,ka,fD,↓aa,ae,simprocAttr];exact (Ext.refl _).new _
         . have ka:=anA A5;simp only [ba,bM,jY,hu,ka,f1,iB,aoF,↓aa,ae,simprocAttr];exact Ext.refl _
       | true=>
         have ka:True=True:=rfl;by_cases J:s=[95]
         . have fD:=anJ J;simp only [ba,bM,jY,hu,ka,fD,f1,iB,aoF,↓aa,ae,simprocAttr];exact Ext.refl _
         . have fD:=anA J;simp only [ba,bM,jY,hu,ka,fD,f1,iB,aoF,↓aa,ae,simprocAttr];refine bq (ES _) ?_;rintro x J ⟨rfl,rfl⟩;simp only [ba,bM,jY,hu,ka,fD,f1,iB,↓aa,ae,simprocAttr];refine ey (ud s iR _ 20 _ (by decide) (by rw [jD])) ?_;have ru:iR.contains s=hr s:=rfl;rw [ru];simp only [ba,bM,jY,hu,ka,fD,↓aa,ae,simprocAttr];exact (Ext.refl _).new _
     . simp only [ba,bM,cW,g0,f1,iB,aoF,an7,an4,↓aa,ae,simprocAttr];refine ey (zQ _ _ _ _) ?_;rw [acv];simp only [↓aa,ae,simprocAttr];exact ⟨rfl,Ext.refl _⟩
     . simp only [ba,bM,cW,g0,f1,iB,aoF,an7,an4,↓aa,ae,simprocAttr];refine ey (zQ _ _ _ _) ?_;rw [adp];simp only [↓aa,ae,simprocAttr];exact ⟨rfl,Ext.refl _⟩
theorem ajw (k n p:Int) (s:List UInt8) (aL:s.length<=90000) (h:ah):b8 Tryz.prog 32 [.agg [.int .i64 k,.int .i64 n,.int .i64 p,.str s]] h fun x ab=>x=.bool (jl k n s)/\Ext h ab:=by
 refine XZ.z rfl (ck ?_);unfold tC;have ar:Ext h (h.new (.a_ [.int .i64 k,.int .i64 n,.int .i64 p,.str s] 0 false)):=(Ext.refl h).new _;by_cases J:k=1
 . subst J;rw [E'];by_cases aN:-1073741824<=n
   . have lW:=anJ aN;by_cases cj:n<=1073741823
     . have vC:=anJ cj;simp only [lW,vC,↓aa,ae,simprocAttr];exact ar
     . have vC:=anA cj;simp only [lW,vC,↓aa,ae,simprocAttr];exact ar
   . have lW:=anA aN;simp only [lW,↓aa,ae,simprocAttr];exact ar
 by_cases ad:k=2
 . subst ad;rw [SH];have aw:((s.length:Int)<=4096)=(s.length<=4096):=propext ⟨fun q=>by omega,fun q=>by omega⟩;by_cases al:n=0
   . have eg:=anJ al;simp only [eg,aw,↓aa,ae,simprocAttr];exact ar
   . have eg:=anA al;simp only [eg,↓aa,ae,simprocAttr];exact ar
 by_cases po:k=3\/k=4\/k=5
 . rcases po with rfl | rfl | rfl
   . rw [ahy];by_cases al:n=0
     . have eg:=anJ al;simp only [eg,↓aa,ae,simprocAttr];refine bq (o6 3 s (by omega) (.inl rfl) _) ?_;rintro x ad ⟨rfl,fP⟩;simp only [↓aa,ae,simprocAttr];exact ar.trans fP
     . have eg:=anA al;simp only [eg,↓aa,ae,simprocAttr];exact ar
   . rw [ahz];by_cases al:n=0
     . have eg:=anJ al;simp only [eg,↓aa,ae,simprocAttr];refine bq (o6 4 s (by omega) (.inr (.inl rfl)) _) ?_;rintro x ad ⟨rfl,fP⟩;simp only [↓aa,ae,simprocAttr];exact ar.trans fP
     . have eg:=anA al;simp only [eg,↓aa,ae,simprocAttr];exact ar
   . rw [ahA];by_cases al:n=0
     . have eg:=anJ al;simp only [eg,↓aa,ae,simprocAttr];refine bq (o6 5 s (by omega) (.inr (.inr rfl)) _) ?_;rintro x ad ⟨rfl,fP⟩;simp only [↓aa,ae,simprocAttr];exact ar.trans fP
     . have eg:=anA al;simp only [eg,↓aa,ae,simprocAttr];exact ar
 have aC:¬k=3:=fun q=>po (.inl q);have bn:¬k=4:=fun q=>po (.inr (.inl q));have b0:¬k=5:=fun q=>po (.inr (.inr q));by_cases eo:k=6
 . subst eo;rw [SI];by_cases al:n=0
   . have eg:=anJ al;simp +contextual (maxSteps:=1000000) only [eg,↓aa,ae,simprocAttr];generalize tL:h.new (.a_ [.int .i64 6,.int .i64 n,.int .i64 p,.str s] 0 false)=H1 at ar ⊢;have g1:H1.get (aD h.next)=.a_ [.int .i64 6,.int .i64 n,.int .i64 p,.str s] 0 false:=by rw [<-tL,jD]
     have dc:Old H1 (aD h.next):=by rw [<-tL];exact hE (by rw [gI];omega)
     refine bq (ES H1) ?_;rintro x ad ⟨rfl,rfl⟩;have fP:Ext H1 (H1.new (.a_ (ed iR) 0 false)):=(Ext.refl H1).new _;have g2:(H1.new (.a_ (ed iR) 0 false)).get (aD h.next)=.a_ [.int .i64 6,.int .i64 n,.int .i64 p,.str s] 0 false:=by rw [fP.get _ dc,g1]
     have g3:(H1.new (.a_ (ed iR) 0 false)).get (aD H1.next)=.a_ (ed iR) 0 false:=jD _;generalize H1.new (.a_ (ed iR) 0 false)=cN at fP g2 g3 ⊢;simp +contextual (maxSteps:=1000000) only [eg,g1,g2,↓aa,ae,simprocAttr];refine ey (ud s iR (aD H1.next) 20 cN (by decide) g3) ?_;have ru:iR.contains s=hr s:=rfl;rw [ru];simp +contextual (maxSteps:=1000000) only [eg,g1,g2,↓aa,ae,simprocAttr];exact ar.trans fP
   . have eg:=anA al;simp +contextual (maxSteps:=1000000) only [eg,↓aa,ae,simprocAttr];exact ar
 by_cases fl:k=7
 . subst fl;rw [SJ];by_cases al:n=0
   . have eg:=anJ al;simp +contextual (maxSteps:=1000000) only [eg,↓aa,ae,simprocAttr];generalize tL:h.new (.a_ [.int .i64 7,.int .i64 n,.int .i64 p,.str s] 0 false)=H1 at ar ⊢;have g1:H1.get (aD h.next)=.a_ [.int .i64 7,.int .i64 n,.int .i64 p,.str s] 0 false:=by rw [<-tL,jD]
     have dc:Old H1 (aD h.next):=by rw [<-tL];exact hE (by rw [gI];omega)
     refine bq (ajy H1) ?_;rintro x ad ⟨rfl,rfl⟩;have fP:Ext H1 (H1.new (.a_ (ed gK) 0 false)):=(Ext.refl H1).new _;have g2:(H1.new (.a_ (ed gK) 0 false)).get (aD h.next)=.a_ [.int .i64 7,.int .i64 n,.int .i64 p,.str s] 0 false:=by rw [fP.get _ dc,g1]
     have g3:(H1.new (.a_ (ed gK) 0 false)).get (aD H1.next)=.a_ (ed gK) 0 false:=jD _;generalize H1.new (.a_ (ed gK) 0 false)=cN at fP g2 g3 ⊢;simp +contextual (maxSteps:=1000000) only [eg,g1,g2,↓aa,ae,simprocAttr];refine ey (ud s gK (aD H1.next) 17 cN (by decide) g3) ?_;simp +contextual (maxSteps:=1000000) only [eg,g1,g2,↓aa,ae,simprocAttr];exact ar.trans fP
   . have eg:=anA al;simp +contextual (maxSteps:=1000000) only [eg,↓aa,ae,simprocAttr];exact ar
 have hm:jl k n s=false:=by unfold jl;simp [J,ad,po,eo,fl]
 have bX:=anA J;have b_:=anA ad;have dY:=anA aC;have eQ:=anA bn;have fz:=anA b0;have il:=anA eo;have hS:=anA fl;rw [hm];simp only [bX,b_,dY,eQ,fz,il,hS,↓aa,ae,simprocAttr];exact ar
end
section
open Go bb Go.Shelf
theorem alv {aB:Fr} {E:Env} {h:ah} {W:World} (s:bd aB E h W) {b:aU} {p:jb} (ak:E b=some p) {off:Nat} {ai:List V} (H:i_ h b off ai):
 p.bh<W.heap.size/\∀i v,ai[i]? =some v->∃y,W.cell? ⟨p.bh,p.base+off+i,none⟩=some y/\Rel E v y:=by
 obtain ⟨_,us,aK,hle,Jl⟩:=H;have key:∃c el b5,W.heap[p.bh]? =some (.cells c el b5)/\oH E us.length p.base (gz .e 0 us) c:=by
  have aj:=s.at ak;rcases aK with aK | ⟨cH,st,aK⟩
  . rw [aK] at aj;obtain ⟨_,p',c,el,b5,ag,av,aJ,bU⟩:=aj;rw [ak] at ag;cases ag;exact ⟨c,el,b5,aJ,bU⟩
  . rw [aK] at aj;obtain ⟨_,p',c,el,b5,ag,av,aJ,_,_,_,bU⟩:=aj;rw [ak] at ag;cases ag;exact ⟨c,el,b5,aJ,bU⟩
 obtain ⟨c,el,b5,bX,b_,dY⟩:=key;refine ⟨?_,fun i v bB=>?_⟩
 . rcases aoG p.bh W.heap.size with q | q
   . exact q
   . rw [aoX q] at bX;cases bX
 . have au:i<ai.length:=by
    rcases aoG i ai.length with q | q
    . exact q
    . rw [an3 q] at bB;cases bB
   have aH:p.base+off+i<c.size:=by omega
   refine ⟨c[p.base+off+i],?_,?_⟩
   . simp only [World.cell?,bX];exact anQ aH
   . have:=dY (off+i) c[p.base+off+i] (by omega) (by rw [<-aoH];exact anQ aH);have an:=A3 us 0 (off+i) .e;rw [anL (by omega),an8] at an;rw [an] at this;have hu:us[off+i]? =some v:=by
      rw [<-Jl,List.getElem?_take,anL au,aoJ] at bB;exact bB
     rw [hu] at this;exact this
theorem aeg (L:List (List UInt8)) (sep:List UInt8) (v:V) (h:ah) (H:e3 h 1 v L.length (ed L)) (aw:L.length<=1000000000) (bI:(Lib.join L sep).length<=10000000000):
 ff Tryz.prog 31 [v,.str sep] h (.str (Lib.join L sep)) h:=by
 refine ⟨by decide,.inl ⟨⟨_,Tryz.func31,by kernel_rfl⟩,fun aB E W xs ar s=>?_⟩⟩;obtain ⟨y,cT,rfl,ag,z,p0,rfl,av,rfl⟩:=ar;simp only [Rel] at av;subst av;have nt:(L.map fun x=>(⟨⟨x⟩⟩:ByteArray)).map (·.data.toList)=L:=by rw [List.map_map];exact (List.map_congr_left (fun _ _=>rfl)).trans (List.map_id L)
 have cells:∀(b:aU) (off c:Nat) (p:jb),E b=some p->i_ h b off (ed L)->L.length<=c->y=.slice (some ⟨p.bh,p.base+off,none⟩) L.length c->Calls Tryz.prog 31 #[y,.string ⟨⟨sep⟩⟩] W fun e w'=>∃ax x,e=.returned x/\E.le ax/\Rel ax (.str (Lib.join L sep)) x/\bd aB ax h w':=by
  intro b off c p ak dJ ao bc;obtain ⟨bX,b_⟩:=alv s ak dJ;have Er:∀(j:Nat) (x:ByteArray),(L.map fun x=>(⟨⟨x⟩⟩:ByteArray))[j]? =some x->W.cell? ⟨p.bh,p.base+off+j,none⟩=some (.string x):=by
   intro j x ar;rw [aoo] at ar;cases cB:L[j]? with
   | none=>rw [cB] at ar;cases ar
   | some t=>
     rw [cB] at ar;cases ar;obtain ⟨y,g1,g2⟩:=b_ j (.str t) (by unfold ed;rw [aoo,cB];rfl);simp only [Rel] at g2;rw [g1,g2]
  have:=Any.strings_Join Tryz.EW Tryz.D1 p.bh (p.base+off) c (L.map fun x=>(⟨⟨x⟩⟩:ByteArray)) ⟨⟨sep⟩⟩ W Er bX (by rw [anK];omega) (by rw [anK];exact ao) (by rw [nt];show (Lib.join L sep).length<=_;omega);rw [nt,anK] at this;rw [bc];refine this.mono fun e w' q=>?_;exact ⟨E,_,q.1,fun _ _ q=>q,by simp only [Rel],s.below q.2⟩
 have Fh:∀a c,L.length=0->y=.slice a 0 c->Calls Tryz.prog 31 #[y,.string ⟨⟨sep⟩⟩] W fun e w'=>∃ax x,e=.returned x/\E.le ax/\Rel ax (.str (Lib.join L sep)) x/\bd aB ax h w':=by intro a c a6 bc;have cB:L=[]:=aog a6;subst cB;rw [bc];refine (Any.strings_Join_none Tryz.EW Tryz.D1 a c ⟨⟨sep⟩⟩ W).mono fun e w' q=>?_;obtain ⟨ag,rfl⟩:=q;exact ⟨E,_,ag,fun _ _ q=>q,by simp only [Rel];rfl,s⟩
 have cN:=H.2;cases v<;>simp only at cN<;>first | exact cN.elim | skip
 . simp only [Rel] at ag;obtain ⟨p,g1,g2,g3⟩:=ag;obtain ⟨al,aN⟩:=cN;rw [al] at g2 g3;exact cells _ _ _ p g1 aN g2 g3
 . simp only [Rel] at ag;obtain ⟨p,g1,g2,g3⟩:=ag;obtain ⟨al,aN⟩:=cN;rw [al] at g2 g3;exact cells _ _ _ p g1 aN (by omega) g3
 . simp only [Rel] at ag;obtain ⟨a,c,rfl⟩:=ag;exact Fh _ _ cN rfl
 . simp only [Rel] at ag;exact Fh _ _ cN ag
end
section
open Go bb
structure bt where
 kind:Int
 num:Int
 pos:Int
 text:List UInt8
deriving DecidableEq
def bt.enc (w:bt):List V:=[.int .i64 w.kind,.int .i64 w.num,.int .i64 w.pos,.str w.text]
def j7:List bt->List V
 | []=>[]
 | w::ws=>w.enc++j7 ws
theorem zP:∀ws:List bt,(j7 ws).length=ws.length * 4
 | []=>rfl
 | w::ws=>by rw [j7,anw,zP ws,anz];simp [bt.enc];omega
theorem zO:∀(ws:List bt) (i:Nat) (au:i<ws.length),((j7 ws).drop (i * 4)).take 4=ws[i].enc
 | w::ws,0,_=>by simp [j7,bt.enc]
 | w::ws,i+1,au=>by have:=zO ws i (by simpa using au);rw [show (i+1) * 4=4+i * 4 from by omega];simp only [j7,List.getElem_cons_succ];rw [<-aoK,show (w.enc++j7 ws).drop 4=j7 ws from by simp [bt.enc]];exact this
def ju (k n:Int) (s:List UInt8):List UInt8:=
 if k=1 then Lib.itoa (if n<0 then n+2147483648 else n) else if k=2 then qN s else if k=5 then 39::s else s
def bt.may (w:bt):Bool:=jl w.kind w.num w.text
def bt.out (w:bt):List UInt8:=ju w.kind w.num w.text
def hX (ws:List bt):List UInt8 × Int:=if ws.all bt.may then (Lib.join (ws.map bt.out) [32],0) else ([],2)
theorem Ws {n:Int} (a6:-1073741824<=n) (J:n<=1073741823):(dV.int .and).run Tryz.prog (.int .i64 n) (.int .i64 2147483647)=some (.int .i64 (if n<0 then n+2147483648 else n)):=by
 have h:(dV.int .and).run Tryz.prog (.int .i64 n) (.int .i64 2147483647)=some (.int .i64 (IntKind.i64.wrap ((BitVec.ofInt 64 n&&& BitVec.ofInt 64 2147483647).toNat:Nat))):=rfl;rw [h,BitVec.toNat_and,BitVec.toNat_ofInt,BitVec.toNat_ofInt];have e:((2147483647:Int) % ((2 ^ 64:Nat):Int)).toNat=2 ^ 31-1:=by decide
 rw [e,Nat.and_two_pow_sub_one_eq_mod];have aN:((2 ^ 64:Nat):Int)=18446744073709551616:=by decide
 rw [aN];have cj:(((n % 18446744073709551616).toNat % 2 ^ 31:Nat):Int)=if n<0 then n+2147483648 else n:=by
  split<;>omega
 rw [cj,wrap_i64 (by split<;>omega) (by split<;>omega)]
theorem aeh (M:Nat):∀L:List (List UInt8),(∀x ∈ L,x.length<=M)->(Lib.join L [32]).length<=L.length * (M+1)
 | [],_=>by simp [Lib.join_nil]
 | x::L,h=>by
   rw [Lib.join_cons,anw];have aE:∀L:List (List UInt8),(∀x ∈ L,x.length<=M)->(Lib.joinTail [32] L).length<=L.length * (M+1):=by
    intro L
    induction L with
    | nil=>intro _;simp [Lib.joinTail]
    | cons y L bC=>
      intro h;have:=bC (fun x ar=>h x (aoh _ ar));have bc:=h y (aot ..);have e:Lib.joinTail [32] (y::L)=(32::y)++Lib.joinTail [32] L:=by simp [Lib.joinTail]
      rw [e,anw,anz,anz,aor];omega
   have:=aE L (fun x ar=>h x (aoh _ ar));have ar:=h x (aot ..);rw [anz,aor];omega
theorem Tm {w:bt} (h:w.may=true) (aL:w.text.length<=50000):w.out.length<=200002:=by
 unfold bt.out ju
 split
 . rename_i ay;unfold bt.may jl at h;rw [anL ay] at h;simp only [anu,anM] at h;have:=Lib.itoa_length_le (if w.num<0 then w.num+2147483648 else w.num) (by split<;>omega) (by split<;>omega);omega
 . split
   . unfold qN;have:=KN w.text;simp only [anz,anw,anH];omega
   . split
     . simp only [anz];omega
     . omega
theorem alH (v0:V) (ws:List bt) (h:ah) (H:e3 h 4 v0 ws.length (j7 ws)) (aw:ws.length<=10000) (aE:∀w ∈ ws,w.text.length<=50000):
 b8 Tryz.prog 19 [v0] h fun x ab=>x=.tuple [.str (hX ws).1,.int .i64 (hX ws).2]/\Ext h ab:=by
 refine XQ.z rfl (ck ?_);unfold Nn;simp only [H.len,↓aa,ae,simprocAttr]
 refine fE (fun r ab=>∃(i:Nat) (v:V),r 4=v/\r 8=v0/\r 9=.int .i64 ws.length/\r 10=.int .i64 i/\i<=ws.length/\((ws.take i).all bt.may=true)/\
  cZ h.next ab 1 v i (ed ((ws.take i).map bt.out))/\Ext h ab) (fun r ab=>ws.length - (r 10).toN) ?_ ?_
 . refine ⟨0,.cr,by simp only [↓aa,ae,simprocAttr],by simp only [↓aa,ae,simprocAttr],by simp only [↓aa,ae,simprocAttr],by simp only [↓aa,ae,simprocAttr]<;>rfl,by omega,rfl,⟨by simp [ed],by simp⟩,Ext.refl _⟩
 . rintro r ab ⟨i,v,dR,dS,iX,hv,au,dx,bB,ar⟩;unfold No;by_cases aH:i<ws.length
   . have g0:((i:Int) < (ws.length:Int))=True:=anJ (by omega);obtain ⟨b9,dc,hd,dp⟩:=(H.ext ar).dj (k:=.i64) aH;have ep:=dp.jM (i:=i * 4) (n:=4) (by rw [zP];omega);rw [zO ws i aH] at ep;have w:IntKind.i64.wrap ((i:Int)+1)=((i+1:Nat):Int):=by rw [wrap_i64 (by omega) (by omega)];rfl
     have Ro:=aE ws[i] (anB aH);have ry:ws[i].may=jl ws[i].kind ws[i].num ws[i].text:=rfl;have ky:ws[i].out=ju ws[i].kind ws[i].num ws[i].text:=rfl;have I6:ws[i].may=false->hX ws=([],2):=by intro q;unfold hX;rw [anE];rw [an0];intro av;rw [av _ (anB aH)] at q;cases q
     have rC:ws.take (i+1)=ws.take i++[ws[i]]:=(apn aH).symm;unfold bt.enc at ep;generalize ws[i]=wd at *;obtain ⟨k,n,p,s⟩:=wd;simp only at *;simp only [dR,dS,iX,hv,g0,hd,ep,w,↓aa,ae,simprocAttr];have rG:Ext ab ((ab.new (.a_ [.int .i64 0,.int .i64 0,.int .i64 0,.str []] 0 false)).set (aD ab.next) (.a_ [.int .i64 k,.int .i64 n,.int .i64 p,.str s] 0 false)):=((Ext.refl ab).new _).set (anD _) _;have g1:((ab.new (.a_ [.int .i64 0,.int .i64 0,.int .i64 0,.str []] 0 false)).set (aD ab.next) (.a_ [.int .i64 k,.int .i64 n,.int .i64 p,.str s] 0 false)).get (aD ab.next)=.a_ [.int .i64 k,.int .i64 n,.int .i64 p,.str s] 0 false:=by rw [fh,anL rfl]
     have de:((ab.new (.a_ [.int .i64 0,.int .i64 0,.int .i64 0,.str []] 0 false)).set (aD ab.next) (.a_ [.int .i64 k,.int .i64 n,.int .i64 p,.str s] 0 false)).next=ab.next+1:=by rw [o3,gI]
     generalize ((ab.new (.a_ [.int .i64 0,.int .i64 0,.int .i64 0,.str []] 0 false)).set (aD ab.next) (.a_ [.int .i64 k,.int .i64 n,.int .i64 p,.str s] 0 false))=H1 at rG g1 de ⊢;refine bq (ahf k n p s (by omega) H1) ?_;rintro x ad ⟨rfl,fP⟩;have g2:ad.get (aD ab.next)=.a_ [.int .i64 k,.int .i64 n,.int .i64 p,.str s] 0 false:=by rw [fP.get _ (hE (by omega)),g1]
     have oZ:Ext h ad:=(ar.trans rG).trans fP;have tW:=(bB.ext rG).ext fP;cases hm:jl k n s with
     | false=>
       simp only [↓aa,ae,simprocAttr];rw [I6 (ry.trans hm)];exact ⟨rfl,oZ⟩
     | true=>
       have on:∀aC,Ext ad aC->∃c_ bn,jz 1 v (.slice (aD aC.next) 0 1 1) (aC.new (.a_ [.str (ju k n s)] 0 false))=.val c_ bn/\cZ h.next bn 1 c_ (i+1) (ed ((ws.take (i+1)).map bt.out))/\Ext h bn:=by
        intro aC oY;have oe:=oZ.trans oY;obtain ⟨c_,bn,ag,av,aJ,bU,cX⟩:=At (m:=1) (cs:=[.str (ju k n s)]) (by omega) (tW.ext oY) oe.next (by unfold top;omega) rfl rfl
        refine ⟨c_,bn,ag,?_,oe.me aJ (fun b aj=>bB.base aj)⟩;rw [rC,apb];unfold ed at av ⊢;rw [apb];simpa [ky] using av
       have vR:(ws.take (i+1)).all bt.may=true:=by rw [rC,aoI,dx];simp [ry,hm]
       by_cases J:k=1
       . subst J;rw [E'] at hm;simp only [anu,anM] at hm;have bF:=Ws hm.1.2 hm.2;simp only [g2,bF,↓aa,ae,simprocAttr];refine ey (aec (if n<0 then n+2147483648 else n) (by split<;>omega) (by split<;>omega) ad) ?_;obtain ⟨c_,bn,ag,av,aJ⟩:=on ad (Ext.refl _);rw [show ju 1 n s=Lib.itoa (if n<0 then n+2147483648 else n) from rfl] at ag;simp only [dR,dS,iX,hv,ag,w,↓aa,ae,simprocAttr];exact ⟨⟨i+1,rfl,aH,vR,av,aJ⟩,by omega⟩
       have bX:=anA J;by_cases Ia:k=2
       . subst Ia;simp only [g2,↓aa,ae,simprocAttr];refine bq (ajf s (by omega) ad) ?_;rintro x aC ⟨rfl,oY⟩;obtain ⟨c_,bn,ag,av,aJ⟩:=on aC oY;rw [show ju 2 n s=qN s from rfl] at ag;simp only [dR,dS,iX,hv,ag,w,↓aa,ae,simprocAttr];exact ⟨⟨i+1,rfl,aH,vR,av,aJ⟩,by omega⟩
       have b_:=anA Ia;obtain ⟨c_,bn,ag,av,aJ⟩:=on ad (Ext.refl _);by_cases b0:k=5
       . subst b0;have pr:(1+s.length<=17179869184)=True:=anJ (by omega);rw [show ju 5 n s=39::s from rfl] at ag;simp only [g2,pr,anO,anP,dR,dS,iX,hv,ag,w,↓aa,ae,simprocAttr];exact ⟨⟨i+1,rfl,aH,vR,av,aJ⟩,by omega⟩
       . have fz:=anA b0;rw [show ju k n s=s by unfold ju;rw [anE J,anE Ia,anE b0]] at ag;simp only [g2,bX,b_,fz,dR,dS,iX,hv,ag,w,↓aa,ae,simprocAttr];exact ⟨⟨i+1,rfl,aH,vR,av,aJ⟩,by omega⟩
   . have kf:i=ws.length:=by omega
     have g0:((i:Int) < (ws.length:Int))=False:=anA (by omega);rw [kf,ao8] at bB dx;have hw:hX ws=(Lib.join (ws.map bt.out) [32],0):=by unfold hX;rw [anL dx]
     have hlen:(ws.map bt.out).length=ws.length:=anK _;have IM:(Lib.join (ws.map bt.out) [32]).length<=10000000000:=by have:=aeh 200002 (ws.map bt.out) (by intro x ar;obtain ⟨q,aq,rfl⟩:=List.mem_map.1 ar;exact Tm (an0.1 dx _ aq) (aE _ aq));rw [hlen] at this;have ad:ws.length * 200003<=10000 * 200003:=aoj _ aw;omega
     have tX:e3 ab 1 v (ws.map bt.out).length (ed (ws.map bt.out)):=by rw [hlen];exact bB.v
     simp only [dR,dS,iX,hv,g0,↓aa,ae,simprocAttr];refine ey (aeg (ws.map bt.out) [32] v ab tX (by omega) IM) ?_;rw [hw];simp only [↓aa,ae,simprocAttr];exact ar
theorem WD {s:List UInt8} (h:∀c ∈ s,c.toNat<128):uR s=s.length:=by
 have ao:∀a,a<s.length->nX s a=1:=by
  intro a bF;have aZ:decodeL s a=((s[a]).toNat,1):=by unfold decodeL;rw [Lib.decode_at];simp only [Qc,anv bF,aoZ];unfold Lib.decodeN;rw [anL (h _ (anB bF))]
  unfold nX;rw [aZ,anE (by have:=h _ (anB bF);simp only [aoS,apI];omega)]
 have:∀n a,s.length-a=n->a<=s.length->rV s a=s.length:=by
  intro n
  induction n with
  | zero=>intro a J ad;exact Ue (by omega)
  | succ n bC=>
    intro a J ad;have aH:a<s.length:=by omega
    rw [K0 aH (by rw [ao a aH];decide),ao a aH];exact bC _ (by omega) (by omega)
 exact this s.length 0 (by omega) (by omega)
theorem ag' {s:List UInt8} (h:∀c ∈ s,c.toNat<128):mc s=if 65536<s.length then .error (3,0) else rP s 0:=by unfold mc;rw [WD h,anE (aoT _)]
theorem ahq {c:UInt8} (h:fF c=true):blank c=false/\c≠40:=by
 constructor
 . cases aj:blank c with
   | false=>rfl
   | true=>
     unfold blank at aj;simp only [aoR,anM] at aj;rcases aj with ((rfl | rfl) | rfl) | rfl<;>exact absurd h (by decide)
 . rintro rfl;exact absurd h (by decide)
theorem ahW {c:UInt8} (h:c≠40) (r:List UInt8):([40,42]:List UInt8).isPrefixOf (c::r)=false:=by
 have:((40:UInt8) == c)=false:=by rw [aoQ];exact fun q=>h q.symm
 simp [List.isPrefixOf,this]
theorem UE {c:UInt8} (h:hg c.toNat=true):fX c=false/\c≠34:=by unfold hg at h;simp only [anu,anM] at h;refine ⟨?_,by rintro rfl;exact absurd h (by decide)⟩;unfold fX nY;simp only [ao_,aoA];omega
theorem abx {c:UInt8} (h:n2 c.toNat=true):fX c=false/\c≠34/\hg c.toNat=false/\c≠95:=by
 unfold n2 at h;simp only [anu,anM] at h;refine ⟨?_,by rintro rfl;exact absurd h (by decide),?_,by rintro rfl;exact absurd h (by decide)⟩
 . unfold fX nY;simp only [ao_,aoA];omega
 . unfold hg;simp only [ao_,aoA];omega
theorem Ke {k:Int} {s:List UInt8} (h:dG k s=true):s≠[]/\s.length<=64/\s.all fF=true/\(if k=3 then (lg s||s.head? == some 95)&&!decide (s=[95])&&!hr s else if k=4 then ys s else lg s)=true:=by unfold dG at h;rw [anu,anu,anu,anM,anM] at h;exact ⟨h.1.1.1,h.1.1.2,h.1.2,h.2⟩
theorem ahU {c:UInt8} {t:List UInt8} (h:hg c.toNat=true\/c=95):hD (c::t)=kY 3 (c::t):=by
 have aZ:fX c=false:=h.elim (fun q=>(UE q).1) (fun q=>by rw [q];decide);have sq:c≠34:=h.elim (fun q=>(UE q).2) (fun q=>by rw [q];decide);have aL:(hg c.toNat||decide (c=95))=true:=by simpa using h
 simp only [hD,aZ,aL,anE sq,anV,an4,an7]
theorem WC {c:UInt8} (h:fF c=true):c.toNat<128:=by unfold fF rO nY hg n2 at h;simp only [aoR,anu,anM] at h;omega
theorem U2 {p:UInt8->Bool}:∀s:List UInt8,s.all p=true->s.takeWhile p=s
 | [],_=>rfl
 | c::s,h=>by rw [aoy,anu] at h;rw [ao0,h.1,anL rfl,U2 s h.2]
theorem L8 (p:UInt8->Bool):∀s:List UInt8,(s.takeWhile p).all p=true
 | []=>rfl
 | c::s=>by
   rw [ao0]
   split
   . rename_i h;rw [aoy,h,L8 p s];rfl
   . rfl
theorem Kc {k:Int} {c:UInt8} {r:List UInt8} {q:Int × Int × List UInt8 × Nat} (ay:(k=3/\(hg c.toNat=true\/c=95))\/(k=4/\n2 c.toNat=true)\/(k=5/\hg c.toNat=true)) (h:kY k (c::r)=.ok q) (aq:q.1=3\/q.1=4\/q.1=5):
 q.1=k/\dG k q.2.2.1=true:=by
 have aw:fF c=true:=by
  rcases ay with ⟨_,q | q⟩ | ⟨_,q⟩ | ⟨_,q⟩
  . exact K7 q
  . exact U8 q
  . exact Qf q
  . exact K7 q
 have aE:(c::r).takeWhile fF=c::r.takeWhile fF:=by rw [ao0,anL aw]
 have bF:=L8 fF (c::r);rw [aE] at bF;unfold kY at h;simp only [aE] at h;generalize r.takeWhile fF=t at *
 split at h
 . cases h;simp at aq
 . rename_i wu
   split at h
   . cases h;simp at aq
   . rename_i wv
     split at h
     . cases h
     . rename_i hlen;cases h;refine ⟨rfl,?_⟩;have l6:(if k=3 then (lg (c::t)||(c::t).head? == some 95)&&!decide (c::t=[95])&&!hr (c::t) else if k=4 then ys (c::t) else lg (c::t))=true:=by
        rcases ay with ⟨rfl,z⟩ | ⟨rfl,z⟩ | ⟨rfl,z⟩
        . rw [anL rfl];have J:(lg (c::t)||(c::t).head? == some 95)=true:=by
           rcases z with z | z
           . show (hg c.toNat||_)=true;rw [z];rfl
           . subst z;simp
          rw [J,aoe (fun z=>wu ⟨rfl,z⟩),Bool.eq_false_iff.2 (fun z=>wv ⟨rfl,z⟩)];rfl
        . exact z
        . exact z
       show dG k (c::t)=true;unfold dG;rw [l6,bF,aoc (show c::t≠[] by simp),aoc (show (c::t).length<=64 by omega)];rfl
theorem ahP {r:List UInt8} {q:Int × Int × List UInt8 × Nat} (h:hD r=.ok q) (aq:q.1=3\/q.1=4\/q.1=5):dG q.1 q.2.2.1=true:=by
 match r,h with
 | c::r,h=>
   simp only [hD] at h
   split at h
   . unfold zj at h;simp only at h
     split at h
     . cases h
     . cases h;simp at aq
   . split at h
     . unfold td at h
       split at h
       . cases h
       . split at h
         . cases h
         . cases h;simp at aq
     . split at h
       . rename_i aL;have:=Kc (.inl ⟨rfl,by simpa using aL⟩) h aq;rw [this.1];exact this.2
       . split at h
         . rename_i aL;have:=Kc (.inr (.inl ⟨rfl,aL⟩)) h aq;rw [this.1];exact this.2
         . split at h
           . rename_i aL;cases aX:kY 5 r with
             | error e=>rw [aX] at h;cases h
             | ok fH=>
               rw [aX] at h;cases h;obtain ⟨d,t,rfl⟩:∃d t,r=d::t:=by
                cases r with
                | nil=>simp [lg] at aL
                | cons d t=>exact ⟨d,t,rfl⟩
               have:=Kc (.inr (.inr ⟨rfl,aL.2⟩)) aX aq;show dG fH.1 fH.2.2.1=true;rw [this.1];exact this.2
           . unfold zC at h
             split at h
             . cases h;simp at aq
             . cases h
theorem B7:∀(f:Nat) (r:List UInt8) (p:Nat) (ws:List cd),oq f r p=.ok ws->∀w ∈ ws,w.kind=3\/w.kind=4\/w.kind=5->dG w.kind w.text=true
 | 0,r,p,ws,h,w,hw,_=>by simp only [oq,Except.ok.injEq] at h;subst h;cases hw
 | f+1,[],p,ws,h,w,hw,_=>by simp only [oq,Except.ok.injEq] at h;subst h;cases hw
 | f+1,c::r,p,ws,h,w,hw,ay=>by
   simp only [oq] at h
   split at h
   . exact B7 f _ _ ws h w hw ay
   . split at h
     . split at h
       . cases h
       . exact B7 f _ _ ws h w hw ay
     . split at h
       . cases h
       . rename_i q aX;cases aK:oq f ((c::r).drop q.2.2.2) (p+q.2.2.2) with
         | error al=>rw [aK] at h;cases h
         | ok b1=>
           rw [aK] at h;simp only [AQ,Except.ok.injEq] at h;subst h;rcases an2.1 hw with rfl | hw
           . exact ahP aX ay
           . exact B7 f _ _ b1 aK w hw ay
theorem aju {k:Int} {s:List UInt8} (ay:k=3\/k=4\/k=5) (h:dG k s=true):mc (if k=5 then 39::s else s)=.ok [⟨k,0,0,s⟩]:=by
 obtain ⟨g1,g2,g3,g4⟩:=Ke h;obtain ⟨c,t,rfl⟩:=List.exists_cons_of_ne_nil g1;have ab3:∀d ∈ (if k=5 then 39::c::t else c::t),d.toNat<128:=by
  intro d aZ;have J:∀d ∈ c::t,d.toNat<128:=fun d aZ=>WC (an0.1 g3 d aZ)
  split at aZ
  . rcases an2.1 aZ with rfl | aZ
    . decide
    . exact J d aZ
  . exact J d aZ
 rw [ag' ab3,anE (by split<;>simp only [anz] at g2 ⊢<;>omega)];have aw:fF c=true:=by rw [aoy,anu] at g3;exact g3.1
 obtain ⟨b9,cA⟩:=ahq aw;have rd:∀j:Int,(j=3->c::t≠[95]/\hr (c::t)=false)->kY j (c::t)=.ok (j,0,c::t,(c::t).length):=by intro j bI;unfold kY;simp only [U2 _ g3];rw [anE (fun q=>(bI q.1).1 q.2),anE (fun q=>by rw [(bI q.1).2] at q;simp at q),anE (by omega)]
 have fin:∀(d:UInt8) (u:List UInt8) (q:Int × Int × List UInt8 × Nat),blank d=false->d≠40->hD (d::u)=.ok q->q.2.2.2=(d::u).length->rP (d::u) 0=.ok [⟨q.1,q.2.1,0,q.2.2.1⟩]:=by intro d u q al aN cj gl;rw [Sr,al,anE aoW,ahW aN,anE aoW,cj];simp only [gl,apD];rfl
 rcases ay with rfl | rfl | rfl
 . rw [anE (by decide)];rw [anL rfl] at g4;simp only [anu,aoB,aoA,aoR,ao5] at g4;have bp:hg c.toNat=true\/c=95:=g4.1.1.imp id (fun q=>aoN q);exact fin c t _ b9 cA (by rw [ahU bp];exact rd 3 (fun _=>⟨g4.1.2,g4.2⟩)) rfl
 . rw [anE (by decide)];rw [anE (by decide),anL rfl] at g4;have an:n2 c.toNat=true:=g4;obtain ⟨de,kX,n3,n4⟩:=abx an;refine fin c t (4,0,c::t,(c::t).length) b9 cA ?_ rfl;simp only [hD,de,n3,an,anE kX,anV,an4,an7,apd,anM,anE n4];exact rd 4 (fun q=>absurd q (by decide))
 . rw [anL rfl];rw [anE (by decide),anE (by decide)] at g4;refine fin 39 (c::t) (5,0,c::t,(c::t).length+1) (by decide) (by decide) ?_ rfl;simp only [hD];rw [anE (by decide),anE (by decide),anE (by decide),anE (by decide),anL ⟨trivial,g4⟩,rd 5 (fun q=>absurd q (by decide))];rfl
def th (k:Int) (s:List UInt8):Bool:=decide (s.length<=64)&&decide (s≠[])&&(match mc (if k=5 then 39::s else s) with
 | .ok [w]=>decide (w.kind=k)&&decide (w.pos=0)&&decide (w.text≠[])&&decide ((if k=5 then 39::s else s)=(if w.kind=5 then 39::w.text else w.text))
 | _=>false)
theorem als {k:Int} (ay:k=3\/k=4\/k=5) (s:List UInt8):th k s=dG k s:=by
 rw [aon];refine ⟨fun h=>?_,fun h=>?_⟩
 . unfold th at h;simp only [anu,anM] at h;obtain ⟨_,aC⟩:=h
   split at aC
   . rename_i w hw;simp only [anu,anM] at aC;obtain ⟨⟨⟨al,_⟩,_⟩,gl⟩:=aC;subst al;have aX:dG w.kind w.text=true:=by
      generalize (if w.kind=5 then 39::s else s)=z at hw;unfold mc at hw
      split at hw
      . cases hw
      . split at hw
        . cases hw
        . exact B7 _ _ _ _ hw w (by simp) ay
     have:s=w.text:=by
      split at gl
      . exact (List.cons.inj gl).2
      . exact gl
     rw [this];exact aX
   . cases aC
 . obtain ⟨g1,g2,_,_⟩:=Ke h;unfold th;rw [aju ay h];simp [g1,g2]
theorem Pb (t:aQ):t.deep=km t.l+1:=by cases t;simp only [aQ.deep,aQ.l]
theorem size_eq (t:aQ):t.size=1+e9 t.l:=by cases t;simp only [aQ.size,aQ.l]
theorem Tr:∀l m:List aQ,km (l++m)=max (km l) (km m)
 | [],m=>by simp [km]
 | t::l,m=>by rw [anO,km,km,Tr l m,Nat.max_assoc]
theorem KJ:∀l m:List aQ,e9 (l++m)=e9 l+e9 m
 | [],m=>by simp [e9]
 | t::l,m=>by rw [anO,e9,e9,KJ l m,aoH]
theorem take_one {l:List aQ} {i:Nat} (h:i<l.length):l.take (i+1)=l.take i++[l[i]]:=by rw [List.take_succ_eq_append_getElem h]
theorem Ts {l:List aQ} {i:Nat} (h:i<l.length):km (l.take (i+1))=max (km (l.take i)) l[i].deep:=by rw [take_one h,Tr,km,km,Nat.max_zero]
theorem ai6 {l:List aQ} {i:Nat} (h:i<l.length):e9 (l.take (i+1))=e9 (l.take i)+l[i].size:=by rw [take_one h,KJ,e9,e9,ao7]
mutual
theorem Z2:∀t:aQ,t.deep<=t.size
 | .mk k n a s l=>by rw [aQ.deep,aQ.size];have:=Fx l;omega
theorem Fx:∀l:List aQ,km l<=e9 l
 | []=>anD _
 | t::l=>by rw [km,e9];have:=Z2 t;have:=Fx l;omega
end
theorem TH (l:List aQ) (i:Nat):e9 (l.take i)<=e9 l:=by have:=KJ (l.take i) (l.drop i);rw [ao1] at this;omega
theorem SG (a b:Nat):(if (a:Int) < (b:Int) then (b:Int) else (a:Int))=((max a b:Nat):Int):=by
 by_cases h:(a:Int) < (b:Int)
 . rw [anL h,Nat.max_eq_right (by omega)]
 . rw [anE h,Nat.max_eq_left (by omega)]
theorem Pg:∀(N:Nat) (t:aQ),t.size<=N->N<=1000000000->∀(ai:List V) (h:ah),cg Any h t.enc ai->b8 Tryz.prog 37 [.agg ai] h fun x ab=>x=.int .i64 (t.deep:Nat)/\Ext h ab
 | 0,t,aL,_,_,_,_=>by have:=w6 t;omega
 | N+1,t,aL,Ij,ai,h,H=>by
   obtain ⟨eS,rfl,L,_⟩:=aQ.open H;have aM:N<=1000000000:=by omega
   have ol:=L.one;have aw:=L.len;have hle:=L.le;rw [anK] at aw hle;refine X3.z rfl (ck ?_);unfold NI;obtain ⟨J,ag,al,aG⟩:=f' h [.int .i64 t.k,.int .i64 t.n,.int .i64 t.a,.str t.s,eS];simp only [ol.1,ol.2.1,ag,aG.g,aw,↓aa,ae,simprocAttr];refine fE (fun r g=>r 1=.ptr (aD h.next) 0/\r 7=eS/\r 8=.int .i64 t.l.length/\∃i:Nat,r 3=.int .i64 (km (t.l.take i):Nat)/\r 9=.int .i64 i/\i<=t.l.length/\Ext J g) (fun r g=>t.l.length - (r 9).toN) ?_ ?_
   . exact ⟨by simp only [↓aa,cm,simprocAttr],by simp only [↓aa,cm,simprocAttr],by simp only [↓aa,cm,simprocAttr],0,by simp only [↓aa,cm,simprocAttr]<;>rfl,by simp only [↓aa,cm,simprocAttr]<;>rfl,by omega,Ext.refl J⟩
   rintro r g ⟨bM,hx,dS,i,bY,xc,au,E⟩;unfold NJ;have A:=aG.ext E;have k6:=L.ext (al.trans E);have lb:=TH t.l i;have nq:=Fx (t.l.take i);have Ir:=size_eq t;by_cases aH:i<t.l.length
   . have g0:((i:Int) < (t.l.length:Int))=True:=anJ (by omega);obtain ⟨b,off,wl,dj,X,cz,ld⟩:=aQ.y7 k6 (k:=.i64) aH;have pC:=ld g (Ext.refl g);have kl:=cz.one;have dm:=iI aH (by unfold top at hle;omega);have cx:=h4 (t:=t) (anB aH);obtain ⟨g1,fc,bf,B⟩:=je g [.int .i64 0,.int .i64 0,.int .i64 0,.str [],.cr] [.int .i64 t.l[i].k,.int .i64 t.l[i].n,.int .i64 t.l[i].a,.str t.l[i].s,wl];simp only [bM,bY,hx,dS,xc,g0,dj,pC,fc,B.g,kl.1,kl.2.1,↓aa,ae,simprocAttr];refine bq (Pg N t.l[i] (by omega) aM _ g1 (X.ext bf)) ?_;rintro x g2 ⟨rfl,aN⟩;have cj:=bf.trans aN;have hm:=SG (km (t.l.take i)) t.l[i].deep;rw [<-Ts aH] at hm;simp only [bM,bY,hx,dS,xc,dm,Kb,hm,↓aa,ae,simprocAttr];exact ⟨⟨i+1,rfl,rfl,aH,E.trans cj⟩,by omega⟩
   . have g0:((i:Int) < (t.l.length:Int))=False:=anA (by omega);rw [aos (by omega)] at bY nq lb;have wd:IntKind.i64.wrap ((km t.l:Int)+1)=((t.deep:Nat):Int):=by rw [Pb,wrap_i64 (by omega) (by omega)];rfl
     simp only [bM,bY,hx,dS,xc,g0,wd,↓aa,ae,simprocAttr];exact al.trans E
theorem T0:∀(N:Nat) (t:aQ),t.size<=N->N<=1000000000->∀(ai:List V) (h:ah),cg Any h t.enc ai->b8 Tryz.prog 44 [.agg ai] h fun x ab=>x=.int .i64 (t.deep:Nat)/\Ext h ab
 | 0,t,aL,_,_,_,_=>by have:=w6 t;omega
 | N+1,t,aL,Ij,ai,h,H=>by
   obtain ⟨eS,rfl,L,_⟩:=aQ.open H;have aM:N<=1000000000:=by omega
   have ol:=L.one;have aw:=L.len;have hle:=L.le;rw [anK] at aw hle;refine X_.z rfl (ck ?_);unfold NU;obtain ⟨J,ag,al,aG⟩:=f' h [.int .i64 t.k,.int .i64 t.n,.int .i64 t.a,.str t.s,eS];simp only [ol.1,ol.2.1,ag,aG.g,aw,↓aa,ae,simprocAttr];refine fE (fun r g=>r 1=.ptr (aD h.next) 0/\∃i:Nat,r 3=.int .i64 (km (t.l.take i):Nat)/\r 4=.int .i64 i/\i<=t.l.length/\Ext J g) (fun r g=>t.l.length - (r 4).toN) ?_ ?_
   . exact ⟨by simp only [↓aa,cm,simprocAttr],0,by simp only [↓aa,cm,simprocAttr]<;>rfl,by simp only [↓aa,cm,simprocAttr]<;>rfl,by omega,Ext.refl J⟩
   rintro r g ⟨bM,i,bY,xc,au,E⟩;unfold NV;have A:=aG.ext E;have k6:=L.ext (al.trans E);have lb:=TH t.l i;have nq:=Fx (t.l.take i);have Ir:=size_eq t;by_cases aH:i<t.l.length
   . have g0:((i:Int) < (t.l.length:Int))=True:=anJ (by omega);obtain ⟨b,off,wl,dj,X,cz,ld⟩:=aQ.y7 k6 (k:=.i64) aH;have pC:=ld g (Ext.refl g);have kl:=cz.one;have dm:=iI aH (by unfold top at hle;omega);have cx:=h4 (t:=t) (anB aH);simp only [bM,bY,xc,g0,A.g,aw,dj,pC,↓aa,ae,simprocAttr];refine bq (T0 N t.l[i] (by omega) aM _ g X) ?_;rintro x g2 ⟨rfl,aN⟩;have cj:=aN;have hm:=SG (km (t.l.take i)) t.l[i].deep;rw [<-Ts aH] at hm;simp only [bM,bY,xc,dm,Kb,hm,↓aa,ae,simprocAttr];exact ⟨⟨i+1,rfl,rfl,aH,E.trans cj⟩,by omega⟩
   . have g0:((i:Int) < (t.l.length:Int))=False:=anA (by omega);rw [aos (by omega)] at bY nq lb;have wd:IntKind.i64.wrap ((km t.l:Int)+1)=((t.deep:Nat):Int):=by rw [Pb,wrap_i64 (by omega) (by omega)];rfl
     simp only [bM,bY,A.g,aw,xc,g0,wd,↓aa,ae,simprocAttr];exact al.trans E
structure iM where
 first:List Int:=[]
 rest:Int:=0
 least:Int:=0
 lA:Int:=0
 last:List Int:=[]
 bQ:Int:=0
 au:Int:=0
 s:Int:=0
def iM.enc (r:iM):List D:=[.l 1 (r.first.map bb.nZ),.i .i64 r.rest,.i .i64 r.least,.i .i64 r.lA,.l 1 (r.last.map bb.nZ),.i .i64 r.bQ,.i .i64 r.au,.i .i64 r.s]
def s8:List (Int × iM):=
 [(1,{s:=3}),(2,{s:=1,rest:=1,lA:=64}),(3,{first:=[1,1]}),(4,{first:=[1,1]}),
  (10,{}),(13,{}),(11,{s:=1}),(12,{bQ:=-1073741824,au:=1073741823}),(14,{au:=1}),(15,{first:=[2,2]}),(16,{s:=2,rest:=2,lA:=1}),
  (20,{bQ:=-1073741824,au:=1073741823}),(21,{s:=4}),(22,{}),(23,{au:=1}),(24,{s:=1}),(25,{s:=2,rest:=3,lA:=1}),(26,{first:=[3,3]}),(28,{first:=[3,3]}),(35,{first:=[3,3]}),(37,{first:=[3,3]}),
  (38,{s:=5,first:=[3,3]}),(34,{first:=[3]}),(36,{first:=[3]}),(39,{first:=[3]}),(31,{first:=[3,3,3]}),(27,{first:=[2,3]}),(29,{first:=[2,3,3]}),
  (30,{rest:=5,least:=1,lA:=1073741824,last:=[3]}),(32,{first:=[3],rest:=4,least:=1,lA:=1073741824}),(33,{first:=[3],rest:=4,least:=1,lA:=1073741824}),
  (45,{first:=[2,3]}),(46,{s:=1,first:=[9]}),(47,{s:=2,rest:=1,lA:=1}),(51,{s:=2,rest:=1,lA:=1}),(52,{first:=[2,3]}),(53,{rest:=5,least:=1,lA:=1073741824}),
  (50,{s:=1,au:=64,rest:=6,least:=1,lA:=1073741824})]
def F0:List (Int × List D):=s8.map fun x=>(x.1,x.2.enc)
set_option maxRecDepth 100000 in
theorem aj0:Cn ctx 100000 34 (fun ao v=>zm ao 1000 F0 v)=true:=by kernel_rfl
theorem ajZ (h:ah):b8 Tryz.prog 34 [] h fun x ab=>Ext h ab/\kN (p8 h) ab F0 x:=
 Zt (C:=ctx) follows uB FD (by kernel_rfl) (by kernel_rfl) ⟨_,Tryz.func34,by kernel_rfl⟩ aj0 h
def fx (k:Int):Int:=if 1<=k/\k<=4 then 1 else if 10<=k/\k<=16 then 2 else if 20<=k/\k<=39 then 3 else if k=45 then 4 else if k=46 then 5 else if k=47 then 6 else if 50<=k/\k<=53 then 7 else 0
theorem Si {a b:Int} (h:a<=b):(a<=b)=True:=anJ h
theorem Sh {a b:Int} (h:b<a):(a<=b)=False:=anA (by omega)
theorem ye {a b:Int} (h:b<=a):(a>=b)=True:=anJ h
theorem A2 {a b:Int} (h:a<b):(a>=b)=False:=anA (by omega)
theorem Rw {a b:Int} (h:a=b):(a=b)=True:=anJ h
theorem Rv {a b:Int} (h:a<b\/b<a):(a=b)=False:=anA (by omega)
theorem Qg (k:Int) (h:ah):b8 Tryz.prog 35 [.int .i64 k] h fun x ab=>x=.int .i64 (fx k)/\ab=h:=by
 refine X1.z rfl (ck ?_);unfold NF fx;have af:k<1\/(1<=k/\k<=4)\/(5<=k/\k<=9)\/(10<=k/\k<=16)\/(17<=k/\k<=19)\/(20<=k/\k<=39)\/(40<=k/\k<=44)\/k=45\/k=46\/k=47\/(48<=k/\k<=49)\/(50<=k/\k<=53)\/54<=k:=by omega
 rcases af with q | q | q | q | q | q | q | q | q | q | q | q | q<;>simp +contextual (disch:=omega) only [Si,Sh,ye,A2,Rw,Rv,apI,apQ,api,apK,an7,an4,↓aa,ae,simprocAttr]<;>trivial
theorem KZ (k:Int) (h:ah):b8 Tryz.prog 42 [.int .i64 k] h fun x ab=>x=.int .i64 (fx k)/\ab=h:=by
 refine X9.z rfl (ck ?_);unfold NR fx;have af:k<1\/(1<=k/\k<=4)\/(5<=k/\k<=9)\/(10<=k/\k<=16)\/(17<=k/\k<=19)\/(20<=k/\k<=39)\/(40<=k/\k<=44)\/k=45\/k=46\/k=47\/(48<=k/\k<=49)\/(50<=k/\k<=53)\/54<=k:=by omega
 rcases af with q | q | q | q | q | q | q | q | q | q | q | q | q<;>simp +contextual (disch:=omega) only [Si,Sh,ye,A2,Rw,Rv,apI,apQ,api,apK,an7,an4,↓aa,ae,simprocAttr]<;>trivial
def ub (k g:Int):Bool:=if g=8 then decide (k=1) else if g=9 then decide (k=27) else decide (fx k=g)
theorem ad' (t:aQ) (g:Int) (ai:List V) (h:ah) (H:cg Any h t.enc ai):b8 Tryz.prog 67 [.agg ai,.int .i64 g] h fun x ab=>x=.bool (ub t.k g)/\Ext h ab:=by
 obtain ⟨eS,rfl,L,_⟩:=aQ.open H;have ol:=L.one;refine Ys.z rfl (ck ?_);unfold Of ub;obtain ⟨J,ag,al,aG⟩:=f' h [.int .i64 t.k,.int .i64 t.n,.int .i64 t.a,.str t.s,eS];by_cases a:g=8
 . simp only [ol.1,ol.2.1,ag,aG.g,anJ a,an7,↓aa,ae,simprocAttr];exact al
 . by_cases b:g=9
   . simp only [ol.1,ol.2.1,ag,aG.g,anA a,anJ b,an7,an4,↓aa,ae,simprocAttr];exact al
   . simp only [ol.1,ol.2.1,ag,aG.g,anA a,anA b,an4,↓aa,ae,simprocAttr];refine bq (Qg t.k J) ?_;rintro x ad ⟨rfl,rfl⟩;simp only [↓aa,ae,simprocAttr];exact al
def zy (k:Int):List (Int × iM)->Option iM
 | []=>none
 | (n,r)::l=>if k=n then some r else zy k l
def pP (k:Int):Option iM:=zy k s8
theorem PY (k:Int):∀l:List (Int × iM),mQ k (l.map fun x=>(x.1,x.2.enc))=(zy k l).map iM.enc
 | []=>rfl
 | (n,r)::l=>by
   simp only [aow,mQ,zy]
   split
   . rfl
   . exact PY k l
theorem aaP (k:Int):mQ k F0=(pP k).map iM.enc:=PY k s8
def opsL:List (List UInt8):=[[43],[45],[42],[47],[109,111,100],[61],[60],[60,61]]
section
variable (named:Int->List UInt8->Bool)
def zI (oX:Int) (s:List UInt8):Bool:=
 if oX=1 then named 3 s else if oX=2 then named 4 s else if oX=3 then named 5 s else if oX=4 then decide (s.length<=4096) else if oX=5 then opsL.contains s else decide (s=[])
def firstM (r:iM) (k n:Int):List Int:=if k=50 then List.replicate n.toNat 8 else r.first
def hG (r:iM) (k n:Int) (len:Nat):Int:=(len:Int) - (firstM r k n).length-r.last.length
def oT (r:iM) (k n:Int) (len:Nat):List Int:=firstM r k n++List.replicate (hG r k n len).toNat r.rest++r.last
def Bh (r:iM) (k n a:Int) (s:List UInt8):Bool:=
 decide (r.bQ<=n)&&decide (n<=r.au)&&decide (0<=a)&&decide (a<=65536)&&zI named r.s s
def ly (r:iM) (k n:Int) (len:Nat):Bool:=decide (r.least<=hG r k n len)&&decide (hG r k n len<=r.lA)
mutual
def aQ.may:aQ->Bool
 | .mk k n a s l=>match pP k with
   | none=>false
   | some r=>Bh named r k n a s&&ly r k n l.length&&oA (oT r k n l.length) l
def oA:List Int->List aQ->Bool
 | _,[]=>true
 | [],_::_=>true
 | g::gs,t::l=>ub t.k g&&t.may&&oA gs l
end
def rX (k:Int) (s:List UInt8):Bool:=
 if k=1 then named 5 s else if k=2\/k=11\/k=24\/k=46\/k=50 then named 3 s else if k=16\/k=25\/k=47\/k=51 then named 4 s else
 if k=21 then decide (s.length<=4096) else if k=38 then opsL.contains s else decide (s=[])
def iv (k n:Int) (len:Nat):Bool:=
 if k=12\/k=20 then decide (-1073741824<=n)&&decide (n<=1073741823) else if k=14\/k=23 then decide (n=0)||decide (n=1) else
 if k=50 then decide (0<=n)&&decide (n<=64)&&decide (n < (len:Int)) else decide (n=0)
def HZ:List aQ->Bool
 | t::_=>decide (t.k=27)
 | []=>false
def cQ (k n:Int) (l:List aQ):List Int × Bool:=
 let len:=l.length
 if k=2 then (List.replicate len 1,decide (len<=64))
 else if k=3\/k=4 then (List.replicate 2 1,decide (len=2))
 else if k=15 then (List.replicate 2 2,decide (len=2))
 else if k=16 then (List.replicate len 2,decide (len<=1))
 else if k=25 then (List.replicate len 3,decide (len<=1))
 else if k=26\/k=28\/k=35\/k=37\/k=38 then (List.replicate 2 3,decide (len=2))
 else if k=34\/k=36\/k=39 then (List.replicate 1 3,decide (len=1))
 else if k=31 then (List.replicate 3 3,decide (len=3))
 else if k=27\/k=45\/k=52 then ([2,3],decide (len=2))
 else if k=29 then ([2,3,3],decide (len=3))
 else if k=30 then (List.replicate (len-1) 5++[3],decide (2<=len))
 else if k=32\/k=33 then ([3]++List.replicate (len-1) 4,decide (2<=len))
 else if k=46 then (List.replicate 1 3,decide (len=1)&&HZ l)
 else if k=47\/k=51 then (List.replicate len 1,decide (len<=1))
 else if k=50 then (List.replicate n.toNat 8++List.replicate (len-n.toNat) 6,true)
 else if k=53 then (List.replicate len 5,decide (1<=len))
 else ([],decide (len=0))
def iY (k g:Int):Bool:=if g=8 then decide (k=1) else decide (fx k=g)
mutual
def aQ.j5:aQ->Bool
 | .mk k n a s l=>decide (fx k≠0)&&rX named k s&&iv k n l.length&&decide (0<=a)&&decide (a<=65536)&&(cQ k n l).2&&lH (cQ k n l).1 l
def lH:List Int->List aQ->Bool
 | _,[]=>true
 | [],_::_=>true
 | g::gs,t::l=>iY t.k g&&t.j5&&lH gs l
end
end
theorem FZ {k:Int} {r:iM}:∀{l:List (Int × iM)},zy k l=some r->(k,r) ∈ l
 | [],h=>by cases h
 | (n,q)::l,h=>by
   simp only [zy] at h
   split at h
   . cases h;rename_i e;subst e;simp
   . exact aoh _ (FZ h)
theorem Ul {k:Int} (h:pP k=none):fx k=0:=by
 by_cases ay:1<=k/\k<=53
 . obtain ⟨n,rfl⟩:=Int.eq_ofNat_of_zero_le (show 0<=k by omega);have key:∀n<54,(pP ((n:Nat):Int)).isNone=true->fx ((n:Nat):Int)=0:=by decide
   exact key n (by omega) (by rw [h];rfl)
 . unfold fx;rw [anE (by omega),anE (by omega),anE (by omega),anE (by omega),anE (by omega),anE (by omega),anE (by omega)]
section
variable {named:Int->List UInt8->Bool}
theorem ajL {k g:Int} (h:g≠9):iY k g=ub k g:=by
 unfold iY ub;by_cases qi:g=8
 . rw [anL qi,anL qi]
 . rw [anE qi,anE qi,anE h]
theorem Ty:∀{gs:List Int} {l:List aQ},(∀t ∈ l,t.j5 named=t.may named)->(∀g ∈ gs,g≠9)->lH named gs l=oA named gs l
 | [],[],_,_=>by rw [lH,oA]
 | g::gs,[],_,_=>by rw [lH,oA]
 | [],t::l,_,_=>by rw [lH,oA]
 | g::gs,t::l,h,an=>by rw [lH,oA,h t (by simp),ajL (an g (by simp)),Ty (fun t aE=>h t (by simp [aE])) (fun g h=>an g (by simp [h]))]
theorem ahB {k n a:Int} {s:List UInt8} {l:List aQ} {r:iM} (ay:fx k≠0) (a6:∀t ∈ l,t.j5 named=t.may named) (aK:pP k=some r)
 (J:rX named k s=zI named r.s s) (ad:(iv k n l.length&&(cQ k n l).2)=(decide (r.bQ<=n)&&decide (n<=r.au)&&ly r k n l.length))
 (aC:ly r k n l.length=true->r.bQ<=n->(cQ k n l).1=oT r k n l.length) (yh:∀g ∈ oT r k n l.length,g≠9):(aQ.mk k n a s l).j5 named=(aQ.mk k n a s l).may named:=by
 rw [aQ.j5,aQ.may,aK];simp only;unfold Bh;rw [aoc ay,aoC,J];cases cB:ly r k n l.length with
 | false=>
   rw [cB,aoO] at ad;simp only [aoO];have:(iv k n l.length&&(cQ k n l).2)=false:=ad;rw [ao_] at this;rcases this with q | q<;>rw [q]<;>simp
 | true=>
   rw [cB,aoz] at ad;by_cases eB:r.bQ<=n
   . rw [aC cB eB,Ty a6 yh];have:∀x y z w u v:Bool,(x&&y&&z&&w&&u&&v)=(x&&(y&&u)&&z&&w&&v):=by decide
     rw [this,ad];simp only [aoz];have:∀x y z w u v:Bool,(x&&(y&&z)&&w&&u&&v)=(y&&z&&w&&u&&x&&v):=by decide
     rw [this]
   . rw [aoe eB,aop] at ad;rw [aoe eB];simp only [aop];rw [ao_] at ad;rcases ad with q | q<;>rw [q]<;>simp
theorem J_:∀(N:Nat) (t:aQ),t.size<=N->N<=1000000000->t.j5 named=t.may named
 | 0,t,aL,_=>by have:=w6 t;omega
 | N+1,.mk k n a s l,aL,aM=>by
   have bK:l.length<=1000000000:=by have:=CC l;simp only [aQ.size] at aL;omega
   have a6:∀t ∈ l,t.j5 named=t.may named:=fun t aE=>J_ N t (by have:=h4 (t:=.mk k n a s l) (u:=t) aE;omega) (by omega);cases aK:pP k with
   | none=>
     rw [aQ.j5,aQ.may,aK,Ul aK];simp
   | some r=>
     have hm:=FZ (l:=s8) aK;by_cases Qm:k=46
     . subst Qm;have:r={s:=1,first:=[9]}:=by
        have:pP 46=some {s:=1,first:=[9]}:=by rfl
        rw [aK] at this;exact aoN this
       subst this;rw [aQ.j5,aQ.may,aK];simp only;have al:rX named 46 s=zI named 1 s:=by rfl
       have aN:iv 46 n l.length=(decide (0<=n)&&decide (n<=0)):=by rw [aon];simp [iv];omega
       unfold Bh;rw [al,aN,aoc (show fx 46≠0 by decide)]
       match l,a6 with
       | [],_=>simp [cQ,ly,hG,firstM]
       | [t],a6=>
         have an:oT {s:=1,first:=[9]} 46 n [t].length=[9]:=by simp [oT,firstM,hG]
         have v':cQ 46 n [t]=([3],decide (t.k=27)):=by simp [cQ,HZ]
         rw [an,v',lH,oA,lH,oA,a6 t (by simp)];have cB:ly {s:=1,first:=[9]} 46 n [t].length=true:=by simp [ly,hG,firstM]
         rw [cB];have au:ub t.k 9=decide (t.k=27):=by simp [ub]
         rw [au];by_cases Ib:t.k=27
         . rw [aoc Ib];have:iY t.k 3=true:=by rw [Ib];decide
           rw [this];have:∀x y z w u v:Bool,(true&&x&&(y&&z)&&w&&u&&true&&(true&&v&&true))=(y&&z&&w&&u&&x&&true&&(true&&v&&true)):=by decide
           apply this
         . rw [aoe Ib];simp
       | t::u::l,_=>
         have J:(cQ 46 n (t::u::l)).2=false:=by simp [cQ]
         have ad:ly {s:=1,first:=[9]} 46 n (t::u::l).length=false:=by simp [ly,hG,firstM]
         rw [J,ad];simp
     . simp only [s8,an2,aoS,List.not_mem_nil,apm] at hm;rcases hm with h | h | h | h | h | h | h | h | h | h | h | h | h | h | h | h | h | h | h | h | h | h | h | h | h | h | h | h | h | h | h | h | h | h | h | h | h | h<;>
       obtain ⟨rfl,rfl⟩:=h<;>first | (exact absurd rfl Qm) | skip
       all_goals
        refine ahB (by decide) a6 aK (by rfl) ?_ ?_ ?_
        . rw [aon];simp [iv,cQ,ly,hG,firstM]
          try omega
        . intro cB eB;simp [cQ,ly,hG,firstM,oT] at cB eB ⊢
          try omega
        . simp [oT,firstM,hG]
          try (intro g an;omega)
end
end
end Go.Proofs.YtefceblncmdkhaaGreatDoor
