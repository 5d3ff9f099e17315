/- The chapter's functions, walked by the abstract machine: plain lemmas, no condition. Printed by a program from longer texts: names made short. -/
import Derived.Test.YtefceblncmdkhaaGreatDoorM6
import Derived.Test.YtefceblncmdkhaaGreatDoorM7
import Derived.Shelf.Unicode.Decode
import Derived.Shelf.Unicode.DecodeSlow
import Derived.Shelf.Unicode.DecodeAny
import Derived.Shelf.Strconv.Atoi
import Derived.Shelf.Pu.ParseUintPublic10
import Derived.Lib.LaidU8T
import Derived.Lib.ItoaLen
set_option linter.unusedSectionVars false
set_option linter.unusedSimpArgs false
set_option linter.unusedVariables false
set_option maxHeartbeats 64000000
noncomputable section
namespace Go.Proofs.YtefceblncmdkhaaGreatDoor
section
open Go bd
theorem aad:Extern.findNext Tryz.f138=none:=by kernel_rfl
theorem aac:(Extern.find Tryz.f138)=some Extern.BytealgIndexByte.indexByte:=by kernel_rfl
theorem adp (s:List UInt8) (c:Int) (h:ah):ff Tryz.prog 138 [.str s,.int .u8 c] h (.int .i64 (Lib.indexByte s c.toNat.toUInt8)) h:=
 ads (by decide) Tryz.func138 (by kernel_rfl) (by kernel_rfl) aad aac s c h
theorem ado (s:List UInt8) (c:Int) (h:ah):ff Tryz.prog 124 [.str s,.int .u8 c] h (.int .i64 (Lib.indexByte s c.toNat.toUInt8)) h:=by refine mP (W4.z rfl (cp ?_));unfold MC;simp only [↓ab,ae,simprocAttr];refine ey (adp _ _ _) ?_;simp only [↓ab,ae,simprocAttr]
theorem Rf (s:List UInt8) (c:Int) (h:ah):ff Tryz.prog 134 [.str s,.int .u8 c] h (.int .i64 (Lib.indexByte s c.toNat.toUInt8)) h:=by refine mP (W6.z rfl (cp ?_));unfold MF;simp only [↓ab,ae,simprocAttr];refine ey (ado _ _ _) ?_;simp only [↓ab,ae,simprocAttr]
end
section
open Go Go.Shelf
def Tryz.agl:Go.Shelf.Ren:=⟨fun | 197=>142 | 260=>147 | n=>n,fun | 9=>9 | 21=>21 | 3=>3 | 4=>4 | 5=>5 | 105=>151 | 119=>160 | 0=>0 | 46=>112 | 139=>163 | 138=>162 | n=>n,fun | 3=>4 | 4=>5 | n=>n⟩
theorem Tryz.agk:Go.Proofs.Lays.n197 Tryz.prog Tryz.agl:={
 mixed:=by kernel_rfl,
 f197:=Tryz.func142.trans (congrArg some (by kernel_rfl)),
 f260:=Tryz.func147.trans (congrArg some (by kernel_rfl)),
 t0:=Tryz.underlying0,
 a0:=Tryz.isAgg0,
 z0:=Tryz.sizeOf0,
 v0:=Tryz.zeroValue0,
 t3:=Tryz.underlying3,
 a3:=Tryz.isAgg3,
 z3:=Tryz.sizeOf3,
 v3:=Tryz.zeroValue3,
 t4:=Tryz.underlying4,
 a4:=Tryz.isAgg4,
 z4:=Tryz.sizeOf4,
 v4:=Tryz.zeroValue4,
 t5:=Tryz.underlying5,
 a5:=Tryz.isAgg5,
 z5:=Tryz.sizeOf5,
 v5:=Tryz.zeroValue5,
 t9:=Tryz.underlying9,
 a9:=Tryz.isAgg9,
 z9:=Tryz.sizeOf9,
 v9:=Tryz.zeroValue9,
 t21:=Tryz.underlying21,
 a21:=Tryz.isAgg21,
 z21:=Tryz.sizeOf21,
 v21:=Tryz.zeroValue21,
 t46:=Tryz.underlying112,
 a46:=Tryz.isAgg112,
 z46:=Tryz.sizeOf112,
 v46:=Tryz.zeroValue112,
 t105:=Tryz.underlying151,
 a105:=Tryz.isAgg151,
 z105:=Tryz.sizeOf151,
 v105:=Tryz.zeroValue151,
 t119:=Tryz.underlying160,
 a119:=Tryz.isAgg160,
 z119:=Tryz.sizeOf160,
 t138:=Tryz.underlying162,
 a138:=Tryz.isAgg162,
 z138:=Tryz.sizeOf162,
 v138:=Tryz.zeroValue162,
 t139:=Tryz.underlying163,
 a139:=Tryz.isAgg163,
 z139:=Tryz.sizeOf163,
 v139:=Tryz.zeroValue163,
 g3:=by kernel_rfl,
 g4:=by kernel_rfl}
def Tryz.agj:Go.Shelf.Ren:=⟨fun | 172=>154 | 244=>161 | 245=>153 | 247=>164 | 279=>157 | 280=>158 | 281=>159 | 282=>160 | 287=>152 | 316=>162 | 171=>29 | 205=>163 | 321=>155 | 322=>156 | 243=>55 | 246=>93 | 283=>114 | 284=>115 | 285=>116 | 286=>117 | 129=>129 | 317=>128 | 318=>130 | 319=>131 | 320=>132 | 337=>140 | 338=>141 | n=>n,fun | 9=>9 | 3=>3 | 75=>84 | 76=>85 | 4=>4 | 5=>5 | 167=>165 | 37=>58 | 0=>0 | 85=>173 | 2=>2 | 168=>167 | 53=>121 | 175=>156 | 46=>112 | 210=>171 | 127=>110 | 145=>177 | 143=>175 | 21=>21 | 171=>120 | 173=>124 | 212=>141 | 51=>134 | 20=>20 | 213=>142 | 232=>154 | 233=>155 | 80=>87 | n=>n,fun | 15=>6 | 16=>7 | 17=>1 | 18=>2 | 19=>3 | n=>n⟩
theorem Tryz.agi:Go.Proofs.Lays.n172 Tryz.prog Tryz.agj:={
 mixed:=by kernel_rfl,
 f129:=Tryz.func129.trans (congrArg some (by kernel_rfl)),
 f171:=Tryz.func29.trans (congrArg some (by kernel_rfl)),
 f172:=Tryz.func154.trans (congrArg some (by kernel_rfl)),
 f205:=Tryz.func163.trans (congrArg some (by kernel_rfl)),
 f243:=Tryz.func55.trans (congrArg some (by kernel_rfl)),
 f244:=Tryz.func161.trans (congrArg some (by kernel_rfl)),
 f245:=Tryz.func153.trans (congrArg some (by kernel_rfl)),
 f246:=Tryz.func93.trans (congrArg some (by kernel_rfl)),
 f247:=Tryz.func164.trans (congrArg some (by kernel_rfl)),
 f279:=Tryz.func157.trans (congrArg some (by kernel_rfl)),
 f280:=Tryz.func158.trans (congrArg some (by kernel_rfl)),
 f281:=Tryz.func159.trans (congrArg some (by kernel_rfl)),
 f282:=Tryz.func160.trans (congrArg some (by kernel_rfl)),
 f283:=Tryz.func114.trans (congrArg some (by kernel_rfl)),
 f284:=Tryz.func115.trans (congrArg some (by kernel_rfl)),
 f285:=Tryz.func116.trans (congrArg some (by kernel_rfl)),
 f286:=Tryz.func117.trans (congrArg some (by kernel_rfl)),
 f287:=Tryz.func152.trans (congrArg some (by kernel_rfl)),
 f316:=Tryz.func162.trans (congrArg some (by kernel_rfl)),
 f317:=Tryz.func128.trans (congrArg some (by kernel_rfl)),
 f318:=Tryz.func130.trans (congrArg some (by kernel_rfl)),
 f319:=Tryz.func131.trans (congrArg some (by kernel_rfl)),
 f320:=Tryz.func132.trans (congrArg some (by kernel_rfl)),
 f321:=Tryz.func155.trans (congrArg some (by kernel_rfl)),
 f322:=Tryz.func156.trans (congrArg some (by kernel_rfl)),
 f337:=Tryz.func140.trans (congrArg some (by kernel_rfl)),
 f338:=Tryz.func141.trans (congrArg some (by kernel_rfl)),
 t0:=Tryz.underlying0,
 a0:=Tryz.isAgg0,
 z0:=Tryz.sizeOf0,
 v0:=Tryz.zeroValue0,
 t2:=Tryz.underlying2,
 a2:=Tryz.isAgg2,
 z2:=Tryz.sizeOf2,
 v2:=Tryz.zeroValue2,
 t3:=Tryz.underlying3,
 a3:=Tryz.isAgg3,
 z3:=Tryz.sizeOf3,
 v3:=Tryz.zeroValue3,
 t4:=Tryz.underlying4,
 a4:=Tryz.isAgg4,
 z4:=Tryz.sizeOf4,
 v4:=Tryz.zeroValue4,
 t5:=Tryz.underlying5,
 a5:=Tryz.isAgg5,
 z5:=Tryz.sizeOf5,
 v5:=Tryz.zeroValue5,
 t9:=Tryz.underlying9,
 a9:=Tryz.isAgg9,
 z9:=Tryz.sizeOf9,
 v9:=Tryz.zeroValue9,
 t20:=Tryz.underlying20,
 a20:=Tryz.isAgg20,
 z20:=Tryz.sizeOf20,
 v20:=Tryz.zeroValue20,
 t21:=Tryz.underlying21,
 a21:=Tryz.isAgg21,
 z21:=Tryz.sizeOf21,
 v21:=Tryz.zeroValue21,
 t37:=Tryz.underlying58,
 a37:=Tryz.isAgg58,
 z37:=Tryz.sizeOf58,
 v37:=Tryz.zeroValue58,
 t46:=Tryz.underlying112,
 a46:=Tryz.isAgg112,
 z46:=Tryz.sizeOf112,
 v46:=Tryz.zeroValue112,
 t51:=Tryz.underlying134,
 a51:=Tryz.isAgg134,
 z51:=Tryz.sizeOf134,
 v51:=Tryz.zeroValue134,
 t53:=Tryz.underlying121,
 a53:=Tryz.isAgg121,
 z53:=Tryz.sizeOf121,
 v53:=Tryz.zeroValue121,
 t75:=Tryz.underlying84,
 a75:=Tryz.isAgg84,
 z75:=Tryz.sizeOf84,
 v75:=Tryz.zeroValue84,
 t76:=Tryz.underlying85,
 a76:=Tryz.isAgg85,
 z76:=Tryz.sizeOf85,
 v76:=Tryz.zeroValue85,
 t85:=Tryz.underlying173,
 a85:=Tryz.isAgg173,
 z85:=Tryz.sizeOf173,
 v85:=Tryz.zeroValue173,
 t127:=Tryz.underlying110,
 a127:=Tryz.isAgg110,
 z127:=Tryz.sizeOf110,
 v127:=Tryz.zeroValue110,
 t143:=Tryz.underlying175,
 a143:=Tryz.isAgg175,
 z143:=Tryz.sizeOf175,
 v143:=Tryz.zeroValue175,
 t145:=Tryz.underlying177,
 a145:=Tryz.isAgg177,
 z145:=Tryz.sizeOf177,
 v145:=Tryz.zeroValue177,
 t167:=Tryz.underlying165,
 a167:=Tryz.isAgg165,
 z167:=Tryz.sizeOf165,
 v167:=Tryz.zeroValue165,
 t168:=Tryz.underlying167,
 a168:=Tryz.isAgg167,
 z168:=Tryz.sizeOf167,
 v168:=Tryz.zeroValue167,
 t171:=Tryz.underlying120,
 a171:=Tryz.isAgg120,
 z171:=Tryz.sizeOf120,
 v171:=Tryz.zeroValue120,
 t173:=Tryz.underlying124,
 a173:=Tryz.isAgg124,
 z173:=Tryz.sizeOf124,
 v173:=Tryz.zeroValue124,
 t175:=Tryz.underlying156,
 a175:=Tryz.isAgg156,
 z175:=Tryz.sizeOf156,
 v175:=Tryz.zeroValue156,
 t210:=Tryz.underlying171,
 a210:=Tryz.isAgg171,
 z210:=Tryz.sizeOf171,
 v210:=Tryz.zeroValue171,
 t212:=Tryz.underlying141,
 a212:=Tryz.isAgg141,
 z212:=Tryz.sizeOf141,
 v212:=Tryz.zeroValue141,
 t213:=Tryz.underlying142,
 a213:=Tryz.isAgg142,
 z213:=Tryz.sizeOf142,
 t232:=Tryz.underlying154,
 a232:=Tryz.isAgg154,
 z232:=Tryz.sizeOf154,
 v232:=Tryz.zeroValue154,
 t233:=Tryz.underlying155,
 a233:=Tryz.isAgg155,
 z233:=Tryz.sizeOf155,
 v233:=Tryz.zeroValue155,
 g15:=by kernel_rfl,
 g16:=by kernel_rfl,
 g17:=by kernel_rfl,
 g18:=by kernel_rfl,
 g19:=by kernel_rfl}
def Tryz.JJ:Go.Shelf.Ren:=⟨fun | 14=>149 | 16=>152 | 17=>153 | 19=>155 | 20=>156 | 21=>157 | 22=>158 | 23=>159 | 24=>160 | 25=>162 | 27=>29 | 26=>163 | 28=>55 | 29=>93 | 30=>114 | 31=>115 | 32=>116 | 33=>117 | 35=>129 | 34=>128 | 36=>130 | 37=>131 | 38=>132 | 39=>140 | 40=>141 | n=>n,fun | 9=>9 | 3=>3 | 22=>121 | 24=>84 | 25=>156 | 4=>4 | 34=>165 | 5=>5 | 36=>112 | 37=>58 | 0=>0 | 39=>167 | 21=>21 | 44=>171 | 47=>110 | 50=>177 | 48=>175 | 2=>2 | 52=>120 | 55=>124 | 59=>141 | 60=>134 | 20=>20 | 61=>142 | 65=>154 | 66=>155 | 67=>87 | n=>n,fun | 0=>6 | 1=>7 | 2=>1 | 3=>2 | 4=>3 | n=>n⟩
theorem Tryz.RJ:Go.Proofs.LaysPu.n14 Tryz.prog Tryz.JJ:={
 mixed:=by kernel_rfl,
 f14:=Tryz.func149.trans (congrArg some (by kernel_rfl)),
 f16:=Tryz.func152.trans (congrArg some (by kernel_rfl)),
 f17:=Tryz.func153.trans (congrArg some (by kernel_rfl)),
 f19:=Tryz.func155.trans (congrArg some (by kernel_rfl)),
 f20:=Tryz.func156.trans (congrArg some (by kernel_rfl)),
 f21:=Tryz.func157.trans (congrArg some (by kernel_rfl)),
 f22:=Tryz.func158.trans (congrArg some (by kernel_rfl)),
 f23:=Tryz.func159.trans (congrArg some (by kernel_rfl)),
 f24:=Tryz.func160.trans (congrArg some (by kernel_rfl)),
 f25:=Tryz.func162.trans (congrArg some (by kernel_rfl)),
 f26:=Tryz.func163.trans (congrArg some (by kernel_rfl)),
 f27:=Tryz.func29.trans (congrArg some (by kernel_rfl)),
 f28:=Tryz.func55.trans (congrArg some (by kernel_rfl)),
 f29:=Tryz.func93.trans (congrArg some (by kernel_rfl)),
 f30:=Tryz.func114.trans (congrArg some (by kernel_rfl)),
 f31:=Tryz.func115.trans (congrArg some (by kernel_rfl)),
 f32:=Tryz.func116.trans (congrArg some (by kernel_rfl)),
 f33:=Tryz.func117.trans (congrArg some (by kernel_rfl)),
 f34:=Tryz.func128.trans (congrArg some (by kernel_rfl)),
 f35:=Tryz.func129.trans (congrArg some (by kernel_rfl)),
 f36:=Tryz.func130.trans (congrArg some (by kernel_rfl)),
 f37:=Tryz.func131.trans (congrArg some (by kernel_rfl)),
 f38:=Tryz.func132.trans (congrArg some (by kernel_rfl)),
 f39:=Tryz.func140.trans (congrArg some (by kernel_rfl)),
 f40:=Tryz.func141.trans (congrArg some (by kernel_rfl)),
 t0:=Tryz.underlying0,
 a0:=Tryz.isAgg0,
 z0:=Tryz.sizeOf0,
 v0:=Tryz.zeroValue0,
 i0:=by kernel_rfl,
 t2:=Tryz.underlying2,
 a2:=Tryz.isAgg2,
 z2:=Tryz.sizeOf2,
 v2:=Tryz.zeroValue2,
 i2:=by kernel_rfl,
 t3:=Tryz.underlying3,
 a3:=Tryz.isAgg3,
 z3:=Tryz.sizeOf3,
 v3:=Tryz.zeroValue3,
 i3:=by kernel_rfl,
 t4:=Tryz.underlying4,
 a4:=Tryz.isAgg4,
 z4:=Tryz.sizeOf4,
 v4:=Tryz.zeroValue4,
 i4:=by kernel_rfl,
 t5:=Tryz.underlying5,
 a5:=Tryz.isAgg5,
 z5:=Tryz.sizeOf5,
 v5:=Tryz.zeroValue5,
 i5:=by kernel_rfl,
 t9:=Tryz.underlying9,
 a9:=Tryz.isAgg9,
 z9:=Tryz.sizeOf9,
 v9:=Tryz.zeroValue9,
 i9:=by kernel_rfl,
 t20:=Tryz.underlying20,
 a20:=Tryz.isAgg20,
 z20:=Tryz.sizeOf20,
 v20:=Tryz.zeroValue20,
 i20:=by kernel_rfl,
 t21:=Tryz.underlying21,
 a21:=Tryz.isAgg21,
 z21:=Tryz.sizeOf21,
 v21:=Tryz.zeroValue21,
 i21:=by kernel_rfl,
 t22:=Tryz.underlying121,
 a22:=Tryz.isAgg121,
 z22:=Tryz.sizeOf121,
 v22:=Tryz.zeroValue121,
 i22:=by kernel_rfl,
 t24:=Tryz.underlying84,
 a24:=Tryz.isAgg84,
 z24:=Tryz.sizeOf84,
 v24:=Tryz.zeroValue84,
 i24:=by kernel_rfl,
 t25:=Tryz.underlying156,
 a25:=Tryz.isAgg156,
 z25:=Tryz.sizeOf156,
 v25:=Tryz.zeroValue156,
 i25:=by kernel_rfl,
 t34:=Tryz.underlying165,
 a34:=Tryz.isAgg165,
 z34:=Tryz.sizeOf165,
 v34:=Tryz.zeroValue165,
 i34:=by kernel_rfl,
 c34:=by kernel_rfl,
 t36:=Tryz.underlying112,
 a36:=Tryz.isAgg112,
 z36:=Tryz.sizeOf112,
 v36:=Tryz.zeroValue112,
 i36:=by kernel_rfl,
 t37:=Tryz.underlying58,
 a37:=Tryz.isAgg58,
 z37:=Tryz.sizeOf58,
 v37:=Tryz.zeroValue58,
 i37:=by kernel_rfl,
 t39:=Tryz.underlying167,
 a39:=Tryz.isAgg167,
 z39:=Tryz.sizeOf167,
 v39:=Tryz.zeroValue167,
 i39:=by kernel_rfl,
 t44:=Tryz.underlying171,
 a44:=Tryz.isAgg171,
 z44:=Tryz.sizeOf171,
 v44:=Tryz.zeroValue171,
 i44:=by kernel_rfl,
 t47:=Tryz.underlying110,
 a47:=Tryz.isAgg110,
 z47:=Tryz.sizeOf110,
 v47:=Tryz.zeroValue110,
 i47:=by kernel_rfl,
 t48:=Tryz.underlying175,
 a48:=Tryz.isAgg175,
 z48:=Tryz.sizeOf175,
 v48:=Tryz.zeroValue175,
 i48:=by kernel_rfl,
 t50:=Tryz.underlying177,
 a50:=Tryz.isAgg177,
 z50:=Tryz.sizeOf177,
 v50:=Tryz.zeroValue177,
 i50:=by kernel_rfl,
 t52:=Tryz.underlying120,
 a52:=Tryz.isAgg120,
 z52:=Tryz.sizeOf120,
 v52:=Tryz.zeroValue120,
 i52:=by kernel_rfl,
 t55:=Tryz.underlying124,
 a55:=Tryz.isAgg124,
 z55:=Tryz.sizeOf124,
 v55:=Tryz.zeroValue124,
 i55:=by kernel_rfl,
 t59:=Tryz.underlying141,
 a59:=Tryz.isAgg141,
 z59:=Tryz.sizeOf141,
 v59:=Tryz.zeroValue141,
 i59:=by kernel_rfl,
 t60:=Tryz.underlying134,
 a60:=Tryz.isAgg134,
 z60:=Tryz.sizeOf134,
 v60:=Tryz.zeroValue134,
 i60:=by kernel_rfl,
 t61:=Tryz.underlying142,
 a61:=Tryz.isAgg142,
 z61:=Tryz.sizeOf142,
 t65:=Tryz.underlying154,
 a65:=Tryz.isAgg154,
 z65:=Tryz.sizeOf154,
 v65:=Tryz.zeroValue154,
 i65:=by kernel_rfl,
 t66:=Tryz.underlying155,
 a66:=Tryz.isAgg155,
 z66:=Tryz.sizeOf155,
 v66:=Tryz.zeroValue155,
 i66:=by kernel_rfl,
 t67:=Tryz.underlying87,
 a67:=Tryz.isAgg87,
 z67:=Tryz.sizeOf87,
 v67:=Tryz.zeroValue87,
 i67:=by kernel_rfl,
 g0:=by kernel_rfl,
 m0:=by kernel_rfl,
 g1:=by kernel_rfl,
 m1:=by kernel_rfl,
 g2:=by kernel_rfl,
 m2:=by kernel_rfl,
 g3:=by kernel_rfl,
 m3:=by kernel_rfl,
 g4:=by kernel_rfl,
 m4:=by kernel_rfl}
def Tryz.BN:Go.Shelf.Ren:=⟨fun | 260=>147 | n=>n,fun | 9=>9 | 21=>21 | 3=>3 | 4=>4 | 5=>5 | 119=>160 | 0=>0 | 46=>112 | 139=>163 | 138=>162 | n=>n,fun | 3=>4 | 4=>5 | n=>n⟩
theorem Tryz.agm:Go.Proofs.Lays.n260 Tryz.prog Tryz.BN:={
 mixed:=by kernel_rfl,
 f260:=Tryz.func147.trans (congrArg some (by kernel_rfl)),
 t0:=Tryz.underlying0,
 a0:=Tryz.isAgg0,
 z0:=Tryz.sizeOf0,
 v0:=Tryz.zeroValue0,
 t3:=Tryz.underlying3,
 a3:=Tryz.isAgg3,
 z3:=Tryz.sizeOf3,
 v3:=Tryz.zeroValue3,
 t4:=Tryz.underlying4,
 a4:=Tryz.isAgg4,
 z4:=Tryz.sizeOf4,
 v4:=Tryz.zeroValue4,
 t5:=Tryz.underlying5,
 a5:=Tryz.isAgg5,
 z5:=Tryz.sizeOf5,
 v5:=Tryz.zeroValue5,
 t9:=Tryz.underlying9,
 a9:=Tryz.isAgg9,
 z9:=Tryz.sizeOf9,
 v9:=Tryz.zeroValue9,
 t21:=Tryz.underlying21,
 a21:=Tryz.isAgg21,
 z21:=Tryz.sizeOf21,
 v21:=Tryz.zeroValue21,
 t46:=Tryz.underlying112,
 a46:=Tryz.isAgg112,
 z46:=Tryz.sizeOf112,
 v46:=Tryz.zeroValue112,
 t119:=Tryz.underlying160,
 a119:=Tryz.isAgg160,
 z119:=Tryz.sizeOf160,
 t138:=Tryz.underlying162,
 a138:=Tryz.isAgg162,
 z138:=Tryz.sizeOf162,
 v138:=Tryz.zeroValue162,
 t139:=Tryz.underlying163,
 a139:=Tryz.isAgg163,
 z139:=Tryz.sizeOf163,
 v139:=Tryz.zeroValue163,
 g3:=by kernel_rfl,
 g4:=by kernel_rfl}
end
section
open Go bd Go.RowKit
section
open Go.Shelf
theorem Zt (s:ByteArray) (w:World) (eo:Lib.Utf8Tabs 4 5 w):
 Calls Tryz.prog 142 #[.string s] w fun e w'=>e=.returned (.tuple #[.int .i32 (Lib.decodeGo s).1,.int .i64 (Lib.decodeGo s).2])/\Below w.heap.size w w':=Any.utf8_DecodeRuneInString Tryz.agk s w eo
theorem Wk (s:ByteArray) (n:Int) (ax:s.size<=18) (h:Lib.atoi s.data.toList=some n) (w:World):
 Calls Tryz.prog 154 #[.string s] w fun e w'=>e=.returned (.tuple #[.int .i64 n,.nilIface])/\Below w.heap.size w w':=(Any.strconv_Atoi Tryz.agi s n ax h w).mono fun e w' q=>⟨q.1,by obtain ⟨t,rfl⟩:=q.2;exact Lib.bytesWorld_below _ _ _⟩
theorem adK (n:Int) (a1:-9223372036854775808<=n) (J:n<=9223372036854775807) (w:World)
 (acT:Lib.TabIs Tryz.prog w "internal/strconv.uint64pow10" .u64 Lib.pow10Tab):
 Calls Tryz.prog 29 #[.int .i64 n] w fun e w'=>e=.returned (.string ⟨(Lib.itoa n).toArray⟩)/\Below w.heap.size w w':=(Any.strconv_Itoa Tryz.RI n a1 J w acT).mono fun e w' q=>⟨q.1,by obtain ⟨k,os,rfl⟩:=q.2;exact ⟨rfl,rfl,rfl,by show w.heap.size<=(w.heap++os).size;rw [Array.size_append];omega,fun j bJ=>aol bJ⟩⟩
theorem ais (s:ByteArray) (acg:s.size<=9223372036854775806) (u:Nat) (h:Lib.parseUintB 64 s.data.toList=.ok u) (w:World):
 Calls Tryz.prog 149 #[.string s,.int .i64 10,.int .i64 64] w fun e w'=>e=.returned (.tuple #[.int .u64 u,.nilIface])/\Below w.heap.size w w':=(Any.strconv_ParseUint_10_at64_ok Tryz.RJ s acg u h w).mono fun e w' q=>⟨q.1,by
  rcases q.2 with rfl | rfl
  . exact Below.refl _ _
  . exact Lib.bytesWorld_below _ _ _⟩
theorem aiu (s:ByteArray) (we:s.size<=281474976710656) (h:Lib.parseUintB 64 s.data.toList=.range) (w:World) (he:xp w 7):
 Calls Tryz.prog 149 #[.string s,.int .i64 10,.int .i64 64] w fun e w'=>(∃p,e=.returned (.tuple #[.int .u64 18446744073709551615,.iface (Tryz.JJ.t 39) p]))/\Below w.heap.size w w':=by
 obtain ⟨aV,J,ad⟩:=he;refine (Any.strconv_ParseUint_10_at64_range Tryz.RJ s we h aV w J ad).mono fun e w' q=>?_;obtain ⟨N,aD,_,_,ep⟩:=q;exact ⟨⟨_,aD⟩,ep⟩
end
theorem yX {f:FuncId} (bc:Nat.beq f dv=false) {args:List V} {v:V} {h:ah} (hM:∃fn,Tryz.prog.funcs[f]? =some fn/\fn.body.isSome=true) (H:∀E xs w,GG w->bm E args xs->Calls Tryz.prog f xs.toArray w fun e w'=>∃x,e=.returned x/\Rel E v x/\Below w.heap.size w w'):ff Tryz.prog f args h v h:=by refine ⟨fun e=>by subst e;simp at bc,.inl ⟨hM,fun aB E w xs ar s=>?_⟩⟩;refine (H E xs w (Lay.gp s.laid s.frame) ar).mono fun e w' q=>?_;obtain ⟨x,rfl,bB,aj⟩:=q;exact ⟨E,x,rfl,fun _ _ q=>q,bB,s.below aj⟩
theorem Zr (s:List UInt8) (h:ah):ff Tryz.prog 142 [.str s] h (.tuple [.int .i32 (Lib.decodeGo ⟨⟨s⟩⟩).1,.int .i64 (Lib.decodeGo ⟨⟨s⟩⟩).2]) h:=by refine yX (by decide) ⟨_,Tryz.func142,by kernel_rfl⟩ fun E xs w ax ar=>?_;obtain ⟨y,cS,rfl,ag,rfl⟩:=ar;simp only [Rel] at ag;subst ag;refine (Zt ⟨⟨s⟩⟩ w ax.UL).mono fun e w' q=>?_;obtain ⟨rfl,aj⟩:=q;refine ⟨_,rfl,?_,aj⟩;simp only [Rel];exact ⟨_,rfl,_,_,rfl,rfl,_,_,rfl,rfl,rfl⟩
theorem AD (s sub:List UInt8) (aM:s.length<=100000) (h:ah):ff Tryz.prog 52 [.str s,.str sub] h (.bool (Lib.contains s sub)) h:=by refine yX (by decide) ⟨_,Tryz.func52,by kernel_rfl⟩ fun E xs w ax ar=>?_;obtain ⟨y,cS,rfl,ag,z,pU,rfl,av,rfl⟩:=ar;simp only [Rel] at ag av;subst ag av;obtain ⟨m,hm⟩:=ax.maxLen;refine (Oz ⟨⟨s⟩⟩ ⟨⟨sub⟩⟩ m w (by show s.length<4294967281;omega) hm).mono fun e w' q=>?_;obtain ⟨rfl,rfl⟩:=q;refine ⟨_,rfl,?_,Below.refl _ _⟩;simp only [Rel]
theorem Wj (s:List UInt8) (n:Int) (ax:s.length<=18) (h:Lib.atoi s=some n) (ak:ah):ff Tryz.prog 154 [.str s] ak (.tuple [.int .i64 n,.nilIface]) ak:=by refine yX (by decide) ⟨_,Tryz.func154,by kernel_rfl⟩ fun E xs w sw ar=>?_;obtain ⟨y,cS,rfl,ag,rfl⟩:=ar;simp only [Rel] at ag;subst ag;refine (Wk ⟨⟨s⟩⟩ n ax h w).mono fun e w' q=>?_;obtain ⟨rfl,aj⟩:=q;refine ⟨_,rfl,?_,aj⟩;simp only [Rel];exact ⟨_,rfl,_,_,rfl,rfl,_,_,rfl,rfl,rfl⟩
theorem adJ (n:Int) (a1:-9223372036854775808<=n) (J:n<=9223372036854775807) (ak:ah):ff Tryz.prog 29 [.int .i64 n] ak (.str (Lib.itoa n)) ak:=by refine yX (by decide) ⟨_,Tryz.func29,by kernel_rfl⟩ fun E xs w sw ar=>?_;obtain ⟨y,cS,rfl,ag,rfl⟩:=ar;simp only [Rel] at ag;subst ag;refine (adK n a1 J w sw.Fs).mono fun e w' q=>?_;obtain ⟨rfl,aj⟩:=q;refine ⟨_,rfl,?_,aj⟩;simp only [Rel]
theorem air (s:List UInt8) (u:Nat) (ax:s.length<=100000) (h:Lib.parseUintB 64 s=.ok u) (ak:ah):ff Tryz.prog 149 [.str s,.int .i64 10,.int .i64 64] ak (.tuple [.int .u64 u,.nilIface]) ak:=by refine yX (by decide) ⟨_,Tryz.func149,by kernel_rfl⟩ fun E xs w sw ar=>?_;obtain ⟨y,cS,rfl,ag,z,pU,rfl,av,t,cZ,rfl,aI,rfl⟩:=ar;simp only [Rel] at ag av aI;subst ag av aI;refine (ais ⟨⟨s⟩⟩ (by show s.length<=9223372036854775806;omega) u h w).mono fun e w' q=>?_;obtain ⟨rfl,aj⟩:=q;refine ⟨_,rfl,?_,aj⟩;simp only [Rel];exact ⟨_,rfl,_,_,rfl,rfl,_,_,rfl,rfl,rfl⟩
def ZT:TypeId:=Tryz.JJ.t 39
theorem ait (s:List UInt8) (ax:s.length<=100000) (h:Lib.parseUintB 64 s=.range) (ak:ah):ff Tryz.prog 149 [.str s,.int .i64 10,.int .i64 64] ak (.tuple [.int .u64 18446744073709551615,.iface ZT .bad]) ak:=by refine yX (by decide) ⟨_,Tryz.func149,by kernel_rfl⟩ fun E xs w sw ar=>?_;obtain ⟨y,cS,rfl,ag,z,pU,rfl,av,t,cZ,rfl,aI,rfl⟩:=ar;simp only [Rel] at ag av aI;subst ag av aI;refine (aiu ⟨⟨s⟩⟩ (by show s.length<=281474976710656;omega) h w sw.Pl).mono fun e w' q=>?_;obtain ⟨⟨p,rfl⟩,aj⟩:=q;refine ⟨_,rfl,?_,aj⟩;simp only [Rel];exact ⟨_,rfl,_,_,rfl,rfl,_,_,rfl,⟨p,rfl,trivial⟩,rfl⟩
end
section
open Go bd
def nT (s:List UInt8) (i:Nat):Nat:=if decodeL s i=(65533,1) then 0 else (decodeL s i).2
def s5:Nat->List UInt8->Nat->Nat
 | 0,s,_=>s.length
 | f+1,s,a=>if a<s.length then (if nT s a=0 then a else s5 f s (a+nT s a)) else s.length
def rU (s:List UInt8) (a:Nat):Nat:=s5 (s.length-a) s a
def uQ (s:List UInt8):Nat:=rU s 0
theorem TS (s:List UInt8):∀(f g a:Nat),s.length-a<=f->s.length-a<=g->s5 f s a=s5 g s a
 | 0,g,a,J,ad=>by
   cases g with
   | zero=>rfl
   | succ g=>simp only [s5];rw [am7 (by omega)]
 | f+1,0,a,J,ad=>by simp only [s5];rw [am7 (by omega)]
 | f+1,g+1,a,J,ad=>by
   simp only [s5];by_cases bF:a<s.length
   . rw [anb bF,anb bF];by_cases ao:nT s a=0
     . rw [anb ao,anb ao]
     . rw [am7 ao,am7 ao];exact TS s f g _ (by omega) (by omega)
   . rw [am7 bF,am7 bF]
theorem TR {s:List UInt8} {a:Nat} (h:s.length<=a):rU s a=s.length:=by unfold rU;rw [show s.length-a=0 from by omega];rfl
theorem ajh {s:List UInt8} {a:Nat} (h:a<s.length) (ao:nT s a=0):rU s a=a:=by unfold rU;rw [show s.length-a=s.length-a-1+1 from by omega,s5,anb h,anb ao]
theorem KH {s:List UInt8} {a:Nat} (h:a<s.length) (ao:nT s a≠0):rU s a=rU s (a+nT s a):=by unfold rU;rw [show s.length-a=s.length-a-1+1 from by omega,s5,anb h,am7 ao];exact TS s _ _ _ (by omega) (by omega)
def fR (c:UInt8):Bool:=nU c.toNat
def fw (c:UInt8):Bool:=rM c.toNat
def jX (l:List UInt8):Nat:=l.foldl (fun n c=>10 * n + (c.toNat-48)) 0
abbrev tr:=Except Int (Int × Int × List UInt8 × Nat)
def za (r:List UInt8):tr:=
 let t:=r.takeWhile fR
 if 2147483647<jX t then .error 254 else .ok (1,(if 1073741823 < (jX t:Int) then (jX t:Int)-2147483648 else jX t),[],t.length)
def p9:List UInt8->Option (UInt8 × Nat)
 | []=>none
 | c::r=>if c=110 then some (10,1) else if c=116 then some (9,1) else if c=34 then some (34,1) else if c=92 then some (92,1) else
   if 2<=r.length/\fR c/\fR (r[0]?.getD 0)/\fR (r[1]?.getD 0)/\jX (c::r.take 2)<256 then some ((jX (c::r.take 2)).toUInt8,3) else none
def xf:Nat->List UInt8->Option (List UInt8 × Nat)
 | 0,_=>none
 | _+1,[]=>none
 | f+1,c::r=>if c=34 then some ([],1) else if c=92 then (match p9 r with
    | none=>none
    | some (b,n)=>(xf f (r.drop n)).map fun q=>(b::q.1,q.2+n+1))
   else if c<32\/c=127 then none else (xf f r).map fun q=>(c::q.1,q.2+1)
def qO (r:List UInt8):Option (List UInt8 × Nat):=xf r.length r
def tb (r:List UInt8):tr:=
 match qO r with
 | none=>.error 252
 | some (b,n)=>if 4096<b.length then .error 255 else .ok (2,0,b,n+1)
def iM:List (List UInt8):=[[97,110,100],[98,101,103,105,110],[101,108,115,101],[101,110,100],[101,120,99,101,112,116,105,111,110],[102,97,108,115,101],[102,117,110],[105,102],[105,110],[108,101,116],[109,97,116,99,104],[109,111,100],[111,102],[114,97,105,115,101],[114,101,99],[116,104,101,110],[116,114,117,101],[116,114,121],[116,121,112,101],[119,105,116,104]]
def gF:List (List UInt8):=[[59,59],[58,61],[45,62],[60,61],[59],[40],[41],[44],[61],[60],[43],[45],[42],[47],[124],[33],[95]]
def hn (t:List UInt8):Bool:=iM.contains t
def kU (kind:Int) (r:List UInt8):tr:=
 let t:=r.takeWhile fw
 if kind=3/\t=[95] then .ok (7,0,t,t.length) else if kind=3/\hn t then .ok (6,0,t,t.length) else if 64<t.length then .error 255 else .ok (kind,0,t,t.length)
def zv (r:List UInt8):tr:=
 match gF.find? (·.isPrefixOf r) with
 | some t=>.ok (7,0,t,t.length)
 | none=>.error 251
def lg:List UInt8->Bool
 | d::_=>g_ d.toNat
 | []=>false
def hA:List UInt8->tr
 | []=>.error 0
 | c::r=>if fR c then za (c::r) else if c=34 then tb r else if g_ c.toNat||c=95 then kU 3 (c::r) else if nY c.toNat then kU 4 (c::r) else
   if c=39/\lg r then (kU 5 r).map fun q=>(q.1,q.2.1,q.2.2.1,q.2.2.2+1) else zv (c::r)
structure cb where
 kind:Int
 num:Int
 pos:Nat
 text:List UInt8
deriving DecidableEq
def blank (c:UInt8):Bool:=c=9||c=10||c=13||c=32
def AB (w:cb):Except (Int × Nat) (List cb)->Except (Int × Nat) (List cb)
 | .ok ws=>.ok (w::ws)
 | .error e=>.error e
def oi:Nat->List UInt8->Nat->Except (Int × Nat) (List cb)
 | 0,_,_=>.ok []
 | _+1,[],_=>.ok []
 | f+1,c::r,p=>if blank c then oi f r (p+1) else if ([40,42]:List UInt8).isPrefixOf (c::r) then (match jd (c::r) 0 with
    | none=>.error (253,p)
    | some n=>oi f ((c::r).drop n) (p+n))
   else match hA (c::r) with
    | .error e=>.error (e,p)
    | .ok q=>AB ⟨q.1,q.2.1,p,q.2.2.1⟩ (oi f ((c::r).drop q.2.2.2) (p+q.2.2.2))
def rN (r:List UInt8) (p:Nat):Except (Int × Nat) (List cb):=oi r.length r p
def l' (s:List UInt8):Except (Int × Nat) (List cb):=
 if 65536<s.length then .error (3,0) else if uQ s<s.length then .error (250,uQ s) else rN s 0
theorem KV {p:UInt8->Bool} {c:UInt8} {r:List UInt8} (h:p c=true):1<=((c::r).takeWhile p).length:=by simp only [aoq,h,anz,am0];omega
theorem ajU {t:List UInt8} (h:t ∈ gF):1<=t.length:=by revert t;decide
theorem KO {c:UInt8} (h:g_ c.toNat=true):fw c=true:=by unfold fw rM;rw [h];simp
theorem PS {c:UInt8} (h:nY c.toNat=true):fw c=true:=by unfold fw rM;rw [h];simp
theorem UE {c:UInt8} (h:c=95):fw c=true:=by subst h;decide
theorem St {k:Int} {r:List UInt8} {q:Int × Int × List UInt8 × Nat} (h:kU k r=.ok q):q.2.2.2=(r.takeWhile fw).length:=by
 unfold kU at h;simp only at h
 split at h
 . cases h;rfl
 . split at h
   . cases h;rfl
   . split at h
     . cases h
     . cases h;rfl
theorem J3 {r:List UInt8} {q:Int × Int × List UInt8 × Nat} (h:hA r=.ok q):1<=q.2.2.2:=by
 match r,h with
 | c::r,h=>
   simp only [hA] at h
   split at h
   . rename_i aZ;unfold za at h;simp only at h
     split at h
     . cases h
     . cases h;exact KV aZ
   . split at h
     . unfold tb at h
       split at h
       . cases h
       . split at h
         . cases h
         . cases h;simp only;omega
     . split at h
       . rename_i aM;rw [St h];simp only [aog,ane] at aM;exact KV (aM.elim KO UE)
       . split at h
         . rename_i aM;rw [St h];exact KV (PS aM)
         . split at h
           . cases aX:kU 5 r with
             | error e=>rw [aX] at h;cases h
             | ok fy=>rw [aX] at h;cases h;simp only;omega
           . unfold zv at h
             split at h
             . rename_i t aE;cases h;exact ajU (List.mem_of_find?_eq_some aE)
             . cases h
theorem E8:∀{r:List UInt8} {d:Int} {n:Nat},jd r d=some n->2<=n
 | [],d,n,h=>by simp [jd] at h
 | [_],d,n,h=>by simp [jd] at h
 | x::y::r,d,n,h=>by
   rw [jd] at h
   split at h
   . cases aq:jd r (d+1) with
     | none=>rw [aq] at h;cases h
     | some m=>rw [aq] at h;cases h;simp only;omega
   . split at h
     . split at h
       . cases h;omega
       . cases aq:jd r (d-1) with
         | none=>rw [aq] at h;cases h
         | some m=>rw [aq] at h;cases h;simp only;omega
     . cases aq:jd (y::r) d with
       | none=>rw [aq] at h;cases h
       | some m=>rw [aq] at h;cases h;have:=E8 aq;simp only;omega
theorem BU:∀(f g:Nat) (r:List UInt8) (p:Nat),r.length<=f->r.length<=g->oi f r p=oi g r p
 | 0,g,r,p,J,ad=>by have:r=[]:=aoF.1 (by omega);subst this;cases g<;>rfl
 | f+1,0,r,p,J,ad=>by have:r=[]:=aoF.1 (by omega);subst this;rfl
 | f+1,g+1,[],p,J,ad=>rfl
 | f+1,g+1,c::r,p,J,ad=>by
   simp only [am0] at J ad;simp only [oi]
   split
   . exact BU f g _ _ (by omega) (by omega)
   . split
     . split
       . rfl
       . rename_i n aX;have:=E8 aX;exact BU f g _ _ (by rw [anu,am0];omega) (by rw [anu,am0];omega)
     . split
       . rfl
       . rename_i q aq;have:=J3 aq;rw [BU f g _ _ (by rw [anu,am0];omega) (by rw [anu,am0];omega)]
theorem R6 (c:UInt8) (r:List UInt8) (p:Nat):rN (c::r) p=if blank c then rN r (p+1) else if ([40,42]:List UInt8).isPrefixOf (c::r) then (match jd (c::r) 0 with
 | none=>.error (253,p)
 | some n=>rN ((c::r).drop n) (p+n))
 else match hA (c::r) with
  | .error e=>.error (e,p)
  | .ok q=>AB ⟨q.1,q.2.1,p,q.2.2.1⟩ (rN ((c::r).drop q.2.2.2) (p+q.2.2.2)):=by
 unfold rN;simp only [am0,oi]
 split
 . rfl
 . split
   . split
     . rfl
     . rename_i n aX;have:=E8 aX;exact BU _ _ _ _ (by rw [anu,am0];omega) (am6 _)
   . split
     . rfl
     . rename_i q aq;have:=J3 aq;rw [BU _ _ _ _ (by rw [anu,am0];omega) (am6 _)]
theorem KX:∀(f g:Nat) (r:List UInt8),r.length<=f->r.length<=g->xf f r=xf g r
 | 0,g,r,J,ad=>by have:r=[]:=aoF.1 (by omega);subst this;cases g<;>rfl
 | f+1,0,r,J,ad=>by have:r=[]:=aoF.1 (by omega);subst this;rfl
 | f+1,g+1,[],J,ad=>rfl
 | f+1,g+1,c::r,J,ad=>by
   simp only [am0] at J ad;simp only [xf]
   split
   . rfl
   . split
     . split
       . rfl
       . rw [KX f g _ (by rw [anu];omega) (by rw [anu];omega)]
     . split
       . rfl
       . rw [KX f g _ (by omega) (by omega)]
theorem akr:qO []=none:=rfl
theorem akq (c:UInt8) (r:List UInt8):qO (c::r)=if c=34 then some ([],1) else if c=92 then (match p9 r with
 | none=>none
 | some (b,n)=>(qO (r.drop n)).map fun q=>(b::q.1,q.2+n+1))
 else if c<32\/c=127 then none else (qO r).map fun q=>(c::q.1,q.2+1):=by
 unfold qO;simp only [am0,xf]
 split
 . rfl
 . split
   . split
     . rfl
     . rw [KX _ _ _ (by rw [anu];omega) (am6 _)]
   . rfl
theorem PJ:∀(l:List UInt8) (a:Nat),a<=l.foldl (fun n c=>10 * n + (c.toNat-48)) a
 | [],a=>am6 _
 | c::l,a=>by simp only [List.foldl_cons];exact anM (by omega) (PJ l _)
def lW (a:Nat) (l:List UInt8):Nat:=l.foldl (fun n c=>10 * n + (c.toNat-48)) a
theorem aap (a:Nat) (c:UInt8) (l:List UInt8):lW a (c::l)=lW (10 * a + (c.toNat-48)) l:=by unfold lW;rw [List.foldl_cons]
theorem aiq (M:Nat) (dE:M<18446744073709551620) (l:List UInt8):∀(a:Nat),(∀c ∈ l,fR c=true)->(lW a l<=M->Lib.parseUintM M a l=.ok (lW a l))/\(a<=M->¬lW a l<=M->Lib.parseUintM M a l=.range):=by
 induction l with
 | nil=>
   intro a _;refine ⟨fun _=>?_,fun J ad=>absurd J ad⟩;simp only [Lib.parseUintM,lW,List.foldl_nil]
 | cons c l adj=>
   intro a h;have ao:=h c (anV ..);simp only [fR,nU,amX,ane] at ao;have aby:48<=c.toNat/\c.toNat<=57:=by omega
   have bA:=adj (10 * a + (c.toNat-48)) (fun x ar=>h x (anJ _ ar));have hm:10 * a + (c.toNat-48)<=lW (10 * a + (c.toNat-48)) l:=PJ l (10 * a + (c.toNat-48));simp only [Lib.parseUintM,aby,aoM,anz];rw [Nat.mul_comm a 10,aap];have dK:10 * a<=10 * a + (c.toNat-48):=Nat.le_add_right _ _;generalize 10 * a + (c.toNat-48)=A at bA hm dK ⊢;refine ⟨fun aL=>?_,fun bF ks=>?_⟩
   . rw [am7 (by omega),am7 (by omega)];exact bA.1 aL
   . by_cases J:1844674407370955162<=a
     . rw [anb J]
     . rw [am7 J];by_cases ad:M<A
       . rw [anb ad]
       . rw [am7 ad];exact bA.2 (by omega) ks
theorem aip (l:List UInt8) (h:∀c ∈ l,fR c=true) (ax:l≠[]):(jX l<=18446744073709551615->Lib.parseUintB 64 l=.ok (jX l))/\(¬jX l<=18446744073709551615->Lib.parseUintB 64 l=.range):=by unfold Lib.parseUintB;rw [am7 ax,show (2 ^ 64-1:Nat)=18446744073709551615 from by decide];have:=aiq 18446744073709551615 (by omega) l 0 h;exact ⟨this.1,this.2 (aoL _)⟩
structure pb (s:List UInt8) (p:Nat) (b:aU) (h:ah) (res:tr) (x:V) (aa:ah):Prop where
 mod:Mod (fun q=>q=b) h aa
 res:∃k n t,x=.agg [.int .i64 k,.int .i64 n,.int .i64 0,.str t]/\match res with
  | .ok q=>k=q.1/\n=q.2.1/\t=q.2.2.1/\aa.get b=fM s ((p+q.2.2.2:Nat):Int) 0/\p+q.2.2.2<=s.length
  | .error e=>e≠0/\∃bt:Int,aa.get b=fM s bt e
theorem J2 {P:Program}:(en.lV true 5).run P .nilIface .nilIface=some (.bool false):=rfl
theorem ahk {P:Program} (T:TypeId) (x:V):(en.lV true 5).run P (.iface T x) .nilIface=some (.bool true):=rfl
theorem Uo {p:UInt8->Bool} {l:List UInt8}:∀c ∈ l.takeWhile p,p c=true:=fun c ao=>by
 induction l with
 | nil=>simp at ao
 | cons x l bA=>
   simp only [aoq] at ao
   split at ao
   . rename_i ar;rcases ans.1 ao with rfl | ao
     . exact ar
     . exact bA ao
   . simp at ao
theorem Uq (p:UInt8->Bool) (s:List UInt8) (a:Nat):((s.drop a).takeWhile p).length<=s.length-a:=by have:=Ur p (s.drop a);rwa [anu] at this
theorem ahB (s:List UInt8) (a0:Nat) (b:aU) (h:ah) (aj:h.get b=fM s a0 0) (a1:a0<s.length) (aM:s.length<=100000) (hk:Old h b) (aZ:fR s[a0]=true):
 b' Tryz.prog 144 [.ptr b 0] h (pb s a0 b h (za (s.drop a0))):=by
 refine W_.z rfl (cp ?_);unfold MN;have dw:(b=aC h.next)=False:=B2 hk (am6 _);have dq:(aC h.next=b)=False:=by rw [<-dw];exact propext eq_comm
 simp only [aj,dw,dq,↓ab,ae,simprocAttr];have ar:Ext h (h.new (.a_ [.int .i64 0,.int .i64 0,.int .i64 0,.str []] 0 false)):=(Ext.refl h).new _;refine bw (TZ s a0 0 b 112 nU _ (by rw [ar.get _ hk,aj]) (by omega) aM (by decide) (fun c h=>xV c h)) ?_;rintro x J ⟨rfl,hm,al⟩;have k':(fun c:UInt8=>nU (c.toNat:Int))=fR:=rfl;rw [k'] at al ⊢;have wg:Mod (fun q=>q=b) h J:=(ar.mod _).trans hm;have g1:J.get (aC h.next)=.a_ [.int .i64 0,.int .i64 0,.int .i64 0,.str []] 0 false:=by rw [hm.get _ (hB (by rw [gD];omega)) (by rw [dq];exact id)];simp only [↓ab,ae,simprocAttr]
 have ez:(s.drop a0).takeWhile fR≠[]:=by rw [drop_cons a1,aoq,aZ];simp
 have hlen:=Uq fR s a0;have ak:=aip ((s.drop a0).takeWhile fR) Uo ez;unfold fM at al;have yw:za (s.drop a0)=if 2147483647<jX ((s.drop a0).takeWhile fR) then .error 254 else .ok (1,(if 1073741823 < (jX ((s.drop a0).takeWhile fR):Int) then (jX ((s.drop a0).takeWhile fR):Int)-2147483648 else jX ((s.drop a0).takeWhile fR)),[],((s.drop a0).takeWhile fR).length):=rfl;rw [yw];generalize (s.drop a0).takeWhile fR=t at *;simp only [↓ab,ae,simprocAttr];by_cases AX:jX t<=18446744073709551615
 . refine ey (air t (jX t) (by omega) (ak.1 AX) J) ?_;generalize jX t=u at *;by_cases H4:(2147483647:Int) < (u:Int)
   . have ya:2147483647<u:=by omega
     simp only [J2,H4,g1,al,dw,dq,↓ab,ae,simprocAttr];refine ⟨(wg.set (fun _=>rfl) _).set (fun q=>absurd (show cR (aC h.next)<h.next from q) (by rw [dX];omega)) _,?_⟩;rw [anb ya];refine ⟨_,_,_,rfl,by decide,((a0+t.length:Nat):Int),?_⟩;simp only [fM,dw,dq,↓ab,ae,simprocAttr]
   . have ya:¬2147483647<u:=by omega
     have b4:IntKind.i64.wrap (u:Int)=(u:Int):=wrap_i64 (by omega) (by omega);have b1:IntKind.i64.wrap ((u:Int)-2147483648)=(u:Int)-2147483648:=wrap_i64 (by omega) (by omega);by_cases AP:(1073741823:Int) < (u:Int)
     . simp only [J2,H4,ya,AP,g1,al,dw,dq,b4,b1,↓ab,ae,simprocAttr];refine ⟨(wg.set (fun q=>absurd (show cR (aC h.next)<h.next from q) (by rw [dX];omega)) _),?_⟩;refine ⟨_,_,_,rfl,rfl,rfl,rfl,?_,by show a0+t.length<=s.length;omega⟩;simp only [fM,al,dw,dq,↓ab,ae,simprocAttr]
     . simp only [J2,H4,ya,AP,g1,al,dw,dq,b4,b1,↓ab,ae,simprocAttr];refine ⟨(wg.set (fun q=>absurd (show cR (aC h.next)<h.next from q) (by rw [dX];omega)) _),?_⟩;refine ⟨_,_,_,rfl,rfl,rfl,rfl,?_,by show a0+t.length<=s.length;omega⟩;simp only [fM,al,dw,dq,↓ab,ae,simprocAttr]
 . refine ey (ait t (by omega) (ak.2 AX) J) ?_;have ya:2147483647<jX t:=by omega
   rw [anb ya];simp only [ahk,g1,al,dw,dq,↓ab,ae,simprocAttr];refine ⟨(wg.set (fun _=>rfl) _).set (fun q=>absurd (show cR (aC h.next)<h.next from q) (by rw [dX];omega)) _,?_⟩;refine ⟨_,_,_,rfl,by decide,((a0+t.length:Nat):Int),?_⟩;simp only [fM,dw,dq,↓ab,ae,simprocAttr]
theorem UB (c:UInt8):((c.toNat:Int)).toNat.toUInt8=c:=by rw [am9];simp
theorem pQ (c:UInt8) (n:Nat) (aX:n<256):((c.toNat:Int)=(n:Int))=(c=n.toUInt8):=by
 apply propext;constructor
 . intro q;have:c.toNat=n:=by omega
   rw [<-UInt8.toNat_inj,this];simp;omega
 . intro q;subst q;simp;omega
theorem ZW (c:UInt8):Lib.indexByte [110,116,34,92] c=if c=110 then 0 else if c=116 then 1 else if c=34 then 2 else if c=92 then 3 else -1:=by
 simp only [Lib.indexByte,aow];by_cases J:c=110
 . subst J;decide
 . by_cases ad:c=116
   . subst ad;decide
   . by_cases aD:c=34
     . subst aD;decide
     . by_cases bn:c=92
       . subst bn;decide
       . have an:¬(110:UInt8)=c:=fun q=>J q.symm;have aN:¬(116:UInt8)=c:=fun q=>ad q.symm;have cv:¬(34:UInt8)=c:=fun q=>aD q.symm;have hh:¬(92:UInt8)=c:=fun q=>bn q.symm;simp only [J,ad,aD,bn,an,aN,cv,hh,anw];rfl
theorem Hu {c:UInt8} (h:fR c=true):Lib.digitVal c=some (c.toNat-48):=by unfold Lib.digitVal;unfold fR nU at h;simp only [amX,ane] at h;rw [anb (by omega)]
theorem Wi {a b c:UInt8} (J:fR a=true) (ad:fR b=true) (aD:fR c=true):Lib.atoi [a,b,c]=some ((jX [a,b,c]:Nat):Int):=by
 have bF:=J;unfold fR nU at bF;simp only [amX,ane] at bF;have db:(a == 45)=false:=by rw [aof];rintro rfl;revert bF;decide
 have mM:(a == 43)=false:=by rw [aof];rintro rfl;revert bF;decide
 simp [Lib.atoi,db,mM,Lib.decNat,Lib.decFrom,Hu J,Hu ad,Hu aD,jX];omega
theorem ZX (s:List UInt8) (a0:Nat) (b:aU) (h:ah) (aj:h.get b=fM s a0 0) (a1:a0<s.length) (aM:s.length<=100000) (hk:Old h b):
 b' Tryz.prog 151 [.ptr b 0] h fun x aa=>Mod (fun q=>q=b) h aa/\match p9 (s.drop (a0+1)) with
  | some (c,n)=>x=.int .u8 (c.toNat:Int)/\aa.get b=fM s ((a0+1+n:Nat):Int) 0/\a0+1+n<=s.length
  | none=>x=.int .u8 0/\aa.get b=fM s ((a0+1:Nat):Int) 252:=by
 refine Xf.z rfl (cp ?_);unfold MV;unfold fM at aj ⊢;have b4:IntKind.i64.wrap ((a0:Int)+1)=((a0+1:Nat):Int):=by rw [wrap_i64 (by omega) (by omega)];rfl
 have f0:(0<=((a0+1:Nat):Int))=True:=am_ (by omega);have f1:(((a0+1:Nat):Int)<=(s.length:Int))=True:=am_ (by omega);have wb:(s.drop (a0+1)).length=s.length - (a0+1):=anu;have z0:((0:Int)<=0)=True:=am_ (by omega);have pE:∀v,bd.Mod (fun q=>q=b) h ((h.set b v)):=fun v=>(Mod.refl (fun q=>q=b) h).set (fun _=>rfl) _;cases cV:s.drop (a0+1) with
 | nil=>
   simp only [aj,b4,f0,f1,am9,cV,am8,Int.natCast_zero,↓ab,ae,simprocAttr];refine ⟨(pE _).set (fun _=>rfl) _,?_⟩;simp only [p9,fm,anz,aoJ]
 | cons c r=>
   rw [cV] at wb;rw [am0] at wb;have dJ:(c::r=[])=False:=am2 (by simp);have f2:((0:Int) < ((r.length+1:Nat):Int))=True:=am_ (by omega);simp only [aj,b4,f0,f1,f2,dJ,am9,cV,Int.reduceToNat,z0,↓ab,ae,simprocAttr];refine ey (Rf _ _ _) ?_;rw [UB,ZW];have b1:IntKind.i64.wrap (((a0+1:Nat):Int)+1)=((a0+2:Nat):Int):=by rw [wrap_i64 (by omega) (by omega)];omega
   by_cases bW:c=110
   . subst bW;simp only [aj,b4,b1,f0,f1,f2,dJ,am9,cV,Int.reduceToNat,z0,am0,am8,Nat.reduceAdd,Int.reduceLT,anW,↓ab,ae,simprocAttr];refine ⟨(pE _).set (fun _=>rfl) _,rfl,?_⟩;simp only [fm,anz];refine ⟨trivial,by omega⟩
   by_cases cw:c=116
   . subst cw;simp only [aj,b4,b1,f0,f1,f2,dJ,am9,cV,Int.reduceToNat,z0,am0,am8,Nat.reduceAdd,Int.reduceLT,anW,bW,↓ab,ae,simprocAttr];refine ⟨(pE _).set (fun _=>rfl) _,rfl,?_⟩;simp only [fm,anz];refine ⟨trivial,by omega⟩
   by_cases c3:c=34
   . subst c3;simp only [aj,b4,b1,f0,f1,f2,dJ,am9,cV,Int.reduceToNat,z0,am0,am8,Nat.reduceAdd,Int.reduceLT,anW,bW,cw,↓ab,ae,simprocAttr];refine ⟨(pE _).set (fun _=>rfl) _,rfl,?_⟩;simp only [fm,anz];refine ⟨trivial,by omega⟩
   by_cases gV:c=92
   . subst gV;simp only [aj,b4,b1,f0,f1,f2,dJ,am9,cV,Int.reduceToNat,z0,am0,am8,Nat.reduceAdd,Int.reduceLT,anW,bW,cw,c3,↓ab,ae,simprocAttr];refine ⟨(pE _).set (fun _=>rfl) _,rfl,?_⟩;simp only [fm,anz];refine ⟨trivial,by omega⟩
   match r,cV,wb,f2,dJ with
   | [],cV,wb,f2,dJ=>
     simp only [aj,b4,b1,f0,f1,f2,dJ,am9,cV,Int.reduceToNat,z0,am0,am8,Nat.reduceAdd,Int.reduceLT,anW,bW,cw,c3,gV,↓ab,ae,simprocAttr];refine ⟨(pE _).set (fun _=>rfl) _,?_⟩;simp [p9,bW,cw,c3,gV,fm]
   | [_],cV,wb,f2,dJ=>
     simp only [aj,b4,b1,f0,f1,f2,dJ,am9,cV,Int.reduceToNat,z0,am0,am8,Nat.reduceAdd,Int.reduceLT,anW,bW,cw,c3,gV,↓ab,ae,simprocAttr];refine ⟨(pE _).set (fun _=>rfl) _,?_⟩;simp [p9,bW,cw,c3,gV,fm]
   | d1::d2::bI,cV,wb,f2,dJ=>
     simp only [am0] at wb;have g3:((3:Int)<=((bI.length+3:Nat):Int))=True:=am_ (by omega);have g2:((2:Int) < ((bI.length+3:Nat):Int))=True:=am_ (by omega);have g1:((1:Int) < ((bI.length+3:Nat):Int))=True:=am_ (by omega);have g0:((0:Int) < ((bI.length+3:Nat):Int))=True:=am_ (by omega);have em:p9 (c::d1::d2::bI)=if fR c/\fR d1/\fR d2/\jX [c,d1,d2]<256 then some ((jX [c,d1,d2]).toUInt8,3) else none:=by simp [p9,bW,cw,c3,gV]
     rw [em];simp only [aj,b4,b1,f0,f1,g0,g1,g2,g3,dJ,am9,cV,Int.reduceToNat,z0,am0,am8,Nat.reduceAdd,Int.reduceLT,anW,bW,cw,c3,gV,↓ab,ae,simprocAttr];refine ey (xV _ _) ?_;have dg:∀x:UInt8,nU (x.toNat:Int)=fR x:=fun _=>rfl;simp only [dg];cases abE:fR c with
     | false=>
       simp only [aj,b4,b1,f0,f1,g0,g1,g2,g3,dJ,am9,cV,Int.reduceToNat,z0,am0,am8,Nat.reduceAdd,Int.reduceLT,anW,bW,cw,c3,gV,ao6,anm,↓ab,ae,simprocAttr];exact (pE _).set (fun _=>rfl) _
     | true=>
       simp only [aj,b4,b1,f0,f1,g0,g1,g2,g3,dJ,am9,cV,Int.reduceToNat,z0,am0,am8,Nat.reduceAdd,Int.reduceLT,anW,bW,cw,c3,gV,↓ab,ae,simprocAttr];refine ey (xV _ _) ?_;simp only [dg];cases vT:fR d1 with
       | false=>
         simp only [aj,b4,b1,f0,f1,g0,g1,g2,g3,dJ,am9,cV,Int.reduceToNat,z0,am0,am8,Nat.reduceAdd,Int.reduceLT,anW,bW,cw,c3,gV,ao6,apb,anm,↓ab,ae,simprocAttr];exact (pE _).set (fun _=>rfl) _
       | true=>
         simp only [aj,b4,b1,f0,f1,g0,g1,g2,g3,dJ,am9,cV,Int.reduceToNat,z0,am0,am8,Nat.reduceAdd,Int.reduceLT,anW,bW,cw,c3,gV,↓ab,ae,simprocAttr];refine ey (xV _ _) ?_;simp only [dg];cases vU:fR d2 with
         | false=>
           simp only [aj,b4,b1,f0,f1,g0,g1,g2,g3,dJ,am9,cV,Int.reduceToNat,z0,am0,am8,Nat.reduceAdd,Int.reduceLT,anW,bW,cw,c3,gV,ao6,apb,anm,↓ab,ae,simprocAttr];exact (pE _).set (fun _=>rfl) _
         | true=>
           have z3:((0:Int)<=3)=True:=am_ (by omega);simp only [aj,b4,b1,f0,f1,g0,g1,g2,g3,z3,dJ,am9,cV,Int.reduceToNat,z0,am0,am8,Nat.reduceAdd,Int.reduceLT,anW,bW,cw,c3,gV,↓ab,ae,simprocAttr];refine ey (Wj [c,d1,d2] _ (by simp) (Wi abE vT vU) _) ?_;have jY:IntKind.i64.wrap (((a0+1:Nat):Int)+3)=((a0+4:Nat):Int):=by rw [wrap_i64 (by omega) (by omega)];omega
           generalize bB:jX [c,d1,d2]=v;by_cases tW:(v:Int)<256
           . have jZ:IntKind.u8.wrap (v:Int)=((v.toUInt8).toNat:Int):=by
              simp [IntKind.wrap,IntKind.bits,IntKind.signed]
             have tX:v<256:=by omega
             simp only [aj,b4,b1,jY,jZ,f0,f1,g0,g1,g2,g3,dJ,tW,tX,am9,cV,Int.reduceToNat,z0,am0,am8,Nat.reduceAdd,Int.reduceLT,anW,bW,cw,c3,gV,aoM,aoJ,↓ab,ae,simprocAttr];refine ⟨(pE _).set (fun _=>rfl) _,?_⟩
             first | omega | (refine ⟨?_,by omega⟩;simp [fm]) | skip
           . have tX:¬v<256:=by omega
             simp only [aj,b4,b1,jY,f0,f1,g0,g1,g2,g3,dJ,tW,tX,am9,cV,Int.reduceToNat,z0,am0,am8,Nat.reduceAdd,Int.reduceLT,anW,bW,cw,c3,gV,apb,↓ab,ae,simprocAttr];exact (pE _).set (fun _=>rfl) _
theorem akO (c:UInt8) (n:Nat) (aX:n<256):((c.toNat:Int) < (n:Int))=(c<n.toUInt8):=by
 apply propext;rw [UInt8.lt_iff_toNat_lt];have:(n.toUInt8).toNat=n:=by simp;omega
 rw [this];omega
theorem aks (s:List UInt8) (a0:Nat) (b:aU) (h:ah) (aj:h.get b=fM s a0 0) (a1:a0<s.length) (aM:s.length<=100000) (hk:Old h b):
 b' Tryz.prog 145 [.ptr b 0] h (pb s a0 b h (tb (s.drop (a0+1)))):=by
 refine Xa.z rfl (cp ?_);unfold MO;have dw:(b=aC h.next)=False:=B2 hk (am6 _);have dq:(aC h.next=b)=False:=by rw [<-dw];exact propext eq_comm
 have b4:IntKind.i64.wrap ((a0:Int)+1)=((a0+1:Nat):Int):=by rw [wrap_i64 (by omega) (by omega)];rfl
 unfold fM at aj;simp +contextual only [aj,dw,dq,b4,↓ab,ae,simprocAttr];have y_:∀{v:V} {aa:ah} {n:Nat} {us:List V},c_ (h.next+1) aa 1 v n us->∀q,v.bj q->¬(fun q=>q=b) q:=by
  intro v aa n us gY q aq he;have J:=gY.base aq;rw [show q=b from he] at J;have ad:cR b<h.next:=hk
  omega
 have WA:∀{v:V} {aa:ah} {n:Nat} {us:List V},c_ (h.next+1) aa 1 v n us->∀i,i<h.next+1->¬v.bj (aC i):=by intro v aa n us gY i au aq;have J:=gY.base aq;rw [dX] at J;omega
 refine fS (fun r aa=>r 0=.ptr b 0/\r 2=.ptr (aC h.next) 0/\∃(a:Nat) (e:Int) (fF:List UInt8) (v:V),r 3=v/\aa.get b=.a_ [.str s,.int .i64 a,.int .i64 e] 0 false/\a<=s.length/\a0+1<=a/\fF.length<=a/\
  aa.get (aC h.next)=.a_ [.int .i64 0,.int .i64 0,.int .i64 0,.str []] 0 false/\Mod (fun q=>q=b) h aa/\h.next+1<=aa.next/\c_ (h.next+1) aa 1 v fF.length (dQ fF)/\
  ((e=0/\qO (s.drop (a0+1))=(qO (s.drop a)).map fun q=>(fF++q.1,q.2 + (a - (a0+1))))\/(e=252/\qO (s.drop (a0+1))=none)))
  (fun r aa=>(s.length - ((jC (aa.get b) 1).getD .bad).toN) + (252 - ((jC (aa.get b) 2).getD .bad).toN)) ?_ ?_
 . refine ⟨by simp only [dw,dq,↓ab,ae,simprocAttr],by simp only [dw,dq,↓ab,ae,simprocAttr],a0+1,0,[],.cc,by simp only [dw,dq,↓ab,ae,simprocAttr],by simp only [dw,dq,↓ab,ae,simprocAttr],by omega,by omega,by simp,by simp only [dw,dq,↓ab,ae,simprocAttr],?_,?_,⟨rfl,rfl⟩,.inl ⟨rfl,?_⟩⟩
   . exact (((Ext.refl h).new _).mod (fun q=>q=b)).self _
   . rw [pG,gD];exact am6 _
   . rw [aoG];cases qO (s.drop (a0+1))<;>rfl
 . rintro r aa ⟨bb,di,a,e,fF,v,bX,al,bY,cz,yR,bG,hm,mA,gY,bC⟩;unfold MP;have QF:Old aa b:=hm.cH hk;have fin:∀(ad:ah) (bt:Int),qO (s.drop (a0+1))=none->Mod (fun q=>q=b) h ad->ad.get b=.a_ [.str s,.int .i64 bt,.int .i64 252] 0 false->
    pb s a0 b h (tb (s.drop (a0+1))) (.agg [.int .i64 0,.int .i64 0,.int .i64 0,.str []]) (ad.set (aC h.next) (.a_ [.int .i64 0,.int .i64 0,.int .i64 0,.str []] 0 false)):=by
    intro ad bt aX oX vZ;unfold tb;rw [aX];refine ⟨oX.set (fun q=>absurd (show cR (aC h.next)<h.next from q) (by rw [dX];omega)) _,_,_,_,rfl,by decide,bt,?_⟩;rw [fm,am7 (by rw [dq];exact id),vZ];rfl
   have step:∀(ad:ah),Mod (fun q=>q=b) h ad->aa.next<=ad.next->c_ (h.next+1) ad 1 v fF.length (dQ fF)->∀(c:UInt8),∃v3 aD,iY 1 v (.slice (aC ad.next) 0 1 1) (ad.new (.a_ [.int .u8 (c.toNat:Int)] 0 false))=.val v3 aD/\c_ (h.next+1) aD 1 v3 (fF++[c]).length (dQ (fF++[c]))/\Mod (fun q=>q=b) h aD/\h.next+1<=aD.next/\aD.get b=ad.get b/\aD.get (aC h.next)=ad.get (aC h.next):=by
    intro ad oX al8 lY c;obtain ⟨v3,aD,ag,av,aI,bU,c8⟩:=xN (cs:=[.int .u8 (c.toNat:Int)]) (by omega) lY (by omega) (by unfold top;omega) rfl rfl;refine ⟨v3,aD,ag,by rw [amZ,tA];exact av,oX.akv aI (fun q aq=>anM (Nat.le_succ _) (lY.base aq)),by omega,?_,?_⟩
    . exact aI.get _ (oX.cH hk) (fun aq=>y_ lY _ aq rfl)
    . exact aI.get _ (hB (by omega)) (WA lY _ (by omega))
   rcases bC with ⟨rfl,bC⟩ | ⟨rfl,bC⟩
   . by_cases gy:(s.length:Int)<=(a:Int)
     . have bF:a=s.length:=by omega
       rw [bF,aoZ,akr] at bC;simp +contextual only [bb,di,bX,al,gy,bG,dw,dq,↓ab,ae,simprocAttr];exact fin _ _ bC (hm.set (fun _=>rfl) _) (by rw [fm,anb rfl])
     . have aL:a<s.length:=by omega
       rw [drop_cons aL,akq] at bC;have f0:(0<=(a:Int))=True:=am_ (by omega);have f1:((a:Int) < (s.length:Int))=True:=am_ (by omega);have b1:IntKind.i64.wrap ((a:Int)+1)=((a+1:Nat):Int):=by rw [wrap_i64 (by omega) (by omega)];rfl
       have hK:(((s[a]).toNat:Int)=34)=(s[a]=34):=pQ _ 34 (by omega);have nh:(((s[a]).toNat:Int)=92)=(s[a]=92):=pQ _ 92 (by omega);have O9:(((s[a]).toNat:Int)=127)=(s[a]=127):=pQ _ 127 (by omega);have RG:(((s[a]).toNat:Int)<32)=(s[a]<32):=akO _ 32 (by omega);by_cases bW:s[a]=34
       . rw [anb bW] at bC;replace bW:(s[a]=34)=True:=am_ bW;simp only [aot,anC] at bC;by_cases AX:(4096:Int) < (fF.length:Int)
         . have lY:∀k b_,c_ (h.next+1) ((aa.set b k).set b b_) 1 v fF.length (dQ fF):=fun k b_=>gY.mod (((Mod.refl (fun q=>q=b) aa).set (fun _=>rfl) _).set (fun _=>rfl) _) (y_ gY);simp +contextual only [bb,di,bX,al,gy,bG,dw,dq,f0,f1,b1,hK,bW,gY.v.len,AX,xU (lY _ _),amY aL,am9,↓ab,ae,simprocAttr];refine ⟨((hm.set (fun _=>rfl) _).set (fun _=>rfl) _).set (fun q=>absurd (show cR (aC h.next)<h.next from q) (by rw [dX];omega)) _,_,_,_,rfl,?_⟩;unfold tb;rw [bC];simp only;rw [anb (by omega)];refine ⟨by decide,((a+1:Nat):Int),?_⟩;simp only [fM,dw,dq,↓ab,ae,simprocAttr]
         . have lY:∀k,c_ (h.next+1) (aa.set b k) 1 v fF.length (dQ fF):=fun k=>gY.mod ((Mod.refl (fun q=>q=b) aa).set (fun _=>rfl) _) (y_ gY);simp +contextual only [bb,di,bX,al,gy,bG,dw,dq,f0,f1,b1,hK,bW,gY.v.len,AX,xU (lY _),amY aL,am9,↓ab,ae,simprocAttr];refine ⟨(hm.set (fun _=>rfl) _).set (fun q=>absurd (show cR (aC h.next)<h.next from q) (by rw [dX];omega)) _,_,_,_,rfl,?_⟩;unfold tb;rw [bC];simp only;rw [am7 (by omega)];refine ⟨rfl,rfl,rfl,?_,?_⟩
           . simp only [fM,dw,dq,↓ab,ae,simprocAttr];rw [show a0 + (1 + (a - (a0+1))+1)=a+1 from by omega]
           . simp only;omega
       rw [am7 bW] at bC;by_cases cw:s[a]=92
       . rw [anb cw] at bC;replace cw:(s[a]=92)=True:=am_ cw;simp +contextual only [bb,di,bX,al,gy,bG,dw,dq,f0,f1,b1,hK,nh,bW,cw,amY aL,am9,↓ab,ae,simprocAttr];refine bw (ZX s a b aa al aL aM QF) ?_;rintro x ad ⟨oX,ar⟩;have lY:=gY.mod oX (y_ gY);have rE:ad.get (aC h.next)=.a_ [.int .i64 0,.int .i64 0,.int .i64 0,.str []] 0 false:=by
          rw [oX.get _ (hB (by omega)) (by rw [dq];exact id),bG]
         have B5:=oX.next
         obtain ⟨c,ao,yC⟩:∃c:UInt8,x=.int .u8 (c.toNat:Int)/\((∃n,p9 (s.drop (a+1))=some (c,n)/\ad.get b=fM s ((a+1+n:Nat):Int) 0/\a+1+n<=s.length)\/(p9 (s.drop (a+1))=none/\ad.get b=fM s ((a+1:Nat):Int) 252)):=by
          cases yo:p9 (s.drop (a+1)) with
          | none=>rw [yo] at ar;exact ⟨0,ar.1,.inr ⟨rfl,ar.2⟩⟩
          | some q=>rw [yo] at ar;exact ⟨q.1,ar.1,.inl ⟨q.2,rfl,ar.2⟩⟩
         subst ao;obtain ⟨v3,aD,ag,av,aI,bU,c8,eH⟩:=step ad (hm.trans oX) B5 lY c;have Fw:c_ (h.next+1) aD 1 v3 (fF.length+1) (dQ (fF++[c])):=by rw [amZ] at av;exact av
         have Bt:aD.get (aC h.next)=.a_ [.int .i64 0,.int .i64 0,.int .i64 0,.str []] 0 false:=by rw [eH,rE]
         unfold fM at yC;rcases yC with ⟨n,yo,vZ,hle⟩ | ⟨yo,vZ⟩
         . simp +contextual only [ag,bb,di,al,vZ,c8,dw,dq,↓ab,ae,simprocAttr];rw [yo] at bC;simp only at bC;refine ⟨⟨a+1+n,0,fF++[c],rfl,hle,by omega,by simp;omega,Bt,aI,bU,av,.inl ⟨rfl,?_⟩⟩,by omega⟩;rw [bC,aoS,ao8];congr 1;funext q;simp only [Function.comp,ana,List.singleton_append,aoi,aoJ];omega
         . simp +contextual only [ag,bb,di,al,vZ,c8,dw,dq,↓ab,ae,simprocAttr];rw [yo] at bC;exact ⟨⟨a+1,252,fF++[c],rfl,by omega,by omega,by simp;omega,Bt,aI,bU,av,.inr ⟨rfl,bC⟩⟩,by omega⟩
       rw [am7 cw] at bC;by_cases c3:s[a]<32\/s[a]=127
       . rw [anb c3] at bC;have p4:(decide (s[a]<32)||decide (s[a]=127))=true:=by simpa using c3
         simp +contextual only [bb,di,bX,al,gy,bG,dw,dq,f0,f1,b1,hK,nh,O9,RG,bW,cw,p4,amY aL,am9,↓ab,ae,simprocAttr];exact ⟨⟨a,252,fF,rfl,bY,cz,yR,hm.self _,mA,gY.mod ((Mod.refl (fun q=>q=b) aa).self _) (y_ gY),.inr ⟨rfl,bC⟩⟩,by omega⟩
       . rw [am7 c3] at bC;have p4:(decide (s[a]<32)||decide (s[a]=127))=false:=by simpa using c3
         obtain ⟨v3,aD,ag,av,aI,bU,c8,eH⟩:=step (aa.set b (.a_ [.str s,.int .i64 ((a+1:Nat):Int),.int .i64 0] 0 false)) (hm.self _) (by rw [pG];exact am6 _) (gY.mod ((Mod.refl (fun q=>q=b) aa).self _) (y_ gY)) s[a];simp only [pG,fm,dw,dq,anz,anw] at ag c8 eH;simp +contextual only [ag,bb,di,bX,al,gy,bG,dw,dq,f0,f1,b1,hK,nh,O9,RG,bW,cw,p4,c8,amY aL,am9,↓ab,ae,simprocAttr];refine ⟨⟨a+1,0,fF++[s[a]],rfl,by omega,by omega,by simp;omega,by rw [eH,bG],aI,bU,av,.inl ⟨rfl,?_⟩⟩,by omega⟩;rw [bC,ao8];congr 1;funext q;simp only [Function.comp,ana,List.singleton_append,aoi,aoJ];omega
   . simp +contextual only [bb,di,bX,al,bG,dw,dq,↓ab,ae,simprocAttr];exact fin _ _ bC hm al
def yS:List UInt8:=[32,97,110,100,32,98,101,103,105,110,32,101,108,115,101,32,101,110,100,32,101,120,99,101,112,116,105,111,110,32,102,97,108,115,101,32,102,117,110,32,105,102,32,105,110,32,108,101,116,32,109,97,116,99,104,32,109,111,100,32,111,102,32,114,97,105,115,101,32,114,101,99,32,116,104,101,110,32,116,114,117,101,32,116,114,121,32,116,121,112,101,32,119,105,116,104,32]
def tG:List (List UInt8)->List UInt8
 | []=>[32]
 | w::L=>32::(w++tG L)
theorem aak:tG iM=yS:=by decide
theorem aaj (L:List (List UInt8)):∃r,tG L=32::r:=by cases L<;>exact ⟨_,rfl⟩
theorem index_ge (sub:List UInt8):∀l:List UInt8,-1<=Lib.index l sub
 | []=>by simp only [Lib.index];split<;>decide
 | b::l=>by
   have:=index_ge sub l;simp only [Lib.index]
   split
   . decide
   . split<;>omega
theorem Jm (sub:List UInt8) (b:UInt8) (l:List UInt8):(0<=Lib.index (b::l) sub)↔(sub.isPrefixOf (b::l)=true\/0<=Lib.index l sub):=by
 have:=index_ge sub l;simp only [Lib.index]
 split
 . rename_i h;simp [h]
 . rename_i h
   split
   . rename_i ad;have:Lib.index l sub=-1:=by simpa using ad
     simp [h,this]
   . rename_i ad;have aD:¬Lib.index l sub=-1:=by simpa using ad
     simp only [h,anm,aoX];omega
theorem Rj (x:List UInt8) (r:List UInt8):∀w:List UInt8,(32:UInt8) ∉ w->((0<=Lib.index (w++r) (32::x))↔0<=Lib.index r (32::x))
 | [],_=>Iff.rfl
 | b::w,h=>by
   rw [ang,Jm,Rj x r w (fun q=>h (anJ _ q))];have aj:((32:UInt8) == b)=false:=by rw [aof];rintro rfl;exact h (anV ..)
   simp [List.isPrefixOf,aj]
theorem Tf (r:List UInt8):∀(t w:List UInt8),(32:UInt8) ∉ t->(32:UInt8) ∉ w->((t++[32]).isPrefixOf (w++32::r)=true↔t=w)
 | [],[],_,_=>by simp [List.isPrefixOf]
 | [],b::w,_,h=>by
   have aj:((32:UInt8) == b)=false:=by rw [aof];rintro rfl;exact h (anV ..)
   simp [List.isPrefixOf,aj]
 | a::t,[],h,_=>by
   have aj:(a == (32:UInt8))=false:=by rw [aof];rintro rfl;exact h (anV ..)
   simp [List.isPrefixOf,aj]
 | a::t,b::w,h,aa=>by have bA:=Tf r t w (fun q=>h (anJ _ q)) (fun q=>aa (anJ _ q));simp only [ang,List.isPrefixOf,amX,aow,bA,aoC]
theorem Ri (t:List UInt8) (aE:(32:UInt8) ∉ t):∀L:List (List UInt8),(∀w ∈ L,(32:UInt8) ∉ w)->((0<=Lib.index (tG L) (32::(t++[32])))↔t ∈ L)
 | [],_=>by cases t<;>simp [tG,Lib.index,List.isPrefixOf]
 | w::L,h=>by
   have bA:=Ri t aE L (fun x ar=>h x (anJ _ ar));have hw:=h w (anV ..);obtain ⟨r,aJ⟩:=aaj L;simp only [tG];rw [Jm,Rj _ _ _ hw,bA,ans];have:(32::(t++[32])).isPrefixOf (32::(w++tG L))=(t++[32]).isPrefixOf (w++tG L):=by simp [List.isPrefixOf]
   rw [this,aJ,Tf r t w aE hw]
theorem Dw (t:List UInt8) (aE:(32:UInt8) ∉ t):Lib.contains yS (32::(t++[32]))=hn t:=by have:=Ri t aE iM (by decide);rw [aak] at this;unfold Lib.contains hn;rw [anT,ane,this];simp
theorem agZ {l:List UInt8}:(32:UInt8) ∉ l.takeWhile fw:=fun h=>by have:=Uo _ h;revert this;decide
theorem E0 (s:List UInt8) (a0:Nat) (k:Int) (b:aU) (h:ah) (aj:h.get b=fM s a0 0) (a1:a0<=s.length) (aM:s.length<=100000) (hk:Old h b):
 b' Tryz.prog 146 [.ptr b 0,.int .i64 k] h (pb s a0 b h (kU k (s.drop a0))):=by
 refine Xb.z rfl (cp ?_);unfold MQ;have dw:(b=aC h.next)=False:=B2 hk (am6 _);have dq:(aC h.next=b)=False:=by rw [<-dw];exact propext eq_comm
 simp only [aj,dw,dq,↓ab,ae,simprocAttr];have ar:Ext h (h.new (.a_ [.int .i64 0,.int .i64 0,.int .i64 0,.str []] 0 false)):=(Ext.refl h).new _;refine bw (TZ s a0 0 b 88 rM _ (by rw [ar.get _ hk,aj]) a1 aM (by decide) (fun c h=>R3 c h)) ?_;rintro x J ⟨rfl,hm,al⟩;have k':(fun c:UInt8=>rM (c.toNat:Int))=fw:=rfl;rw [k'] at al ⊢;have wg:Mod (fun q=>q=b) h J:=(ar.mod _).trans hm;have g1:J.get (aC h.next)=.a_ [.int .i64 0,.int .i64 0,.int .i64 0,.str []] 0 false:=by rw [hm.get _ (hB (by rw [gD];omega)) (by rw [dq];exact id)];simp only [↓ab,ae,simprocAttr]
 have hlen:=Uq fw s a0;have H5:(32:UInt8) ∉ (s.drop a0).takeWhile fw:=agZ;unfold fM at al;have yw:kU k (s.drop a0)=if k=3/\(s.drop a0).takeWhile fw=[95] then .ok (7,0,(s.drop a0).takeWhile fw,((s.drop a0).takeWhile fw).length) else if k=3/\hn ((s.drop a0).takeWhile fw) then .ok (6,0,(s.drop a0).takeWhile fw,((s.drop a0).takeWhile fw).length) else if 64 < ((s.drop a0).takeWhile fw).length then .error 255 else .ok (k,0,(s.drop a0).takeWhile fw,((s.drop a0).takeWhile fw).length):=rfl;rw [yw];generalize (s.drop a0).takeWhile fw=t at *;have E':∀(dy:Int),pb s a0 b h (.ok (dy,0,t,t.length)) (.agg [.int .i64 dy,.int .i64 0,.int .i64 0,.str t]) (J.set (aC h.next) (.a_ [.int .i64 dy,.int .i64 0,.int .i64 0,.str t] 0 false)):=by intro dy;refine ⟨wg.fresh (am6 _) _,_,_,_,rfl,rfl,rfl,rfl,?_,by show a0+t.length<=s.length;omega⟩;rw [fm,am7 (by rw [dq];exact id),al];rfl
 have tail:(64<t.length->pb s a0 b h (.error 255) (.agg [.int .i64 k,.int .i64 0,.int .i64 0,.str t]) ((J.set b (.a_ [.str s,.int .i64 ((a0+t.length:Nat):Int),.int .i64 255] 0 false)).set (aC h.next) (.a_ [.int .i64 k,.int .i64 0,.int .i64 0,.str t] 0 false))):=by intro ax;refine ⟨(wg.self _).fresh (am6 _) _,_,_,_,rfl,by decide,((a0+t.length:Nat):Int),?_⟩;simp only [fM,dw,dq,↓ab,ae,simprocAttr]
 by_cases ay:k=3
 . subst ay;by_cases hu:t=[95]
   . simp only [g1,al,dw,dq,hu,aoJ,↓ab,ae,simprocAttr];subst hu;exact E' 7
   . have t1:(1+t.length<=top)=True:=am_ (by unfold top;omega);have t2:(t.length+1+1<=top)=True:=am_ (by unfold top;omega);simp only [top] at t1 t2;simp only [g1,al,dw,dq,hu,aoJ,amZ,t1,t2,↓ab,ae,simprocAttr];refine ey (AD yS (32::(t++[32])) (by decide) _) ?_;rw [Dw t H5];cases A_:hn t with
     | true=>
       simp only [g1,al,dw,dq,hu,aoJ,apb,A_,amZ,t1,t2,↓ab,ae,simprocAttr];exact E' 6
     | false=>
       by_cases ax:64<t.length
       . have gm:(64:Int) < (t.length:Int):=by omega
         simp only [g1,al,dw,dq,hu,ax,gm,aoJ,apb,A_,amZ,t1,t2,anm,↓ab,ae,simprocAttr];exact tail ax
       . have gm:¬(64:Int) < (t.length:Int):=by omega
         simp only [g1,al,dw,dq,hu,ax,gm,aoJ,apb,A_,amZ,t1,t2,anm,↓ab,ae,simprocAttr];exact E' 3
 . by_cases ax:64<t.length
   . have gm:(64:Int) < (t.length:Int):=by omega
     simp only [g1,al,dw,dq,ay,ax,gm,ao6,↓ab,ae,simprocAttr];exact tail ax
   . have gm:¬(64:Int) < (t.length:Int):=by omega
     simp only [g1,al,dw,dq,ay,ax,gm,ao6,↓ab,ae,simprocAttr];exact E' k
def qM:List V:=gF.map V.str
theorem T_ (h:ah):b' Tryz.prog 54 [] h fun x aa=>x=.slice (aC h.next) 0 17 17/\aa=h.new (.a_ qM 0 false):=by refine XK.z rfl (cp ?_);unfold ND;simp +contextual only [↓ab,ae,simprocAttr];rfl
theorem ajT {i:Nat} (au:i<17):qM[i]? =some (.str (gF[i]'au)):=by unfold qM;rw [anQ,amY (show i<gF.length from au)];rfl
theorem aah (p:List UInt8->Bool) {i:Nat} (au:i<17):(gF.drop i).find? p=if p (gF[i]'au) then some (gF[i]'au) else (gF.drop (i+1)).find? p:=by rw [ant (show i<gF.length from au),List.find?_cons];cases p gF[i]<;>rfl
theorem pb.store {s:List UInt8} {p:Nat} {b:aU} {h:ah} {z b_:cm} {res:tr} {x:V} {J:ah} (w:pb s p b (h.new z) res x J) (hk:Old h b):pb s p b h res x (J.set (aC h.next) b_):=by
 have dq:¬(aC h.next=b):=by
  intro q;have:cR b<h.next:=hk
  rw [<-q,dX] at this;omega
 obtain ⟨hm,k,n,t,ar,aJ⟩:=w;refine ⟨((((Ext.refl h).new z).mod _).trans hm).fresh (am6 _) _,k,n,t,ar,?_⟩;cases res with
 | ok q=>simpa only [fm,am7 dq] using aJ
 | error e=>simpa only [fm,am7 dq] using aJ
theorem ahq (s:List UInt8) (a0:Nat) (b:aU) (h:ah) (aj:h.get b=fM s a0 0) (a1:a0<s.length) (aM:s.length<=100000) (hk:Old h b):
 b' Tryz.prog 137 [.ptr b 0] h (pb s a0 b h (hA (s.drop a0))):=by
 refine W9.z rfl (cp ?_);unfold MJ;have dw:(b=aC h.next)=False:=B2 hk (am6 _);have dq:(aC h.next=b)=False:=by rw [<-dw];exact propext eq_comm
 have jv:=aj;unfold fM at aj;have f0:(0<=(a0:Int))=True:=am_ (by omega);have f1:((a0:Int) < (s.length:Int))=True:=am_ (by omega);have ar:Ext h (h.new (.a_ [.int .i64 0,.int .i64 0,.int .i64 0,.str []] 0 false)):=(Ext.refl h).new _;have yy:Old (h.new (.a_ [.int .i64 0,.int .i64 0,.int .i64 0,.str []] 0 false)) b:=ar.cH hk;have AZ:(h.new (.a_ [.int .i64 0,.int .i64 0,.int .i64 0,.str []] 0 false)).get b=fM s a0 0:=by rw [ar.get _ hk,jv]
 have x_:∀{res:tr} {x:V} {J:ah},pb s a0 b (h.new (.a_ [.int .i64 0,.int .i64 0,.int .i64 0,.str []] 0 false)) res x J->J.get (aC h.next)=.a_ [.int .i64 0,.int .i64 0,.int .i64 0,.str []] 0 false:=by intro res x J w;rw [w.mod.get _ (hB (by rw [gD];omega)) (by rw [dq];exact id)];simp only [↓ab,ae,simprocAttr]
 have aZ:=drop_cons a1;rw [aZ];have dg:nU ((s[a0]).toNat:Int)=fR s[a0]:=rfl;have hK:(((s[a0]).toNat:Int)=34)=(s[a0]=34):=pQ _ 34 (by omega);have tF:(((s[a0]).toNat:Int)=95)=(s[a0]=95):=pQ _ 95 (by omega);have xX:(((s[a0]).toNat:Int)=39)=(s[a0]=39):=pQ _ 39 (by omega);simp +contextual only [aj,dw,dq,f0,f1,amY a1,am9,↓ab,ae,simprocAttr];refine ey (xV _ _) ?_;rw [dg];cases J:fR s[a0] with
 | true=>
   have eQ:hA (s[a0]::s.drop (a0+1))=za (s.drop a0):=by rw [aZ];simp only [hA,J,anz]
   rw [eQ];simp +contextual only [aj,dw,dq,f0,f1,amY a1,am9,↓ab,ae,simprocAttr];refine bw (ahB s a0 b _ AZ a1 aM yy J) ?_;rintro x ak w;have g1:=x_ w;obtain ⟨k,n,t,rfl,_⟩:=w.res;simp +contextual only [g1,aj,dw,dq,f0,f1,↓ab,ae,simprocAttr];exact w.store hk
 | false=>
   by_cases ad:s[a0]=34
   . have eQ:hA (s[a0]::s.drop (a0+1))=tb (s.drop (a0+1)):=by simp only [hA];rw [am7 (by rw [J];exact aon),anb ad]
     rw [eQ];replace ad:=am_ ad;simp +contextual only [aj,dw,dq,f0,f1,hK,ad,amY a1,am9,↓ab,ae,simprocAttr];refine bw (aks s a0 b _ AZ a1 aM yy) ?_;rintro x ak w;have g1:=x_ w;obtain ⟨k,n,t,rfl,_⟩:=w.res;simp +contextual only [g1,aj,dw,dq,f0,f1,↓ab,ae,simprocAttr];exact w.store hk
   simp +contextual only [aj,dw,dq,f0,f1,hK,ad,amY a1,am9,↓ab,ae,simprocAttr];refine ey (zy _ _) ?_;by_cases aD:(g_ ((s[a0]).toNat:Int)||decide (s[a0]=95))=true
   . have eQ:hA (s[a0]::s.drop (a0+1))=kU 3 (s.drop a0):=by rw [aZ];simp only [hA,J,ad,aD,anm,anw,anz]
     rw [eQ];have fin:nS Tryz.prog 146 [.ptr b 0,.int .i64 3] (some 33) none [] [] (fun _=>.bad) h (fun _ _ _=>True)->True:=fun _=>trivial;cases wx:g_ ((s[a0]).toNat:Int) with
     | true=>
       simp +contextual only [aj,dw,dq,f0,f1,hK,ad,wx,amY a1,am9,↓ab,ae,simprocAttr];refine bw (E0 s a0 3 b _ AZ (by omega) aM yy) ?_;rintro x ak w;have g1:=x_ w;obtain ⟨k,n,t,rfl,_⟩:=w.res;simp +contextual only [g1,aj,dw,dq,f0,f1,↓ab,ae,simprocAttr];exact w.store hk
     | false=>
       rw [wx,aoE,ane] at aD;replace aD:=am_ aD;simp +contextual only [aj,dw,dq,f0,f1,hK,tF,ad,aD,wx,amY a1,am9,↓ab,ae,simprocAttr];refine bw (E0 s a0 3 b _ AZ (by omega) aM yy) ?_;rintro x ak w;have g1:=x_ w;obtain ⟨k,n,t,rfl,_⟩:=w.res;simp +contextual only [g1,aj,dw,dq,f0,f1,↓ab,ae,simprocAttr];exact w.store hk
   . have PY:=aD;rw [Bool.not_eq_true,aoY,aoa] at PY;obtain ⟨aa',aa_⟩:=PY;simp +contextual only [aj,dw,dq,f0,f1,hK,tF,ad,aa',aa_,amY a1,am9,↓ab,ae,simprocAttr];refine ey (HX _ _) ?_;cases bn:nY ((s[a0]).toNat:Int) with
     | true=>
       have eQ:hA (s[a0]::s.drop (a0+1))=kU 4 (s.drop a0):=by rw [aZ];simp only [hA,J,ad,aD,bn,anm,anw,anz]
       rw [eQ];simp +contextual only [aj,dw,dq,f0,f1,amY a1,am9,↓ab,ae,simprocAttr];refine bw (E0 s a0 4 b _ AZ (by omega) aM yy) ?_;rintro x ak w;have g1:=x_ w;obtain ⟨k,n,t,rfl,_⟩:=w.res;simp +contextual only [g1,aj,dw,dq,f0,f1,↓ab,ae,simprocAttr];exact w.store hk
     | false=>
       have b4:IntKind.i64.wrap ((a0:Int)+1)=((a0+1:Nat):Int):=by rw [wrap_i64 (by omega) (by omega)];rfl
       have f2:(0<=((a0+1:Nat):Int))=True:=am_ (by omega);by_cases b0:s[a0]=39/\lg (s.drop (a0+1))
       . have eQ:hA (s[a0]::s.drop (a0+1))=(kU 5 (s.drop (a0+1))).map fun q=>(q.1,q.2.1,q.2.2.1,q.2.2.2+1):=by simp only [hA];rw [am7 (by rw [J];exact aon),am7 ad,am7 aD,am7 (by rw [bn];exact aon),anb b0]
         rw [eQ];obtain ⟨D4,D5⟩:=b0;replace D4:=am_ D4;have aL:a0+1<s.length:=by
          by_cases q:a0+1<s.length
          . exact q
          . rw [anD (by omega)] at D5;cases D5
         rw [drop_cons aL] at D5;have f3:(((a0+1:Nat):Int) < (s.length:Int))=True:=am_ (by omega);simp +contextual (maxSteps:=1000000) only [aj,dw,dq,f0,f1,f2,f3,b4,hK,tF,xX,ad,D4,amY a1,amY aL,am9,↓ab,ae,simprocAttr];refine ey (zy _ _) ?_;rw [show g_ ((s[a0+1]).toNat:Int)=true from D5];simp +contextual (maxSteps:=1000000) only [aj,dw,dq,f0,f1,f2,f3,b4,hK,tF,xX,ad,D4,amY a1,amY aL,am9,↓ab,ae,simprocAttr];have QC:Mod (fun q=>q=b) (h.new (.a_ [.int .i64 0,.int .i64 0,.int .i64 0,.str []] 0 false)) ((h.new (.a_ [.int .i64 0,.int .i64 0,.int .i64 0,.str []] 0 false)).set b (.a_ [.str s,.int .i64 ((a0+1:Nat):Int),.int .i64 0] 0 false)):=(Mod.refl _ _).self _;refine bw (E0 s (a0+1) 5 b _ (by rw [fm,anb rfl];rfl) (by omega) aM (QC.cH yy)) ?_;rintro x ak w;have w':pb s a0 b (h.new (.a_ [.int .i64 0,.int .i64 0,.int .i64 0,.str []] 0 false)) ((kU 5 (s.drop (a0+1))).map fun q=>(q.1,q.2.1,q.2.2.1,q.2.2.2+1)) x ak:=by
          obtain ⟨ak2,k,n,t,alg,wr⟩:=w;refine ⟨QC.trans ak2,k,n,t,alg,?_⟩;cases aX:kU 5 (s.drop (a0+1)) with
          | error e=>rw [aX] at wr;exact wr
          | ok q=>
            rw [aX] at wr;obtain ⟨bT,di,bX,dN,dC⟩:=wr;refine ⟨bT,di,bX,?_,?_⟩
            . rw [dN];show fM s ((a0+1+q.2.2.2:Nat):Int) 0=fM s ((a0 + (q.2.2.2+1):Nat):Int) 0;rw [show a0+1+q.2.2.2=a0 + (q.2.2.2+1) from by omega]
            . show a0 + (q.2.2.2+1)<=s.length;omega
         have g1:=x_ w';obtain ⟨k,n,t,rfl,_⟩:=w'.res;simp +contextual only [g1,aj,dw,dq,f0,f1,↓ab,ae,simprocAttr];exact w'.store hk
       . have eQ:hA (s[a0]::s.drop (a0+1))=zv (s.drop a0):=by rw [aZ];simp only [hA];rw [am7 (by rw [J];exact aon),am7 ad,am7 aD,am7 (by rw [bn];exact aon),am7 b0]
         rw [eQ];have abz:((s[a0]=39)=False)\/(((s[a0]=39)=True)/\¬a0+1<s.length)\/(((s[a0]=39)=True)/\∃aL:a0+1<s.length,g_ ((s[a0+1]).toNat:Int)=false):=by
          by_cases q:s[a0]=39
          . by_cases aL:a0+1<s.length
            . refine .inr (.inr ⟨am_ q,aL,?_⟩);cases aq:g_ ((s[a0+1]).toNat:Int) with
              | false=>rfl
              | true=>exact absurd ⟨q,by rw [drop_cons aL];exact aq⟩ b0
            . exact .inr (.inl ⟨am_ q,aL⟩)
          . exact .inl (am2 q)
         have two:∀t ∈ gF,t.length<=2:=by decide
         have Aw:((17:Nat):Int)=17:=rfl;rcases abz with ag | ⟨ag,av⟩ | ⟨ag,aL,av⟩
         case' neg.inl=>
          simp +contextual (maxSteps:=1000000) only [aj,dw,dq,f0,f1,f2,b4,hK,tF,xX,ad,ag,amY a1,am9,↓ab,ae,simprocAttr]
         case' neg.inr.inl=>
          have f3:(((a0+1:Nat):Int) < (s.length:Int))=False:=am2 (by omega);simp +contextual (maxSteps:=1000000) only [aj,dw,dq,f0,f1,f2,f3,b4,hK,tF,xX,ad,ag,amY a1,am9,↓ab,ae,simprocAttr]
         case' neg.inr.inr=>
          have f3:(((a0+1:Nat):Int) < (s.length:Int))=True:=am_ (by omega);simp +contextual (maxSteps:=1000000) only [aj,dw,dq,f0,f1,f2,f3,b4,hK,tF,xX,ad,ag,amY a1,amY aL,am9,↓ab,ae,simprocAttr];refine ey (zy _ _) ?_;rw [av];simp +contextual (maxSteps:=1000000) only [aj,dw,dq,f0,f1,f2,f3,b4,hK,tF,xX,ad,ag,amY a1,amY aL,am9,↓ab,ae,simprocAttr]
         all_goals
          refine bw (T_ _) ?_;rintro x ak ⟨rfl,rfl⟩;simp +contextual only [↓ab,ae,simprocAttr]
          refine fS (fun r aa=>r 0=.ptr b 0/\r 2=.ptr (aC h.next) 0/\r 77=.slice (aC (h.next+1)) 0 17 17/\r 78=.int .i64 17/\∃i:Nat,i<=17/\r 79=.int .i64 i/\aa=(h.new (.a_ [.int .i64 0,.int .i64 0,.int .i64 0,.str []] 0 false)).new (.a_ qM 0 false)/\
           gF.find? (·.isPrefixOf (s.drop a0))=(gF.drop i).find? (·.isPrefixOf (s.drop a0))) (fun r aa=>17 - (r 79).toN) ?_ ?_
          . exact ⟨by simp only [↓ab,ae,simprocAttr],by simp only [↓ab,ae,simprocAttr],by simp only [↓ab,ae,simprocAttr],by simp only [Aw,↓ab,ae,simprocAttr],0,by omega,by simp only [↓ab,ae,simprocAttr]<;>rfl,rfl,rfl⟩
          . rintro r aa ⟨bb,di,FD,FE,i,au,FF,rfl,tP⟩;unfold MK;have QF:Old ((h.new (.a_ [.int .i64 0,.int .i64 0,.int .i64 0,.str []] 0 false)).new (.a_ qM 0 false)) b:=(ar.new _).cH hk;have ss:((h.new (.a_ [.int .i64 0,.int .i64 0,.int .i64 0,.str []] 0 false)).new (.a_ qM 0 false)).get b=.a_ [.str s,.int .i64 a0,.int .i64 0] 0 false:=by rw [(ar.new _).get _ hk,aj]
            have B1:(b=aC (h.next+1))=False:=B2 hk (by omega);have Dm:(aC (h.next+1)=b)=False:=by rw [<-B1];exact propext eq_comm
            by_cases qn:i<17
            . have g0:((i:Int)<17)=True:=am_ (by omega);have g1:(0<=(i:Int))=True:=am_ (by omega);rw [aah _ qn] at tP;have hlen:=two _ (am3 (h:=(show i<gF.length from qn)));simp +contextual only [Aw,bb,di,FD,FE,FF,g0,g1,dw,dq,B1,Dm,am9,aov,ajT qn,↓ab,ae,simprocAttr];refine ey (Ib s _ (a0:Int) [.int .i64 0] b 0 false _ ss (by omega) (by omega)) ?_;rw [am9];cases lq:(gF[i]'qn).isPrefixOf (s.drop a0) with
              | true=>
                rw [lq,anb rfl] at tP;have my:(gF[i]'qn).length<=s.length-a0:=by rw [aoI] at lq;have:=lq.length_le;rwa [anu] at this
                have jY:IntKind.i64.wrap ((a0:Int) + ((gF[i]'qn).length:Int))=((a0 + (gF[i]'qn).length:Nat):Int):=by rw [wrap_i64 (by omega) (by omega)];rfl
                simp +contextual only [Aw,bb,di,FD,FE,FF,g0,g1,jY,dw,dq,B1,Dm,aj,↓ab,ae,simprocAttr];unfold zv;rw [tP];refine ⟨(((ar.new _).mod _).self _).fresh (am6 _) _,_,_,_,rfl,rfl,rfl,rfl,?_,by show a0 + (gF[i]'qn).length<=s.length;omega⟩;simp only [fM,dw,dq,↓ab,ae,simprocAttr]
              | false=>
                rw [lq,am7 aon] at tP;have jY:IntKind.i64.wrap ((i:Int)+1)=((i+1:Nat):Int):=by rw [wrap_i64 (by omega) (by omega)];rfl
                simp +contextual only [Aw,bb,di,FD,FE,FF,g0,g1,jY,dw,dq,B1,Dm,aj,↓ab,ae,simprocAttr];exact ⟨⟨i+1,by omega,rfl,tP⟩,by omega⟩
            . obtain rfl:i=17:=by omega
              have d_:gF.find? (·.isPrefixOf (s.drop a0))=none:=by rw [tP];rfl
              have g0:((17:Int)<17)=False:=am2 (by omega);simp +contextual only [Aw,bb,di,FD,FE,FF,g0,ss,dw,dq,B1,Dm,aj,↓ab,ae,simprocAttr];unfold zv;rw [d_];refine ⟨(((ar.new _).mod _).self _).fresh (am6 _) _,_,_,_,rfl,by decide,(a0:Int),?_⟩;simp only [fM,dw,dq,↓ab,ae,simprocAttr]
theorem PO (s:List UInt8) (i:Nat):(ByteArray.mk ⟨s⟩).get! i=(s[i]?).getD 0:=by show (Array.mk s)[i]! =_;simp;rfl
theorem Zs (s:List UInt8) (a:Nat):Lib.decodeGo ⟨⟨s.drop a⟩⟩=if a<s.length then decodeL s a else (65533,0):=by
 unfold Lib.decodeGo decodeL;have bG:(ByteArray.mk ⟨s.drop a⟩).size=s.length-a:=by show (s.drop a).length=_;rw [anu]
 have rE:(ByteArray.mk ⟨s⟩).size=s.length:=rfl;by_cases bF:a<s.length
 . rw [anb bF,am7 (by rw [bG];omega),Lib.decode_at,Lib.decode_at,bG,rE];simp only [PO,aom,aoA,ao2,anB]
 . rw [am7 bF,anb (by rw [bG];omega)]
theorem aho {h:ah} {b:aU} {s:List UInt8} {a:Nat} (al:h.get b=.iter s a):
 wX (.ptr b 0) h=if a<s.length then .val (.tuple [.bool true,.int .i64 a,.int .i32 (decodeL s a).1]) (h.set b (.iter s (a + (decodeL s a).2))) else .val (.tuple [.bool false]) h:=by
 unfold wX;simp only [V.ke,al];rw [show Nat.beq 0 0=true from rfl];simp only [am4];by_cases bF:a<s.length
 . rw [anb bF,show Nat.blt a s.length=true from by rw [anF];exact bF];rfl
 . rw [am7 bF,show Nat.blt a s.length=false from by rw [<-Bool.not_eq_true,anF];exact bF];rfl
def adG (s:List UInt8):cm->Nat
 | .iter _ a=>s.length-a
 | _=>0
theorem Zq (s:List UInt8) (a:Nat):1<=(decodeL s a).2:=by
 unfold decodeL;rw [Lib.decode_at];unfold Lib.decodeN
 repeat' split
 all_goals simp
theorem aji (s:List UInt8) (aM:s.length<=100000) (h:ah):b' Tryz.prog 133 [.str s] h fun x aa=>x=.int .i64 (uQ s:Nat)/\Ext h aa:=by
 refine W5.z rfl (cp ?_);unfold MD;simp only [↓ab,ae,simprocAttr];refine fS (fun r aa=>r 0=.str s/\r 8=.ptr (aC h.next) 0/\Ext h aa/\∃a,aa.get (aC h.next)=.iter s a/\uQ s=rU s a) (fun r aa=>adG s (aa.get (aC h.next))) ?_ ?_
 . exact ⟨by simp only [↓ab,ae,simprocAttr],by simp only [↓ab,ae,simprocAttr],(Ext.refl h).new _,0,by simp only [↓ab,ae,simprocAttr],rfl⟩
 . rintro r aa ⟨bb,eg,ar,a,al,bF⟩;unfold ME;have mA:=aho al;by_cases aL:a<s.length
   . rw [anb aL] at mA;have ak:=Zq s a;by_cases ao:(decodeL s a).1=65533
     . have jw:(((decodeL s a).1:Int)=65533)=True:=am_ (by omega);have f0:(0<=(a:Int))=True:=am_ (by omega);have f1:((a:Int)<=(s.length:Int))=True:=am_ (by omega);simp only [bb,eg,mA,jw,f0,f1,am9,↓ab,ae,simprocAttr];refine ey (Zr _ _) ?_;rw [Zs,anb aL];by_cases hw:(decodeL s a).2=1
       . have sI:(((decodeL s a).2:Int)=1)=True:=am_ (by omega);have lZ:nT s a=0:=by unfold nT;rw [anb (Prod.ext ao hw)]
         rw [ajh aL lZ] at bF;simp only [bb,eg,mA,jw,sI,f0,f1,am9,↓ab,ae,simprocAttr];rw [bF];exact ⟨rfl,ar.set (am6 _) _⟩
       . have sI:(((decodeL s a).2:Int)=1)=False:=am2 (by omega);have lZ:nT s a=(decodeL s a).2:=by unfold nT;rw [am7 (fun q=>hw (congrArg Prod.snd q))]
         rw [KH aL (by rw [lZ];omega),lZ] at bF;simp only [bb,eg,mA,jw,sI,f0,f1,am9,↓ab,ae,simprocAttr];refine ⟨⟨ar.set (am6 _) _,_,rfl,bF⟩,?_⟩;rw [al];show s.length - (a + (decodeL s a).2)<s.length-a;omega
     . have jw:(((decodeL s a).1:Int)=65533)=False:=am2 (by omega);have lZ:nT s a=(decodeL s a).2:=by unfold nT;rw [am7 (fun q=>ao (congrArg Prod.fst q))]
       rw [KH aL (by rw [lZ];omega),lZ] at bF;simp only [bb,eg,mA,jw,am9,↓ab,ae,simprocAttr];refine ⟨⟨ar.set (am6 _) _,_,rfl,bF⟩,?_⟩;rw [al];show s.length - (a + (decodeL s a).2)<s.length-a;omega
   . rw [am7 aL] at mA;rw [TR (by omega)] at bF;simp only [bb,eg,mA,am9,↓ab,ae,simprocAttr];rw [bF];exact ⟨rfl,ar⟩
def cb.enc (w:cb):List V:=[.int .i64 w.kind,.int .i64 w.num,.int .i64 w.pos,.str w.text]
def jH:List cb->List V
 | []=>[]
 | w::ws=>w.enc++jH ws
theorem UO:∀a b:List cb,jH (a++b)=jH a++jH b
 | [],b=>rfl
 | w::a,b=>by simp only [jH,ang,UO a b,ana]
def Cl (ws:List cb):Except (Int × Nat) (List cb)->Except (Int × Nat) (List cb)
 | .ok b1=>.ok (ws++b1)
 | .error e=>.error e
theorem aiB (ws:List cb) (w:cb) (r:Except (Int × Nat) (List cb)):Cl ws (AB w r)=Cl (ws++[w]) r:=by
 cases r with
 | ok b1=>simp [Cl,AB]
 | error e=>rfl
theorem aiC (r:Except (Int × Nat) (List cb)):Cl [] r=r:=by cases r<;>rfl
def Vi (s:List UInt8) (h:ah) (x:V) (aa:ah):Prop:=Ext h aa/\match l' s with
 | .ok ws=>∃v,x=.tuple [v,.agg [.int .i64 0,.int .i64 0]]/\c_ h.next aa 4 v ws.length (jH ws)
 | .error e=>x=.tuple [.cc,.agg [.int .i64 e.1,.int .i64 e.2]]
theorem L9 (c:UInt8):(0<=Lib.indexByte [9,10,13,32] c)=(blank c=true):=by
 have a1:∀d:UInt8,(d == c)=decide (c=d):=fun d=>by
  by_cases q:c=d
  . subst q;simp
  . have fy:¬d=c:=fun e=>q e.symm;simp [q,fy]
 simp only [Lib.indexByte,a1,blank];by_cases J:c=9
 . subst J;decide
 . by_cases ad:c=10
   . subst ad;decide
   . by_cases aD:c=13
     . subst aD;decide
     . by_cases bn:c=32
       . subst bn;decide
       . simp [J,ad,aD,bn]
theorem R7 (s:List UInt8) (h:ah):b' Tryz.prog 120 [.str s] h (Vi s h):=by
 refine W2.z rfl (cp ?_);unfold Mz;by_cases Qw:(65536:Int) < (s.length:Int)
 . simp only [Qw,↓ab,ae,simprocAttr];refine ⟨((Ext.refl h).new _).set (am6 _) _,?_⟩;unfold l';rw [anb (by omega)];rfl
 simp only [Qw,↓ab,ae,simprocAttr];refine bw (aji s (by omega) _) ?_;rintro x J ⟨rfl,rD⟩;have ar:Ext h (h.new (.a_ [.int .i64 0,.int .i64 0] 0 false)):=(Ext.refl h).new _;have fH:=ar.trans rD;have g1:J.get (aC h.next)=.a_ [.int .i64 0,.int .i64 0] 0 false:=by rw [rD.get _ (hB (by rw [gD];omega))];simp only [↓ab,ae,simprocAttr]
 have SA:h.next+1<=J.next:=rD.next
 have cW:(aC J.next=aC h.next)=False:=by rw [s0];exact am2 (by omega)
 have db:(aC h.next=aC J.next)=False:=by rw [s0];exact am2 (by omega)
 have o3:(J.next=h.next)=False:=am2 (by omega);have kc:(h.next=J.next)=False:=am2 (by omega);have hlen:¬65536<s.length:=by omega
 by_cases aJ:uQ s<s.length
 . have sE:((uQ s:Int) < (s.length:Int))=True:=am_ (by omega);simp only [sE,g1,cW,db,o3,kc,↓ab,ae,simprocAttr];refine ⟨fH.set (am6 _) _,?_⟩;unfold l';rw [am7 hlen,anb aJ]
 have sE:((uQ s:Int) < (s.length:Int))=False:=am2 (by omega);have mz:l' s=rN s 0:=by unfold l';rw [am7 hlen,am7 aJ]
 simp only [sE,g1,cW,db,o3,kc,↓ab,ae,simprocAttr];have o0:Ext h (J.new (.a_ [.str s,.int .i64 0,.int .i64 0] 0 false)):=fH.new _
 refine fS (fun r aa=>r 0=.str s/\r 3=.ptr (aC h.next) 0/\r 5=.ptr (aC J.next) 0/\∃(a:Nat) (ws:List cb) (v:V),r 6=v/\aa.get (aC J.next)=.a_ [.str s,.int .i64 a,.int .i64 0] 0 false/\a<=s.length/\ws.length<=a/\
  aa.get (aC h.next)=.a_ [.int .i64 0,.int .i64 0] 0 false/\Ext h aa/\J.next+1<=aa.next/\c_ (J.next+1) aa 4 v ws.length (jH ws)/\l' s=Cl ws (rN (s.drop a) a))
  (fun r aa=>s.length - ((jC (aa.get (aC J.next)) 1).getD .bad).toN) ?_ ?_
 . refine ⟨by simp only [↓ab,ae,simprocAttr],by simp only [↓ab,ae,simprocAttr],by simp only [↓ab,ae,simprocAttr],0,[],.cc,by simp only [↓ab,ae,simprocAttr],by simp only [↓ab,ae,simprocAttr]<;>rfl,by omega,by simp,by simp only [g1,cW,o3,db,kc,↓ab,ae,simprocAttr],o0,?_,⟨rfl,rfl⟩,?_⟩
   . rw [gD];exact am6 _
   . rw [mz,anN,aiC]
 . rintro r aa ⟨bb,bX,dC,a,ws,v,gI,al,bY,kw,bG,o1,mA,gY,bC⟩;unfold MA;have hk:Old aa (aC J.next):=hB (by omega);by_cases gy:(s.length:Int)<=(a:Int)
   . have bF:a=s.length:=by omega
     have Em:l' s=.ok ws:=by rw [bC,bF,aoZ];show Except.ok (ws++[])=_;rw [anC]
     simp only [bb,bX,dC,gI,al,bG,gy,cW,db,o3,kc,↓ab,ae,simprocAttr];refine ⟨o1.set (am6 _) _,?_⟩;rw [Em];refine ⟨v,rfl,?_⟩;have:=gY.mod ((Mod.refl (fun q=>q=aC h.next) aa).self (.a_ [.int .i64 0,.int .i64 0] 0 false)) (fun q aq e=>by have ad:=gY.base aq;rw [show q=aC h.next from e,dX] at ad;omega);exact this.mono (by omega)
   . have aL:a<s.length:=by omega
     rw [drop_cons aL,R6,<-drop_cons aL] at bC;have f0:(0<=(a:Int))=True:=am_ (by omega);have f1:((a:Int) < (s.length:Int))=True:=am_ (by omega);have b4:IntKind.i64.wrap ((a:Int)+1)=((a+1:Nat):Int):=by rw [wrap_i64 (by omega) (by omega)];rfl
     simp only [bb,bX,dC,gI,al,bG,gy,cW,db,o3,kc,f0,f1,amY aL,am9,↓ab,ae,simprocAttr];refine ey (Rf _ _ _) ?_;rw [UB];by_cases Ea:blank s[a]=true
     . have Ii:(0<=Lib.indexByte [9,10,13,32] s[a])=True:=by rw [L9,Ea];exact eq_self _
       rw [anb Ea] at bC;simp only [Ii,b4,bb,bX,dC,gI,al,bG,gy,cW,db,o3,kc,f0,f1,amY aL,am9,↓ab,ae,simprocAttr];refine ⟨⟨a+1,ws,rfl,by omega,by omega,o1.set (by omega) _,mA,?_,bC⟩,by omega⟩;exact gY.mod ((Mod.refl (fun q=>q=aC J.next) aa).self _) (fun q aq e=>by have ad:=gY.base aq;rw [show q=aC J.next from e,dX] at ad;omega)
     . have Ii:(0<=Lib.indexByte [9,10,13,32] s[a])=False:=by rw [L9];exact am2 Ea
       rw [am7 Ea] at bC;simp only [Ii,b4,bb,bX,dC,gI,al,bG,gy,cW,db,o3,kc,f0,f1,amY aL,am9,↓ab,ae,simprocAttr];have Bi:=Ib s [40,42] (a:Int) [.int .i64 0] (aC J.next) 0 false aa al (by omega) (by omega);rw [am9] at Bi;refine ey Bi ?_;cases lq:([40,42]:List UInt8).isPrefixOf (s.drop a) with
       | true=>
         rw [lq,anb rfl] at bC;simp only [b4,bb,bX,dC,gI,al,bG,gy,cW,db,o3,kc,f0,f1,amY aL,am9,↓ab,ae,simprocAttr];refine bw (ahy s a 0 (aC J.next) aa al bY (by omega) hk) ?_;rintro x ad ⟨rfl,hm,aX⟩;have rE:ad.get (aC h.next)=.a_ [.int .i64 0,.int .i64 0] 0 false:=by rw [hm.get _ (hB (by omega)) (by rw [db];exact id),bG]
         have n_:Ext h ad:=o1.lz hm (fun b aj=>by rw [show b=aC J.next from aj,dX];omega);have B5:=hm.next
         have lY:=gY.mod hm (fun q aq e=>by have ad:=gY.base aq;rw [show q=aC J.next from e,dX] at ad;omega);cases IX:jd (s.drop a) 0 with
         | some n=>
           rw [IX] at aX bC;obtain ⟨g2,hle⟩:=aX;have Bh:=E8 IX;unfold fM at g2;simp only [b4,bb,bX,dC,gI,g2,al,rE,gy,cW,db,o3,kc,f0,f1,amY aL,am9,↓ab,ae,simprocAttr];refine ⟨⟨a+n,ws,rfl,hle,by omega,n_,by omega,lY,?_⟩,by omega⟩;rw [bC];simp only [aoS]
         | none=>
           rw [IX] at aX bC;unfold fM at aX;simp only [b4,bb,bX,dC,gI,aX,al,rE,gy,cW,db,o3,kc,f0,f1,amY aL,am9,↓ab,ae,simprocAttr];refine ⟨n_.set (am6 _) _,?_⟩;rw [bC];rfl
       | false=>
         rw [lq,am7 aon] at bC;simp only [b4,bb,bX,dC,gI,al,bG,gy,cW,db,o3,kc,f0,f1,amY aL,am9,↓ab,ae,simprocAttr];refine bw (ahq s a (aC J.next) aa al aL (by omega) hk) ?_;rintro x ad w;obtain ⟨hm,k,n,t,rfl,yB⟩:=w;have rE:ad.get (aC h.next)=.a_ [.int .i64 0,.int .i64 0] 0 false:=by rw [hm.get _ (hB (by omega)) (by rw [db];exact id),bG]
         have n_:Ext h ad:=o1.lz hm (fun b aj=>by rw [show b=aC J.next from aj,dX];omega);have B5:=hm.next
         have lY:=gY.mod hm (fun q aq e=>by have ad:=gY.base aq;rw [show q=aC J.next from e,dX] at ad;omega);have m0:(aC ad.next=aC h.next)=False:=by rw [s0];exact am2 (by omega)
         have m1:(aC ad.next=aC J.next)=False:=by rw [s0];exact am2 (by omega)
         have Sd:(ad.next=h.next)=False:=am2 (by omega);have Se:(ad.next=J.next)=False:=am2 (by omega);have Es:Ext ad (((ad.new (.a_ [.int .i64 0,.int .i64 0,.int .i64 0,.str []] 0 false)).set (aC ad.next) (.a_ [.int .i64 k,.int .i64 n,.int .i64 0,.str t] 0 false)).set (aC ad.next) (.a_ [.int .i64 k,.int .i64 n,.int .i64 a,.str t] 0 false)):=(((Ext.refl ad).new _).set (am6 _) _).set (am6 _) _;obtain ⟨v3,aD,ag,av,aI,bU,c8⟩:=xN (cs:=[.int .i64 k,.int .i64 n,.int .i64 a,.str t]) (by omega) (lY.ext Es) (by simp only [pG,gD];omega) (by unfold top;omega) rfl rfl;simp only [pG,gD] at ag bU;have Br:Ext h aD:=(n_.trans Es).lz aI (fun b aj=>anM (by omega) (lY.base aj));have Bt:aD.get (aC h.next)=.a_ [.int .i64 0,.int .i64 0] 0 false:=by rw [aI.get _ (hB (by simp only [pG,gD];omega)) (fun aq=>by have:=lY.base aq;rw [dX] at this;omega),Es.get _ (hB (by omega)),rE]
         have lh:aD.get (aC J.next)=ad.get (aC J.next):=by rw [aI.get _ (hB (by simp only [pG,gD];omega)) (fun aq=>by have:=lY.base aq;rw [dX] at this;omega),Es.get _ (hB (by omega))]
         cases mA:hA (s.drop a) with
         | ok q=>
           have Bh:=J3 mA;rw [mA] at yB bC;obtain ⟨rfl,rfl,rfl,g2,hle⟩:=yB;unfold fM at g2;rw [g2] at lh;simp only [ag,m0,m1,Sd,Se,b4,bb,bX,dC,gI,g2,lh,al,rE,gy,cW,db,o3,kc,f0,f1,amY aL,am9,↓ab,ae,simprocAttr];refine ⟨⟨a+q.2.2.2,ws++[⟨q.1,q.2.1,a,q.2.2.1⟩],rfl,hle,by simp;omega,Bt,Br,by omega,?_,?_⟩,by omega⟩
           . rw [amZ,UO];exact av
           . rw [bC,aiB];simp only [aoS]
         | error e=>
           rw [mA] at yB bC;obtain ⟨he,bt,g2⟩:=yB;unfold fM at g2;rw [g2] at lh;simp only [he,ag,m0,m1,Sd,Se,b4,bb,bX,dC,gI,g2,lh,Bt,al,rE,gy,cW,db,o3,kc,f0,f1,amY aL,am9,↓ab,ae,simprocAttr];refine ⟨Br.set (am6 _) _,?_⟩;rw [bC];rfl
def ea (L:List (List UInt8)):List V:=L.map V.str
theorem EF (h:ah):b' Tryz.prog 61 [] h fun x aa=>x=.slice (aC h.next) 0 20 20/\aa=h.new (.a_ (ea iM) 0 false):=by refine XN.z rfl (cp ?_);unfold NJ;simp only [↓ab,ae,simprocAttr];rfl
theorem ai7 (h:ah):b' Tryz.prog 62 [] h fun x aa=>x=.slice (aC h.next) 0 17 17/\aa=h.new (.a_ (ea gF) 0 false):=by refine XO.z rfl (cp ?_);unfold NK;simp only [↓ab,ae,simprocAttr];rfl
theorem uV (L:List (List UInt8)):(ea L).length=L.length:=by simp [ea]
theorem F5 {L:List (List UInt8)} {i:Nat} (au:i<L.length):(ea L)[i]? =some (.str L[i]):=by unfold ea;rw [anQ,amY au];rfl
theorem O8 {t:List UInt8} {L:List (List UInt8)} {i:Nat} (au:i<L.length):(L.drop i).contains t=(decide (L[i]=t)||(L.drop (i+1)).contains t):=by rw [ant au,List.contains_cons];congr 1;rw [anT];simp;exact eq_comm
theorem uc (t:List UInt8) (L:List (List UInt8)) (b:aU) (cap:Nat) (h:ah) (cG:L.length<=100000) (al:h.get b=.a_ (ea L) 0 false):
 ff Tryz.prog 60 [.str t,.slice b 0 L.length cap] h (.bool (L.contains t)) h:=by
 refine mP (XM.z rfl (cp ?_));unfold NH;simp only [↓ab,ae,simprocAttr];refine fS (fun r aa=>aa=h/\r 0=.str t/\r 1=.slice b 0 L.length cap/\∃i:Nat,r 5=.int .i64 i/\i<=L.length/\L.contains t=(L.drop i).contains t) (fun r aa=>L.length - (r 5).toN) ?_ ?_
 . exact ⟨rfl,by simp only [↓ab,ae,simprocAttr],by simp only [↓ab,ae,simprocAttr],0,by simp only [↓ab,ae,simprocAttr]<;>rfl,by omega,rfl⟩
 . rintro r aa ⟨rfl,bb,bT,i,dC,au,bC⟩;unfold NI;by_cases aL:i<L.length
   . have g0:((i:Int) < (L.length:Int))=True:=am_ (by omega);have g1:(0<=(i:Int))=True:=am_ (by omega);rw [O8 aL] at bC;by_cases he:L[i]=t
     . simp only [bb,bT,dC,g0,g1,al,he,am9,aov,F5 aL,↓ab,ae,simprocAttr];rw [bC];simp [he]
     . have w:IntKind.i64.wrap ((i:Int)+1)=((i+1:Nat):Int):=by rw [wrap_i64 (by omega) (by omega)];rfl
       simp only [bb,bT,dC,g0,g1,al,he,w,am9,aov,F5 aL,↓ab,ae,simprocAttr];refine ⟨⟨i+1,rfl,aL,?_⟩,by omega⟩;rw [bC];simp [he]
   . have g0:((i:Int) < (L.length:Int))=False:=am2 (by omega);rw [anD (by omega)] at bC;rw [bC];simp only [bb,bT,dC,g0,↓ab,ae,simprocAttr];rfl
def yl:List UInt8->Bool
 | d::_=>nY d.toNat
 | []=>false
def dB (k:Int) (s:List UInt8):Bool:=
 decide (s≠[])&&decide (s.length<=64)&&s.all fw&&(if k=3 then (lg s||s.head? == some 95)&&!decide (s=[95])&&!hn s else if k=4 then yl s else lg s)
def jc (k n:Int) (s:List UInt8):Bool:=
 if k=1 then decide (s=[])&&decide (-1073741824<=n)&&decide (n<=1073741823)
 else if k=2 then decide (n=0)&&decide (s.length<=4096)
 else if k=3\/k=4\/k=5 then decide (n=0)&&dB k s
 else if k=6 then decide (n=0)&&hn s
 else if k=7 then decide (n=0)&&gF.contains s
 else false
theorem OA (s:List UInt8) (h:ah) (aM:s.length<=top):vu.run (.str s) h=.val (.eu (aC h.next) 0 s.length 0) (h.new (.a_ (dQ s) 1 true)):=by simp only [vu,wV (show (dQ s).length<=top by rw [oQ];exact aM) (am6 1)]
theorem OB (s:List UInt8) (h:ah):c_ h.next (h.new (.a_ (dQ s) 1 true)) 1 (.eu (aC h.next) 0 s.length 0) s.length (dQ s):=c_.grown (by rw [oQ,aov]) (am6 _)
theorem Hd:∀(l:List UInt8) (i:Nat) (au:i<l.length) (ad:i < (dQ l).length),(dQ l)[i]=.int .u8 (l[i].toNat:Int)
 | c::l,0,_,_=>rfl
 | c::l,i+1,J,ad=>by have:=Hd l i (by simpa using J) (by rw [oQ];simpa using J);simpa [dQ] using this
theorem adu (l:List UInt8) (v:V) (h:ah) (H:e9 h 1 v l.length (dQ l)) (ax:l.length<=100000) (g:FuncId) (bc:(g=4294967296)=False) (p:Int->Bool) (ak:∀c h,ff Tryz.prog g [.int .u8 c] h (.bool (p c)) h):
 b' Tryz.prog 111 [v,.func g []] h fun x aa=>aa=h/\∃i:Int,x=.int .i64 i/\decide (0<=i)=l.any fun c=>p c.toNat:=by
 refine WZ.z rfl (cp ?_);unfold Mv;simp only [H.len,↓ab,ae,simprocAttr];refine fS (fun r aa=>aa=h/\r 0=v/\r 1=.func g []/\r 7=.int .i64 l.length/\∃i:Nat,r 8=.int .i64 i/\i<=l.length/\(l.any fun c=>p c.toNat)=((l.drop i).any fun c=>p c.toNat)) (fun r aa=>l.length - (r 8).toN) ?_ ?_
 . exact ⟨rfl,by simp only [↓ab,ae,simprocAttr],by simp only [↓ab,ae,simprocAttr],by simp only [↓ab,ae,simprocAttr],0,by simp only [↓ab,ae,simprocAttr]<;>rfl,by omega,rfl⟩
 . rintro r aa ⟨rfl,bb,bT,hq,i,eg,au,bC⟩;unfold Mw;by_cases aL:i<l.length
   . have g0:((i:Int) < (l.length:Int))=True:=am_ (by omega);obtain ⟨b8,dc,hP,dp⟩:=H.dG (k:=.i64) aL;have eA:=dp.eA (i:=i * 1) (by rw [oQ];omega);simp only [aov] at eA hP;rw [Hd l i aL] at eA;rw [ant aL,List.any_cons] at bC;have w:IntKind.i64.wrap ((i:Int)+1)=((i+1:Nat):Int):=by rw [wrap_i64 (by omega) (by omega)];rfl
     simp only [bc,anw,bb,bT,hq,eg,g0,hP,eA,↓ab,ae,simprocAttr];refine ey (ak _ _) ?_;cases n':p ((l[i]).toNat:Int) with
     | true=>
       simp only [bb,bT,hq,eg,↓ab,ae,simprocAttr];exact ⟨i,rfl,by rw [bC,n'];simp⟩
     | false=>
       simp only [bb,bT,hq,eg,w,↓ab,ae,simprocAttr];exact ⟨⟨i+1,rfl,aL,by rw [bC,n',aoE]⟩,by omega⟩
   . have g0:((i:Int) < (l.length:Int))=False:=am2 (by omega);rw [anD (by omega)] at bC;simp only [bb,bT,hq,eg,g0,↓ab,ae,simprocAttr];exact ⟨_,rfl,by rw [bC];rfl⟩
theorem Y0 (l:List UInt8) (v:V) (h:ah) (H:e9 h 1 v l.length (dQ l)) (ax:l.length<=100000) (g:FuncId) (bc:(g=4294967296)=False) (p:Int->Bool) (ak:∀c h,ff Tryz.prog g [.int .u8 c] h (.bool (p c)) h):
 ff Tryz.prog 86 [v,.func g []] h (.bool (l.any fun c=>p c.toNat)) h:=by
 refine mP (Ya.z rfl (cp ?_));unfold Oa;simp only [↓ab,ae,simprocAttr];refine bw (adu l v h H ax g bc p ak) ?_;rintro x J ⟨rfl,i,rfl,au⟩;simp only [au,↓ab,ae,simprocAttr]
theorem ahw (c:Int) (h:ah):ff Tryz.prog 87 [.int .u8 c] h (.bool (!rM c)) h:=by refine mP (Yb.z rfl (cp ?_));unfold Ob;simp only [↓ab,ae,simprocAttr];refine ey (R3 _ _) ?_;simp only [↓ab,ae,simprocAttr]
theorem adq (t:List UInt8) (L:List (List UInt8)) (v:V) (h:ah) (H:e9 h 1 v L.length (ea L)) (cG:L.length<=100000):
 b' Tryz.prog 92 [v,.str t] h fun x aa=>aa=h/\∃i:Int,x=.int .i64 i/\decide (0<=i)=L.contains t:=by
 refine Yg.z rfl (cp ?_);unfold Og;simp only [H.len,↓ab,ae,simprocAttr];refine fS (fun r aa=>aa=h/\r 0=v/\r 1=.str t/\r 7=.int .i64 L.length/\∃i:Nat,r 8=.int .i64 i/\i<=L.length/\L.contains t=(L.drop i).contains t) (fun r aa=>L.length - (r 8).toN) ?_ ?_
 . exact ⟨rfl,by simp only [↓ab,ae,simprocAttr],by simp only [↓ab,ae,simprocAttr],by simp only [↓ab,ae,simprocAttr],0,by simp only [↓ab,ae,simprocAttr]<;>rfl,by omega,rfl⟩
 . rintro r aa ⟨rfl,bb,bT,hq,i,eg,au,bC⟩;unfold Oh;by_cases aL:i<L.length
   . have g0:((i:Int) < (L.length:Int))=True:=am_ (by omega);obtain ⟨b8,dc,hP,dp⟩:=H.dG (k:=.i64) aL;have eA:=dp.eA (i:=i * 1) (by rw [uV];omega);simp only [aov] at eA hP;have A6:(ea L)[i]'(by rw [uV];exact aL)=.str L[i]:=by
      have:=F5 aL;rw [amY (by rw [uV];exact aL)] at this;exact an9 this
     rw [A6] at eA;rw [O8 aL] at bC;have w:IntKind.i64.wrap ((i:Int)+1)=((i+1:Nat):Int):=by rw [wrap_i64 (by omega) (by omega)];rfl
     by_cases he:t=L[i]
     . have e_:decide (t=L[i])=true:=anG he;simp only [bb,bT,hq,eg,g0,hP,eA,e_,↓ab,ae,simprocAttr];exact ⟨i,rfl,by rw [bC,<-he];simp⟩
     . have e_:decide (t=L[i])=false:=anL he;simp only [bb,bT,hq,eg,g0,hP,eA,e_,w,↓ab,ae,simprocAttr];refine ⟨⟨i+1,rfl,aL,?_⟩,by omega⟩;rw [bC,anL (fun q=>he q.symm),aoE]
   . have g0:((i:Int) < (L.length:Int))=False:=am2 (by omega);rw [anD (by omega)] at bC;simp only [bb,bT,hq,eg,g0,↓ab,ae,simprocAttr];exact ⟨_,rfl,by rw [bC];rfl⟩
theorem Oy (t:List UInt8) (L:List (List UInt8)) (v:V) (h:ah) (H:e9 h 1 v L.length (ea L)) (cG:L.length<=100000):
 ff Tryz.prog 53 [v,.str t] h (.bool (L.contains t)) h:=by
 refine mP (XJ.z rfl (cp ?_));unfold NC;simp only [↓ab,ae,simprocAttr];refine bw (adq t L v h H cG) ?_;rintro x J ⟨rfl,i,rfl,au⟩;simp only [au,↓ab,ae,simprocAttr]
theorem VX (s:List UInt8):(s.any fun c=>!rM c.toNat)=!(s.all fw):=by
 induction s with
 | nil=>rfl
 | cons c s bA=>rw [List.any_cons,anX,bA,Bool.not_and];rfl
theorem LJ {s:List UInt8} (h:s.all fw=true):(32:UInt8) ∉ s:=fun q=>by have:=anr.1 h _ q;revert this;decide
theorem J0 (k:Int) (s:List UInt8) (aM:s.length<=100000) (h:ah):b' Tryz.prog 51 [.int .i64 k,.str s] h fun x aa=>x=.bool (dB k s)/\Ext h aa:=by
 refine XI.z rfl (cp ?_);unfold c51;by_cases n2:s=[]
 . subst n2;simp only [↓ab,ae,simprocAttr];exact ⟨rfl,Ext.refl _⟩
 obtain ⟨c,r,qt⟩:=List.exists_cons_of_ne_nil n2;have dJ:(s=([]:List UInt8))=False:=am2 n2;have iv:s[0]? =some c:=by rw [qt];rfl
 by_cases hlen:(64:Int) < (s.length:Int)
 . have aX:dB k s=false:=by
    unfold dB;rw [anL (show ¬s.length<=64 by omega)];simp
   have wc:=am_ hlen;simp only [dJ,wc,aX,↓ab,ae,simprocAttr];exact Ext.refl _
 have wc:=am2 hlen;have rB:s.length<=top:=by unfold top;omega
 simp only [dJ,wc,OA s h rB,↓ab,ae,simprocAttr];have ar:Ext h (h.new (.a_ (dQ s) 1 true)):=(Ext.refl h).new _;have gY:=(OB s h).v;generalize h.new (.a_ (dQ s) 1 true)=J at *;refine ey (Y0 s _ J gY aM 87 (by decide) _ ahw) ?_;rw [VX];cases du:s.all fw with
 | false=>
   have aX:dB k s=false:=by unfold dB;rw [du];simp
   simp only [aX,↓ab,ae,simprocAttr];exact ar
 | true=>
   have f1:((0:Int) < (s.length:Int))=True:=am_ (by rw [qt];simp only [am0];omega);have aX:dB k s=(if k=3 then (lg s||s.head? == some 95)&&!decide (s=[95])&&!hn s else if k=4 then yl s else lg s):=by unfold dB;rw [du,anG (show s.length<=64 by omega),anG (show s≠[] from n2)];simp
   rw [aX];by_cases aD:k=3
   . have ej:(k=3)=True:=am_ aD;have hu:((c.toNat:Int)=95)=(c=95):=pQ c 95 (by omega);have aj:(lg s||s.head? == some 95)=(g_ c.toNat||decide (c=95)):=by
      rw [qt];show (g_ c.toNat||(some c == some 95))=_;congr 1
     rw [aj];have oW:(1+s.length<=17179869184)=True:=am_ (by omega);have tS:(s.length+1+1<=17179869184)=True:=am_ (by omega);have rp:(s.length+2<=17179869184)=True:=am_ (by omega);simp only [ej,f1,iv,an6,anz,↓ab,ae,simprocAttr];refine ey (zy _ _) ?_;cases kx:g_ (c.toNat:Int) with
     | false=>
       by_cases AQ:c=95
       . have j4:=am_ AQ;by_cases J:s=[95]
         . have fL:=am_ J;simp only [kx,hu,j4,fL,f1,iv,an6,↓ab,ae,simprocAttr];exact ar
         . have fL:=am2 J;simp only [kx,hu,j4,fL,f1,iv,oW,tS,rp,ang,anh,an6,↓ab,ae,simprocAttr];refine ey (AD yS (32::(s++[32])) (by decide) _) ?_;rw [Dw s (LJ du)];simp only [kx,hu,j4,fL,↓ab,ae,simprocAttr];exact ar
       . have j4:=am2 AQ;simp only [kx,hu,j4,f1,iv,an6,↓ab,ae,simprocAttr];exact ar
     | true=>
       have j4:True=True:=rfl;by_cases J:s=[95]
       . have fL:=am_ J;simp only [kx,hu,j4,fL,f1,iv,an6,↓ab,ae,simprocAttr];exact ar
       . have fL:=am2 J;simp only [kx,hu,j4,fL,f1,iv,oW,tS,rp,ang,anh,an6,↓ab,ae,simprocAttr];refine ey (AD yS (32::(s++[32])) (by decide) _) ?_;rw [Dw s (LJ du)];simp only [kx,hu,j4,fL,↓ab,ae,simprocAttr];exact ar
   . have ej:(k=3)=False:=am2 aD;by_cases bn:k=4
     . have e7:(k=4)=True:=am_ bn;simp only [ej,e7,f1,iv,an6,anz,anw,↓ab,ae,simprocAttr];refine ey (HX _ _) ?_;simp only [↓ab,ae,simprocAttr];exact ⟨by rw [qt];rfl,ar⟩
     . have e7:(k=4)=False:=am2 bn;simp only [ej,e7,f1,iv,an6,anz,anw,↓ab,ae,simprocAttr];refine ey (zy _ _) ?_;simp only [↓ab,ae,simprocAttr];exact ⟨by rw [qt];rfl,ar⟩
theorem index_one (c:UInt8):∀s:List UInt8,(0<=Lib.index s [c])↔c ∈ s
 | []=>by simp [Lib.index]
 | d::s=>by rw [Jm,index_one c s,ans];simp [List.isPrefixOf]
theorem Y2 (c:UInt8) (s:List UInt8):Lib.contains s [c]=decide (c ∈ s):=by unfold Lib.contains;rw [anT,ane,ane];exact index_one c s
theorem ae1 {t:List UInt8} (h:hn t=true):(32:UInt8) ∉ t:=by
 have hm:t ∈ iM:=by unfold hn at h;simpa using h
 exact (show ∀t ∈ iM,(32:UInt8) ∉ t by decide) t hm
theorem EY (n:Int) (s:List UInt8):jc 1 n s=(decide (s=[])&&decide (-1073741824<=n)&&decide (n<=1073741823)):=rfl
theorem Sk (n:Int) (s:List UInt8):jc 2 n s=(decide (n=0)&&decide (s.length<=4096)):=rfl
theorem ag7 (n:Int) (s:List UInt8):jc 3 n s=(decide (n=0)&&dB 3 s):=rfl
theorem ag8 (n:Int) (s:List UInt8):jc 4 n s=(decide (n=0)&&dB 4 s):=rfl
theorem ag9 (n:Int) (s:List UInt8):jc 5 n s=(decide (n=0)&&dB 5 s):=rfl
theorem Sl (n:Int) (s:List UInt8):jc 6 n s=(decide (n=0)&&hn s):=rfl
theorem Sm (n:Int) (s:List UInt8):jc 7 n s=(decide (n=0)&&gF.contains s):=rfl
theorem agO (k n p:Int) (s:List UInt8) (aM:s.length<=90000) (h:ah):b' Tryz.prog 28 [.agg [.int .i64 k,.int .i64 n,.int .i64 p,.str s]] h fun x aa=>x=.bool (jc k n s)/\Ext h aa:=by
 refine Xn.z rfl (cp ?_);unfold M_;have ar:Ext h (h.new (.a_ [.int .i64 k,.int .i64 n,.int .i64 p,.str s] 0 false)):=(Ext.refl h).new _;by_cases J:k=1
 . subst J;rw [EY];by_cases an:s=[]
   . have ed:=am_ an;by_cases aN:-1073741824<=n
     . have lU:=am_ aN;simp only [ed,lU,↓ab,ae,simprocAttr];exact ar
     . have lU:=am2 aN;simp only [ed,lU,↓ab,ae,simprocAttr];exact ar
   . have ed:=am2 an;simp only [ed,↓ab,ae,simprocAttr];exact ar
 by_cases ad:k=2
 . subst ad;rw [Sk];have ax:((s.length:Int)<=4096)=(s.length<=4096):=propext ⟨fun q=>by omega,fun q=>by omega⟩;by_cases an:n=0
   . have ed:=am_ an;simp only [ed,ax,↓ab,ae,simprocAttr];exact ar
   . have ed:=am2 an;simp only [ed,↓ab,ae,simprocAttr];exact ar
 by_cases po:k=3\/k=4\/k=5
 . have hm:jc k n s=(decide (n=0)&&dB k s):=by rcases po with rfl | rfl | rfl<;>rfl
   rw [hm];have bY:=am2 J;have b_:=am2 ad;have key:∀R:ah->Prop,(∀aa,Ext h aa->R aa)->True:=fun _ _=>trivial;rcases po with rfl | rfl | rfl
   . by_cases an:n=0
     . have ed:=am_ an;simp only [ed,↓ab,ae,simprocAttr];refine bw (J0 3 s (by omega) _) ?_;rintro x ad ⟨rfl,fH⟩;simp only [↓ab,ae,simprocAttr];exact ar.trans fH
     . have ed:=am2 an;simp only [ed,↓ab,ae,simprocAttr];exact ar
   . by_cases an:n=0
     . have ed:=am_ an;simp only [ed,↓ab,ae,simprocAttr];refine bw (J0 4 s (by omega) _) ?_;rintro x ad ⟨rfl,fH⟩;simp only [↓ab,ae,simprocAttr];exact ar.trans fH
     . have ed:=am2 an;simp only [ed,↓ab,ae,simprocAttr];exact ar
   . by_cases an:n=0
     . have ed:=am_ an;simp only [ed,↓ab,ae,simprocAttr];refine bw (J0 5 s (by omega) _) ?_;rintro x ad ⟨rfl,fH⟩;simp only [↓ab,ae,simprocAttr];exact ar.trans fH
     . have ed:=am2 an;simp only [ed,↓ab,ae,simprocAttr];exact ar
 have aD:¬k=3:=fun q=>po (.inl q);have bn:¬k=4:=fun q=>po (.inr (.inl q));have b0:¬k=5:=fun q=>po (.inr (.inr q));by_cases ep:k=6
 . subst ep;rw [Sl];by_cases an:n=0
   . have ed:=am_ an;by_cases aN:s=[]
     . have lU:=am_ aN;have ay:hn s=false:=by rw [aN];rfl
       simp only [ed,lU,ay,↓ab,ae,simprocAttr];exact ar
     . have lU:=am2 aN;simp only [ed,lU,↓ab,ae,simprocAttr];refine ey (AD s [32] (by omega) _) ?_;rw [Y2];by_cases cv:(32:UInt8) ∈ s
       . have ay:hn s=false:=by
          cases aq:hn s with
          | false=>rfl
          | true=>exact absurd cv (ae1 aq)
         have vy:=am_ cv;simp only [ed,lU,vy,ay,↓ab,ae,simprocAttr];exact ar
       . have vy:=am2 cv;have oW:(1+s.length<=17179869184)=True:=am_ (by omega);have tS:(s.length+1+1<=17179869184)=True:=am_ (by omega);have rp:(s.length+2<=17179869184)=True:=am_ (by omega);simp only [ed,lU,vy,oW,tS,rp,ang,anh,↓ab,ae,simprocAttr];refine ey (AD yS (32::(s++[32])) (by decide) _) ?_;rw [Dw s cv];simp only [↓ab,ae,simprocAttr];exact ar
   . have ed:=am2 an;simp only [ed,↓ab,ae,simprocAttr];exact ar
 by_cases fg:k=7
 . subst fg;rw [Sm];by_cases an:n=0
   . have ed:=am_ an;simp +contextual (maxSteps:=1000000) only [ed,↓ab,ae,simprocAttr];generalize tK:h.new (.a_ [.int .i64 7,.int .i64 n,.int .i64 p,.str s] 0 false)=H1 at ar ⊢;have g1:H1.get (aC h.next)=.a_ [.int .i64 7,.int .i64 n,.int .i64 p,.str s] 0 false:=by rw [<-tK,ju]
     have dc:Old H1 (aC h.next):=by rw [<-tK];exact hB (by rw [gD];omega)
     refine bw (T_ H1) ?_;rintro x ad ⟨rfl,rfl⟩;have fH:Ext H1 (H1.new (.a_ qM 0 false)):=(Ext.refl H1).new _;have g2:(H1.new (.a_ qM 0 false)).get (aC h.next)=.a_ [.int .i64 7,.int .i64 n,.int .i64 p,.str s] 0 false:=by rw [fH.get _ dc,g1]
     have bB:e9 (H1.new (.a_ qM 0 false)) 1 (.slice (aC H1.next) 0 17 17) gF.length (ea gF):=⟨rfl,rfl,hB (by rw [gD];omega),qM,.inr ⟨0,false,ju _⟩,by decide,rfl⟩;generalize H1.new (.a_ qM 0 false)=c6 at fH g2 bB ⊢;simp +contextual (maxSteps:=1000000) only [ed,g1,g2,↓ab,ae,simprocAttr];refine ey (Oy s gF _ c6 bB (by decide)) ?_;simp +contextual (maxSteps:=1000000) only [ed,g1,g2,↓ab,ae,simprocAttr];exact ar.trans fH
   . have ed:=am2 an;simp +contextual (maxSteps:=1000000) only [ed,↓ab,ae,simprocAttr];exact ar
 have hm:jc k n s=false:=by unfold jc;simp [J,ad,po,ep,fg]
 have bY:=am2 J;have b_:=am2 ad;have ej:=am2 aD;have e7:=am2 bn;have fI:=am2 b0;have ic:=am2 ep;have hQ:=am2 fg;rw [hm];simp only [bY,b_,ej,e7,fI,ic,hQ,↓ab,ae,simprocAttr];exact ar
theorem wrap_u8 {n:Int} (a1:0<=n) (J:n<256):IntKind.u8.wrap n=n:=by simp [IntKind.wrap,IntKind.bits,IntKind.signed];omega
theorem xM {B:Nat} {h:ah} {size:Nat} {s:V} {n m:Nat} {us cs:List V} (cy:1<=size) (H1:c_ B h size s n us) (dr:B<=h.next) (hlen:(n+m) * size<=top) (gZ:cs.length=m * size) (a8:fq cs=true):
 ∃v aa,iY size s (.slice (aC h.next) 0 m m) (h.new (.a_ cs 0 false))=.val v aa/\c_ B aa size v (n+m) (us++cs)/\Mod s.bj h aa/\h.next+1<=aa.next/\∀b,v.bj b->s.bj b\/h.next<cR b:=by
 have ar:Ext h (h.new (.a_ cs 0 false)):=(Ext.refl h).new _;have bB:e9 (h.new (.a_ cs 0 false)) size (.slice (aC h.next) 0 m m) m cs:=by refine ⟨gZ,rfl,hB (by rw [gD];omega),cs,.inr ⟨0,false,by rw [ju]⟩,by omega,by simp⟩
 obtain ⟨v,aa,ag,av,aI,bU⟩:=Ai cy (H1.ext ar) bB (by rw [gD];omega) hlen a8;refine ⟨v,aa,ag,av,(ar.mod _).trans aI,by have:=aI.next;rw [gD] at this;exact this,fun b aj=>?_⟩;rcases bU b aj with q | q
 . exact .inl q
 . exact .inr (by rw [gD] at q;omega)
def hD (c:UInt8):List UInt8:=
 if c=34\/c=92 then [92,c] else if c.toNat<32\/127<=c.toNat then [92,(48+c.toNat / 100).toUInt8,(48+c.toNat / 10 % 10).toUInt8,(48+c.toNat % 10).toUInt8] else [c]
def qH (s:List UInt8):List UInt8:=34::(s.flatMap hD++[34])
theorem aiM (c:UInt8):(hD c).length<=4:=by
 unfold hD
 split
 . simp
 . split<;>simp
theorem Ku:∀s:List UInt8,(s.flatMap hD).length<=4 * s.length
 | []=>by simp
 | c::s=>by rw [List.flatMap_cons,amZ,am0];have:=aiM c;have:=Ku s;omega
theorem Up {s:List UInt8} {i:Nat} (au:i<s.length):(s.take (i+1)).flatMap hD=(s.take i).flatMap hD++hD s[i]:=by rw [<-List.take_append_getElem au,List.flatMap_append];simp
theorem Fx (a k:Nat) (bF:a<256) (ay:k≠0):(en.int .quo).run Tryz.prog (.int .u8 (a:Int)) (.int .u8 (k:Int))=some (.int .u8 ((a / k:Nat):Int)):=by have aq:a / k<=a:=Nat.div_le_self ..;rw [Rw .u8 _ _ (by omega),<-Int.ofNat_tdiv,wrap_u8 (Int.natCast_nonneg _) (Int.ofNat_lt.2 (Nat.lt_of_le_of_lt aq bF))]
theorem FK (a k:Nat) (ay:k≠0):(en.int .rem).run Tryz.prog (.int .u8 (a:Int)) (.int .u8 (k:Int))=some (.int .u8 ((a % k:Nat):Int)):=by rw [JB .u8 _ _ (by omega),<-Int.ofNat_tmod]
theorem zJ (a:Nat) (bF:a<=9):IntKind.u8.wrap (48 + (a:Int))=((48+a:Nat):Int):=by rw [wrap_u8 (by omega) (by omega)];omega
theorem KY (a:Nat) (bF:a<256):(a.toUInt8.toNat:Int)=(a:Int):=by simp;omega
theorem Md (c:UInt8):dQ [92,(48+c.toNat / 100).toUInt8,(48+c.toNat / 10 % 10).toUInt8,(48+c.toNat % 10).toUInt8]=[.int .u8 92,.int .u8 ((48+c.toNat / 100:Nat):Int),.int .u8 ((48+c.toNat / 10 % 10:Nat):Int),.int .u8 ((48+c.toNat % 10:Nat):Int)]:=by have ao:=c.toNat_lt;simp only [dQ,KY _ (show 48+c.toNat / 100<256 by omega),KY _ (show 48+c.toNat / 10 % 10<256 by omega),KY _ (show 48+c.toNat % 10<256 by omega)];rfl
theorem aiO (s:List UInt8) (aM:s.length<=90000) (h:ah):b' Tryz.prog 30 [.str s] h fun x aa=>x=.str (qH s)/\Ext h aa:=by
 refine Xo.z rfl (cp ?_);unfold Na;have rB:s.length<=top:=by unfold top;omega
 simp only [OA s _ rB,↓ab,ae,simprocAttr];have qx:Ext h (h.new (.a_ [.int .u8 34] 0 false)):=(Ext.refl h).new _;have Jf:c_ h.next (h.new (.a_ [.int .u8 34] 0 false)) 1 (.slice (aC h.next) 0 1 1) 1 (dQ [34]):=⟨rfl,rfl,by rw [dX];exact am6 _,hB (by rw [gD];omega),am6 _,by unfold top;omega,_,0,false,ju _,by simp,rfl⟩
 have iJ:(h.new (.a_ [.int .u8 34] 0 false)).next=h.next+1:=gD _ _
 generalize h.new (.a_ [.int .u8 34] 0 false)=J at *;have rD:Ext J (J.new (.a_ (dQ s) 1 true)):=(Ext.refl J).new _;have gY:=(OB s J).v;have yw:(J.new (.a_ (dQ s) 1 true)).next=h.next+2:=by rw [gD,iJ]
 have ac3:=Jf.ext rD;have fH:=qx.trans rD;generalize J.new (.a_ (dQ s) 1 true)=ad at *;rw [iJ] at gY
 refine fS (fun r aa=>∃(i:Nat) (v:V) (n:Nat),r 3=v/\r 8=.eu (aC (h.next+1)) 0 s.length 0/\r 9=.int .i64 s.length/\r 10=.int .i64 i/\i<=s.length/\n<=1+4 * i/\
  c_ h.next aa 1 v n (dQ (34::(s.take i).flatMap hD))/\e9 aa 1 (.eu (aC (h.next+1)) 0 s.length 0) s.length (dQ s)/\Ext h aa/\h.next+2<=aa.next/\∀b,v.bj b->b≠aC (h.next+1)) (fun r aa=>s.length - (r 10).toN) ?_ ?_
 . refine ⟨0,_,1,by simp only [↓ab,ae,simprocAttr]<;>rfl,by simp only [↓ab,ae,simprocAttr],by simp only [↓ab,ae,simprocAttr],by simp only [↓ab,ae,simprocAttr]<;>rfl,by omega,by omega,ac3,gY,fH,by omega,?_⟩;intro b aj e;rw [show b=aC h.next from aj,s0] at e;omega
 . rintro r aa ⟨i,v,n,bX,eg,iS,ih,au,aX,bB,P2,ar,mA,yG⟩;unfold Nb;by_cases aL:i<s.length
   . have g0:((i:Int) < (s.length:Int))=True:=am_ (by omega);have A0:=(s[i]).toNat_lt;obtain ⟨b8,dc,hP,dp⟩:=P2.dG (k:=.i64) aL;have eA:=dp.eA (i:=i * 1) (by rw [oQ];omega);simp only [aov] at eA hP;rw [Hd s i aL] at eA;have w:IntKind.i64.wrap ((i:Int)+1)=((i+1:Nat):Int):=by rw [wrap_i64 (by omega) (by omega)];rfl
     have hK:(((s[i]).toNat:Int)=34)=(s[i]=34):=pQ _ 34 (by omega);have nh:(((s[i]).toNat:Int)=92)=(s[i]=92):=pQ _ 92 (by omega);have on:∀(m:Nat) (cs:List V),cs=dQ (hD s[i])->cs.length=m * 1->m<=4->∃cI aD,iY 1 v (.slice (aC aa.next) 0 m m) (aa.new (.a_ cs 0 false))=.val cI aD/\c_ h.next aD 1 cI (n+m) (dQ (34::(s.take (i+1)).flatMap hD))/\e9 aD 1 (.eu (aC (h.next+1)) 0 s.length 0) s.length (dQ s)/\Ext h aD/\h.next+2<=aD.next/\∀b,cI.bj b->b≠aC (h.next+1):=by
      intro m cs gZ ax hm;obtain ⟨cI,aD,ag,av,aI,bU,c8⟩:=xM (m:=m) (cs:=cs) (by omega) bB ar.next (by unfold top;omega) ax (by rw [gZ];exact Ds _)
      refine ⟨cI,aD,ag,?_,P2.mod aI (fun b aj aq=>yG b aq aj),ar.lz aI (fun b aj=>bB.base aj),by omega,fun b aj=>?_⟩
      . rw [Up aL,<-List.cons_append,tA,<-gZ];exact av
      . rcases c8 b aj with q | q
        . exact yG b q
        . intro e;rw [e,dX] at q;omega
     by_cases J:s[i]=34\/s[i]=92
     . have aq:hD s[i]=[92,s[i]]:=by unfold hD;rw [anb J]
       obtain ⟨cI,aD,ag,av,aI,bU,c8,eH⟩:=on 2 [.int .u8 92,.int .u8 ((s[i]).toNat:Int)] (by rw [aq];rfl) rfl (by omega);have fin:(h.next+2<=aD.next):=c8;by_cases sl:s[i]=34
       . have t1:=am_ sl;simp only [bX,eg,iS,ih,g0,hP,eA,hK,nh,t1,ag,w,↓ab,ae,simprocAttr];exact ⟨⟨i+1,cI,n+2,rfl,rfl,aL,by omega,av,aI,bU,c8,eH⟩,by omega⟩
       . have t1:=am2 sl;have t2:=am_ (J.resolve_left sl);simp only [bX,eg,iS,ih,g0,hP,eA,hK,nh,t1,t2,ag,w,↓ab,ae,simprocAttr];exact ⟨⟨i+1,cI,n+2,rfl,rfl,aL,by omega,av,aI,bU,c8,eH⟩,by omega⟩
     . have n34:=am2 (fun q=>J (.inl q):¬s[i]=34);have wU:=am2 (fun q=>J (.inr q):¬s[i]=92);by_cases ad:(s[i]).toNat<32\/127<=(s[i]).toNat
       . have aq:hD s[i]=[92,(48 + (s[i]).toNat / 100).toUInt8,(48 + (s[i]).toNat / 10 % 10).toUInt8,(48 + (s[i]).toNat % 10).toUInt8]:=by unfold hD;rw [am7 J,anb ad]
         obtain ⟨cI,aD,ag,av,aI,bU,c8,eH⟩:=on 4 [.int .u8 92,.int .u8 ((48 + (s[i]).toNat / 100:Nat):Int),.int .u8 ((48 + (s[i]).toNat / 10 % 10:Nat):Int),.int .u8 ((48 + (s[i]).toNat % 10:Nat):Int)] (by rw [aq,Md]) rfl (by omega);have bk:(en.int .quo).run Tryz.prog (.int .u8 ((s[i]).toNat:Int)) (.int .u8 100)=some (.int .u8 (((s[i]).toNat / 100:Nat):Int)):=Fx (s[i]).toNat 100 A0 (by omega);have dT:(en.int .quo).run Tryz.prog (.int .u8 ((s[i]).toNat:Int)) (.int .u8 10)=some (.int .u8 (((s[i]).toNat / 10:Nat):Int)):=Fx (s[i]).toNat 10 A0 (by omega);have CE:(en.int .rem).run Tryz.prog (.int .u8 (((s[i]).toNat / 10:Nat):Int)) (.int .u8 10)=some (.int .u8 (((s[i]).toNat / 10 % 10:Nat):Int)):=FK ((s[i]).toNat / 10) 10 (by omega);have CF:(en.int .rem).run Tryz.prog (.int .u8 ((s[i]).toNat:Int)) (.int .u8 10)=some (.int .u8 (((s[i]).toNat % 10:Nat):Int)):=FK (s[i]).toNat 10 (by omega);have b4:=zJ ((s[i]).toNat / 100) (by omega);have b1:=zJ ((s[i]).toNat / 10 % 10) (by omega);have jY:=zJ ((s[i]).toNat % 10) (by omega);by_cases H5:(s[i]).toNat<32
         . have t1:(((s[i]).toNat:Int)<32)=True:=am_ (by omega);simp only [bX,eg,iS,ih,g0,hP,eA,hK,nh,n34,wU,t1,bk,dT,CE,CF,b4,b1,jY,ag,w,↓ab,ae,simprocAttr];exact ⟨⟨i+1,cI,n+4,rfl,rfl,aL,by omega,av,aI,bU,c8,eH⟩,by omega⟩
         . have t1:(((s[i]).toNat:Int)<32)=False:=am2 (by omega);have t2:((127:Int)<=((s[i]).toNat:Int))=True:=am_ (by omega);simp only [bX,eg,iS,ih,g0,hP,eA,hK,nh,n34,wU,t1,t2,bk,dT,CE,CF,b4,b1,jY,ag,w,↓ab,ae,simprocAttr];exact ⟨⟨i+1,cI,n+4,rfl,rfl,aL,by omega,av,aI,bU,c8,eH⟩,by omega⟩
       . have aq:hD s[i]=[s[i]]:=by unfold hD;rw [am7 J,am7 ad]
         obtain ⟨cI,aD,ag,av,aI,bU,c8,eH⟩:=on 1 [.int .u8 ((s[i]).toNat:Int)] (by rw [aq];rfl) rfl (by omega);have t1:(((s[i]).toNat:Int)<32)=False:=am2 (by omega);have t2:((127:Int)<=((s[i]).toNat:Int))=False:=am2 (by omega);simp only [bX,eg,iS,ih,g0,hP,eA,hK,nh,n34,wU,t1,t2,ag,w,↓ab,ae,simprocAttr];exact ⟨⟨i+1,cI,n+1,rfl,rfl,aL,by omega,av,aI,bU,c8,eH⟩,by omega⟩
   . have j9:i=s.length:=by omega
     have g0:((i:Int) < (s.length:Int))=False:=am2 (by omega);have ax:=Ku s;rw [j9,aox] at bB;obtain ⟨cI,aD,ag,av,aI,bU,c8⟩:=xM (m:=1) (cs:=[.int .u8 34]) (by omega) bB ar.next (by unfold top;omega) rfl rfl
     have aj:dQ (34::s.flatMap hD)++[.int .u8 34]=dQ (qH s):=by unfold qH;rw [<-List.cons_append,tA];rfl
     rw [aj] at av;have hlen:n+1=(qH s).length:=by have:=av.1;rw [oQ,aov] at this;omega
     rw [hlen] at av;simp only [bX,eg,iS,ih,g0,ag,xU av,↓ab,ae,simprocAttr];exact ar.lz aI (fun b aj=>bB.base aj)
def R2 (c:Int):Bool:=oB c 97 122||oB c 65 90||oB c 48 57||decide (c=95)||decide (c=39)
theorem agB (c:UInt8):R2 (c.toNat:Int)=fw c:=by unfold R2 fw rM oB nU g_ nY;generalize (c.toNat:Int)=x;cases decide (97<=x)<;>cases decide (x<=122)<;>cases decide (65<=x)<;>cases decide (x<=90)<;>cases decide (48<=x)<;>cases decide (x<=57)<;>cases decide (x=95)<;>cases decide (x=39)<;>rfl
theorem abH {s:List UInt8} {c:UInt8} {r:List UInt8} (h:s=c::r):lg s=g_ c.toNat:=by rw [h];rfl
theorem o6 (k:Int) (s:List UInt8) (aM:s.length<=17179869184) (ay:k=3\/k=4\/k=5) (h:ah):b' Tryz.prog 59 [.int .i64 k,.str s] h fun x aa=>x=.bool (dB k s)/\Ext h aa:=by
 refine XL.z rfl (cp ?_);unfold NF;by_cases n2:s=[]
 . subst n2;simp only [↓ab,ae,simprocAttr];exact ⟨rfl,Ext.refl _⟩
 obtain ⟨c,r,qt⟩:=List.exists_cons_of_ne_nil n2;have dJ:(s=([]:List UInt8))=False:=am2 n2;have iv:s[0]? =some c:=by rw [qt];rfl
 by_cases hlen:(64:Int) < (s.length:Int)
 . have aX:dB k s=false:=by
    unfold dB;rw [anL (show ¬s.length<=64 by omega)];simp
   have wc:=am_ hlen;simp only [dJ,wc,aX,↓ab,ae,simprocAttr];exact Ext.refl _
 have wc:=am2 hlen;simp only [dJ,wc,↓ab,ae,simprocAttr];refine fS (fun r aa=>aa=h/\r 0=.int .i64 k/\r 1=.str s/\∃i:Nat,r 5=.int .i64 i/\i<=s.length/\s.all fw=(s.drop i).all fw) (fun r aa=>s.length - (r 5).toN) ?_ ?_
 . exact ⟨rfl,by simp only [↓ab,ae,simprocAttr],by simp only [↓ab,ae,simprocAttr],0,by simp only [↓ab,ae,simprocAttr]<;>rfl,by omega,rfl⟩
 . rintro R aa ⟨rfl,bb,bT,i,dC,au,bC⟩;unfold NG;by_cases aL:i<s.length
   . have g0:((i:Int) < (s.length:Int))=True:=am_ (by omega);have g1:(0<=(i:Int))=True:=am_ (by omega);rw [ant aL,anX] at bC;have w:IntKind.i64.wrap ((i:Int)+1)=((i+1:Nat):Int):=by rw [wrap_i64 (by omega) (by omega)];rfl
     simp only [bb,bT,dC,g0,g1,amY aL,am9,↓ab,ae,simprocAttr];refine ey (Vh _ _) ?_;rw [show (oB (s[i].toNat:Int) 97 122||oB (s[i].toNat:Int) 65 90||oB (s[i].toNat:Int) 48 57||decide ((s[i].toNat:Int)=95)||decide ((s[i].toNat:Int)=39))=fw s[i] from agB _];cases ax:fw s[i] with
     | true=>
       simp only [bb,bT,dC,w,↓ab,ae,simprocAttr];exact ⟨⟨i+1,rfl,aL,by rw [bC,ax,an2]⟩,by omega⟩
     | false=>
       have aX:dB k s=false:=by unfold dB;rw [bC,ax];simp
       simp only [aX,↓ab,ae,simprocAttr];exact Ext.refl _
   . have g0:((i:Int) < (s.length:Int))=False:=am2 (by omega);rw [anD (by omega)] at bC;have du:s.all fw=true:=by rw [bC];rfl
     have f1:((0:Int) < (s.length:Int))=True:=am_ (by rw [qt];simp only [am0];omega);have aX:dB k s=(if k=3 then (lg s||s.head? == some 95)&&!decide (s=[95])&&!hn s else if k=4 then yl s else lg s):=by unfold dB;rw [du,anG (show s.length<=64 by omega),anG (show s≠[] from n2)];simp
     rw [aX];have aj:(lg s||s.head? == some 95)=(g_ c.toNat||decide (c=95)):=by rw [qt];show (g_ c.toNat||(some c == some 95))=_;congr 1
     have acR:lg s=g_ c.toNat:=abH qt;have abV:yl s=nY c.toNat:=by rw [qt];rfl
     rw [aj];have hu:((c.toNat:Int)=95)=(c=95):=pQ c 95 (by omega);rcases ay with rfl | rfl | rfl
     . simp only [bb,bT,dC,g0,f1,iv,an6,anz,↓ab,ae,simprocAttr];refine ey (zH _ _ _ _) ?_;rw [show oB (c.toNat:Int) 97 122=g_ (c.toNat:Int) from rfl];cases kx:g_ (c.toNat:Int) with
       | false=>
         by_cases AQ:c=95
         . have j4:=am_ AQ;by_cases J:s=[95]
           . have fL:=am_ J;simp only [bb,bT,kx,hu,j4,fL,f1,iv,an6,↓ab,ae,simprocAttr];exact Ext.refl _
           . have fL:=am2 J;simp only [bb,bT,kx,hu,j4,fL,f1,iv,an6,↓ab,ae,simprocAttr];refine bw (EF _) ?_;rintro x J ⟨rfl,rfl⟩;simp only [bb,bT,kx,hu,j4,fL,f1,iv,↓ab,ae,simprocAttr];refine ey (uc s iM _ 20 _ (by decide) (by rw [ju])) ?_;have rn:iM.contains s=hn s:=rfl;rw [rn];simp only [bb,bT,kx,hu,j4,fL,↓ab,ae,simprocAttr];exact (Ext.refl _).new _
         . have j4:=am2 AQ;simp only [bb,bT,kx,hu,j4,f1,iv,an6,↓ab,ae,simprocAttr];exact Ext.refl _
       | true=>
         have j4:True=True:=rfl;by_cases J:s=[95]
         . have fL:=am_ J;simp only [bb,bT,kx,hu,j4,fL,f1,iv,an6,↓ab,ae,simprocAttr];exact Ext.refl _
         . have fL:=am2 J;simp only [bb,bT,kx,hu,j4,fL,f1,iv,an6,↓ab,ae,simprocAttr];refine bw (EF _) ?_;rintro x J ⟨rfl,rfl⟩;simp only [bb,bT,kx,hu,j4,fL,f1,iv,↓ab,ae,simprocAttr];refine ey (uc s iM _ 20 _ (by decide) (by rw [ju])) ?_;have rn:iM.contains s=hn s:=rfl;rw [rn];simp only [bb,bT,kx,hu,j4,fL,↓ab,ae,simprocAttr];exact (Ext.refl _).new _
     . simp only [bb,bT,dC,g0,f1,iv,an6,anz,anw,↓ab,ae,simprocAttr];refine ey (zH _ _ _ _) ?_;rw [abV];simp only [↓ab,ae,simprocAttr];exact ⟨rfl,Ext.refl _⟩
     . simp only [bb,bT,dC,g0,f1,iv,an6,anz,anw,↓ab,ae,simprocAttr];refine ey (zH _ _ _ _) ?_;rw [acR];simp only [↓ab,ae,simprocAttr];exact ⟨rfl,Ext.refl _⟩
theorem ai5 (k n p:Int) (s:List UInt8) (aM:s.length<=90000) (h:ah):b' Tryz.prog 32 [.agg [.int .i64 k,.int .i64 n,.int .i64 p,.str s]] h fun x aa=>x=.bool (jc k n s)/\Ext h aa:=by
 refine Xp.z rfl (cp ?_);unfold tC;have ar:Ext h (h.new (.a_ [.int .i64 k,.int .i64 n,.int .i64 p,.str s] 0 false)):=(Ext.refl h).new _;by_cases J:k=1
 . subst J;rw [EY];by_cases aN:-1073741824<=n
   . have lU:=am_ aN;by_cases cv:n<=1073741823
     . have vy:=am_ cv;simp only [lU,vy,↓ab,ae,simprocAttr];exact ar
     . have vy:=am2 cv;simp only [lU,vy,↓ab,ae,simprocAttr];exact ar
   . have lU:=am2 aN;simp only [lU,↓ab,ae,simprocAttr];exact ar
 by_cases ad:k=2
 . subst ad;rw [Sk];have ax:((s.length:Int)<=4096)=(s.length<=4096):=propext ⟨fun q=>by omega,fun q=>by omega⟩;by_cases an:n=0
   . have ed:=am_ an;simp only [ed,ax,↓ab,ae,simprocAttr];exact ar
   . have ed:=am2 an;simp only [ed,↓ab,ae,simprocAttr];exact ar
 by_cases po:k=3\/k=4\/k=5
 . rcases po with rfl | rfl | rfl
   . rw [ag7];by_cases an:n=0
     . have ed:=am_ an;simp only [ed,↓ab,ae,simprocAttr];refine bw (o6 3 s (by omega) (.inl rfl) _) ?_;rintro x ad ⟨rfl,fH⟩;simp only [↓ab,ae,simprocAttr];exact ar.trans fH
     . have ed:=am2 an;simp only [ed,↓ab,ae,simprocAttr];exact ar
   . rw [ag8];by_cases an:n=0
     . have ed:=am_ an;simp only [ed,↓ab,ae,simprocAttr];refine bw (o6 4 s (by omega) (.inr (.inl rfl)) _) ?_;rintro x ad ⟨rfl,fH⟩;simp only [↓ab,ae,simprocAttr];exact ar.trans fH
     . have ed:=am2 an;simp only [ed,↓ab,ae,simprocAttr];exact ar
   . rw [ag9];by_cases an:n=0
     . have ed:=am_ an;simp only [ed,↓ab,ae,simprocAttr];refine bw (o6 5 s (by omega) (.inr (.inr rfl)) _) ?_;rintro x ad ⟨rfl,fH⟩;simp only [↓ab,ae,simprocAttr];exact ar.trans fH
     . have ed:=am2 an;simp only [ed,↓ab,ae,simprocAttr];exact ar
 have aD:¬k=3:=fun q=>po (.inl q);have bn:¬k=4:=fun q=>po (.inr (.inl q));have b0:¬k=5:=fun q=>po (.inr (.inr q));by_cases ep:k=6
 . subst ep;rw [Sl];by_cases an:n=0
   . have ed:=am_ an;simp +contextual (maxSteps:=1000000) only [ed,↓ab,ae,simprocAttr];generalize tK:h.new (.a_ [.int .i64 6,.int .i64 n,.int .i64 p,.str s] 0 false)=H1 at ar ⊢;have g1:H1.get (aC h.next)=.a_ [.int .i64 6,.int .i64 n,.int .i64 p,.str s] 0 false:=by rw [<-tK,ju]
     have dc:Old H1 (aC h.next):=by rw [<-tK];exact hB (by rw [gD];omega)
     refine bw (EF H1) ?_;rintro x ad ⟨rfl,rfl⟩;have fH:Ext H1 (H1.new (.a_ (ea iM) 0 false)):=(Ext.refl H1).new _;have g2:(H1.new (.a_ (ea iM) 0 false)).get (aC h.next)=.a_ [.int .i64 6,.int .i64 n,.int .i64 p,.str s] 0 false:=by rw [fH.get _ dc,g1]
     have g3:(H1.new (.a_ (ea iM) 0 false)).get (aC H1.next)=.a_ (ea iM) 0 false:=ju _;generalize H1.new (.a_ (ea iM) 0 false)=c6 at fH g2 g3 ⊢;simp +contextual (maxSteps:=1000000) only [ed,g1,g2,↓ab,ae,simprocAttr];refine ey (uc s iM (aC H1.next) 20 c6 (by decide) g3) ?_;have rn:iM.contains s=hn s:=rfl;rw [rn];simp +contextual (maxSteps:=1000000) only [ed,g1,g2,↓ab,ae,simprocAttr];exact ar.trans fH
   . have ed:=am2 an;simp +contextual (maxSteps:=1000000) only [ed,↓ab,ae,simprocAttr];exact ar
 by_cases fg:k=7
 . subst fg;rw [Sm];by_cases an:n=0
   . have ed:=am_ an;simp +contextual (maxSteps:=1000000) only [ed,↓ab,ae,simprocAttr];generalize tK:h.new (.a_ [.int .i64 7,.int .i64 n,.int .i64 p,.str s] 0 false)=H1 at ar ⊢;have g1:H1.get (aC h.next)=.a_ [.int .i64 7,.int .i64 n,.int .i64 p,.str s] 0 false:=by rw [<-tK,ju]
     have dc:Old H1 (aC h.next):=by rw [<-tK];exact hB (by rw [gD];omega)
     refine bw (ai7 H1) ?_;rintro x ad ⟨rfl,rfl⟩;have fH:Ext H1 (H1.new (.a_ (ea gF) 0 false)):=(Ext.refl H1).new _;have g2:(H1.new (.a_ (ea gF) 0 false)).get (aC h.next)=.a_ [.int .i64 7,.int .i64 n,.int .i64 p,.str s] 0 false:=by rw [fH.get _ dc,g1]
     have g3:(H1.new (.a_ (ea gF) 0 false)).get (aC H1.next)=.a_ (ea gF) 0 false:=ju _;generalize H1.new (.a_ (ea gF) 0 false)=c6 at fH g2 g3 ⊢;simp +contextual (maxSteps:=1000000) only [ed,g1,g2,↓ab,ae,simprocAttr];refine ey (uc s gF (aC H1.next) 17 c6 (by decide) g3) ?_;simp +contextual (maxSteps:=1000000) only [ed,g1,g2,↓ab,ae,simprocAttr];exact ar.trans fH
   . have ed:=am2 an;simp +contextual (maxSteps:=1000000) only [ed,↓ab,ae,simprocAttr];exact ar
 have hm:jc k n s=false:=by unfold jc;simp [J,ad,po,ep,fg]
 have bY:=am2 J;have b_:=am2 ad;have ej:=am2 aD;have e7:=am2 bn;have fI:=am2 b0;have ic:=am2 ep;have hQ:=am2 fg;rw [hm];simp only [bY,b_,ej,e7,fI,ic,hQ,↓ab,ae,simprocAttr];exact ar
end
section
open Go bd Go.Shelf
theorem ak5 {aB:Fr} {E:Env} {h:ah} {W:World} (s:ba aB E h W) {b:aU} {p:iW} (ak:E b=some p) {off:Nat} {ai:List V} (H:iU h b off ai):
 p.bj<W.heap.size/\∀i v,ai[i]? =some v->∃y,W.cell? ⟨p.bj,p.base+off+i,none⟩=some y/\Rel E v y:=by
 obtain ⟨_,us,aJ,hle,Jc⟩:=H;have key:∃c el b5,W.heap[p.bj]? =some (.cells c el b5)/\oF E us.length p.base (gr .e 0 us) c:=by
  have aj:=s.at ak;rcases aJ with aJ | ⟨cT,st,aJ⟩
  . rw [aJ] at aj;obtain ⟨_,p',c,el,b5,ag,av,aI,bU⟩:=aj;rw [ak] at ag;cases ag;exact ⟨c,el,b5,aI,bU⟩
  . rw [aJ] at aj;obtain ⟨_,p',c,el,b5,ag,av,aI,_,_,_,bU⟩:=aj;rw [ak] at ag;cases ag;exact ⟨c,el,b5,aI,bU⟩
 obtain ⟨c,el,b5,bY,b_,ej⟩:=key;refine ⟨?_,fun i v bB=>?_⟩
 . rcases an7 p.bj W.heap.size with q | q
   . exact q
   . rw [aoo q] at bY;cases bY
 . have au:i<ai.length:=by
    rcases an7 i ai.length with q | q
    . exact q
    . rw [anv q] at bB;cases bB
   have aL:p.base+off+i<c.size:=by omega
   refine ⟨c[p.base+off+i],?_,?_⟩
   . simp only [World.cell?,bY];exact ani aL
   . have:=ej (off+i) c[p.base+off+i] (by omega) (by rw [<-Nat.add_assoc];exact ani aL);have al:=AO us 0 (off+i) .e;rw [anb (by omega),anB] at al;rw [al] at this;have hu:us[off+i]? =some v:=by
      rw [<-Jc,List.getElem?_take,anb au,aom] at bB;exact bB
     rw [hu] at this;exact this
theorem adN (L:List (List UInt8)) (sep:List UInt8) (v:V) (h:ah) (H:e9 h 1 v L.length (ea L)) (ax:L.length<=1000000000) (bJ:(Lib.join L sep).length<=10000000000):
 ff Tryz.prog 31 [v,.str sep] h (.str (Lib.join L sep)) h:=by
 refine ⟨by decide,.inl ⟨⟨_,Tryz.func31,by kernel_rfl⟩,fun aB E W xs ar s=>?_⟩⟩;obtain ⟨y,cS,rfl,ag,z,pU,rfl,av,rfl⟩:=ar;simp only [Rel] at av;subst av;have nr:(L.map fun x=>(⟨⟨x⟩⟩:ByteArray)).map (·.data.toList)=L:=by rw [List.map_map];exact (List.map_congr_left (fun _ _=>rfl)).trans (List.map_id L)
 have cells:∀(b:aU) (off c:Nat) (p:iW),E b=some p->iU h b off (ea L)->L.length<=c->y=.slice (some ⟨p.bj,p.base+off,none⟩) L.length c->Calls Tryz.prog 31 #[y,.string ⟨⟨sep⟩⟩] W fun e w'=>∃aw x,e=.returned x/\E.le aw/\Rel aw (.str (Lib.join L sep)) x/\ba aB aw h w':=by
  intro b off c p ak dK ao bc;obtain ⟨bY,b_⟩:=ak5 s ak dK;have Ec:∀(j:Nat) (x:ByteArray),(L.map fun x=>(⟨⟨x⟩⟩:ByteArray))[j]? =some x->W.cell? ⟨p.bj,p.base+off+j,none⟩=some (.string x):=by
   intro j x ar;rw [anQ] at ar;cases cG:L[j]? with
   | none=>rw [cG] at ar;cases ar
   | some t=>
     rw [cG] at ar;cases ar;obtain ⟨y,g1,g2⟩:=b_ j (.str t) (by unfold ea;rw [anQ,cG];rfl);simp only [Rel] at g2;rw [g1,g2]
  have:=Any.strings_Join Tryz.EK Tryz.DL p.bj (p.base+off) c (L.map fun x=>(⟨⟨x⟩⟩:ByteArray)) ⟨⟨sep⟩⟩ W Ec bY (by rw [anc];omega) (by rw [anc];exact ao) (by rw [nr];show (Lib.join L sep).length<=_;omega);rw [nr,anc] at this;rw [bc];refine this.mono fun e w' q=>?_;exact ⟨E,_,q.1,fun _ _ q=>q,by simp only [Rel],s.below q.2⟩
 have E7:∀a c,L.length=0->y=.slice a 0 c->Calls Tryz.prog 31 #[y,.string ⟨⟨sep⟩⟩] W fun e w'=>∃aw x,e=.returned x/\E.le aw/\Rel aw (.str (Lib.join L sep)) x/\ba aB aw h w':=by intro a c a1 bc;have cG:L=[]:=anI a1;subst cG;rw [bc];refine (Any.strings_Join_none Tryz.EK Tryz.DL a c ⟨⟨sep⟩⟩ W).mono fun e w' q=>?_;obtain ⟨ag,rfl⟩:=q;exact ⟨E,_,ag,fun _ _ q=>q,by simp only [Rel];rfl,s⟩
 have c6:=H.2;cases v<;>simp only at c6<;>first | exact c6.elim | skip
 . simp only [Rel] at ag;obtain ⟨p,g1,g2,g3⟩:=ag;obtain ⟨an,aN⟩:=c6;rw [an] at g2 g3;exact cells _ _ _ p g1 aN g2 g3
 . simp only [Rel] at ag;obtain ⟨p,g1,g2,g3⟩:=ag;obtain ⟨an,aN⟩:=c6;rw [an] at g2 g3;exact cells _ _ _ p g1 aN (by omega) g3
 . simp only [Rel] at ag;obtain ⟨a,c,rfl⟩:=ag;exact E7 _ _ c6 rfl
 . simp only [Rel] at ag;exact E7 _ _ c6 ag
end
section
open Go bd
structure bq where
 kind:Int
 num:Int
 pos:Int
 text:List UInt8
deriving DecidableEq
def bq.enc (w:bq):List V:=[.int .i64 w.kind,.int .i64 w.num,.int .i64 w.pos,.str w.text]
def kY:List bq->List V
 | []=>[]
 | w::ws=>w.enc++kY ws
theorem F':∀ws:List bq,(kY ws).length=ws.length * 4
 | []=>rfl
 | w::ws=>by rw [kY,amZ,F' ws,am0];simp [bq.enc];omega
theorem F9:∀(ws:List bq) (i:Nat) (au:i<ws.length),((kY ws).drop (i * 4)).take 4=ws[i].enc
 | w::ws,0,_=>by simp [kY,bq.enc]
 | w::ws,i+1,au=>by have:=F9 ws i (by simpa using au);rw [show (i+1) * 4=4+i * 4 from by omega];simp only [kY,List.getElem_cons_succ];rw [<-List.drop_drop,show (w.enc++kY ws).drop 4=kY ws from by simp [bq.enc]];exact this
def jj (k n:Int) (s:List UInt8):List UInt8:=
 if k=1 then Lib.itoa (if n<0 then n+2147483648 else n) else if k=2 then qH s else if k=5 then 39::s else s
def bq.may (w:bq):Bool:=jc w.kind w.num w.text
def bq.out (w:bq):List UInt8:=jj w.kind w.num w.text
def hT (ws:List bq):List UInt8 × Int:=if ws.all bq.may then (Lib.join (ws.map bq.out) [32],0) else ([],2)
theorem VV {n:Int} (a1:-1073741824<=n) (J:n<=1073741823):(en.int .and).run Tryz.prog (.int .i64 n) (.int .i64 2147483647)=some (.int .i64 (if n<0 then n+2147483648 else n)):=by
 have h:(en.int .and).run Tryz.prog (.int .i64 n) (.int .i64 2147483647)=some (.int .i64 (IntKind.i64.wrap ((BitVec.ofInt 64 n&&& BitVec.ofInt 64 2147483647).toNat:Nat))):=rfl;rw [h,BitVec.toNat_and,BitVec.toNat_ofInt,BitVec.toNat_ofInt];have e:((2147483647:Int) % ((2 ^ 64:Nat):Int)).toNat=2 ^ 31-1:=by decide
 rw [e,Nat.and_two_pow_sub_one_eq_mod];have aN:((2 ^ 64:Nat):Int)=18446744073709551616:=by decide
 rw [aN];have cv:(((n % 18446744073709551616).toNat % 2 ^ 31:Nat):Int)=if n<0 then n+2147483648 else n:=by
  split<;>omega
 rw [cv,wrap_i64 (by split<;>omega) (by split<;>omega)]
theorem adO (M:Nat):∀L:List (List UInt8),(∀x ∈ L,x.length<=M)->(Lib.join L [32]).length<=L.length * (M+1)
 | [],_=>by simp [Lib.join_nil]
 | x::L,h=>by
   rw [Lib.join_cons,amZ];have aE:∀L:List (List UInt8),(∀x ∈ L,x.length<=M)->(Lib.joinTail [32] L).length<=L.length * (M+1):=by
    intro L
    induction L with
    | nil=>intro _;simp [Lib.joinTail]
    | cons y L bA=>
      intro h;have:=bA (fun x ar=>h x (anJ _ ar));have bc:=h y (anV ..);have e:Lib.joinTail [32] (y::L)=(32::y)++Lib.joinTail [32] L:=by simp [Lib.joinTail]
      rw [e,amZ,am0,am0,an0];omega
   have:=aE L (fun x ar=>h x (anJ _ ar));have ar:=h x (anV ..);rw [am0,an0];omega
theorem S0 {w:bq} (h:w.may=true) (aM:w.text.length<=50000):w.out.length<=200002:=by
 unfold bq.out jj
 split
 . rename_i ay;unfold bq.may jc at h;rw [anb ay] at h;simp only [amX,ane] at h;have:=Lib.itoa_length_le (if w.num<0 then w.num+2147483648 else w.num) (by split<;>omega) (by split<;>omega);omega
 . split
   . unfold qH;have:=Ku w.text;simp only [am0,amZ,am8];omega
   . split
     . simp only [am0];omega
     . omega
theorem alf (v0:V) (ws:List bq) (h:ah) (H:e9 h 4 v0 ws.length (kY ws)) (ax:ws.length<=10000) (aE:∀w ∈ ws,w.text.length<=50000):
 b' Tryz.prog 19 [v0] h fun x aa=>x=.tuple [.str (hT ws).1,.int .i64 (hT ws).2]/\Ext h aa:=by
 refine Xh.z rfl (cp ?_);unfold MX;simp only [H.len,↓ab,ae,simprocAttr]
 refine fS (fun r aa=>∃(i:Nat) (v:V),r 4=v/\r 8=v0/\r 9=.int .i64 ws.length/\r 10=.int .i64 i/\i<=ws.length/\((ws.take i).all bq.may=true)/\
  c_ h.next aa 1 v i (ea ((ws.take i).map bq.out))/\Ext h aa) (fun r aa=>ws.length - (r 10).toN) ?_ ?_
 . refine ⟨0,.cc,by simp only [↓ab,ae,simprocAttr],by simp only [↓ab,ae,simprocAttr],by simp only [↓ab,ae,simprocAttr],by simp only [↓ab,ae,simprocAttr]<;>rfl,by omega,rfl,⟨by simp [ea],by simp⟩,Ext.refl _⟩
 . rintro r aa ⟨i,v,dN,eg,iS,ih,au,du,bB,ar⟩;unfold MY;by_cases aL:i<ws.length
   . have g0:((i:Int) < (ws.length:Int))=True:=am_ (by omega);obtain ⟨b8,dc,hP,dp⟩:=(H.ext ar).dG (k:=.i64) aL;have eA:=dp.ka (i:=i * 4) (n:=4) (by rw [F'];omega);rw [F9 ws i aL] at eA;have w:IntKind.i64.wrap ((i:Int)+1)=((i+1:Nat):Int):=by rw [wrap_i64 (by omega) (by omega)];rfl
     have Q1:=aE ws[i] (am3 aL);have rq:ws[i].may=jc ws[i].kind ws[i].num ws[i].text:=rfl;have kt:ws[i].out=jj ws[i].kind ws[i].num ws[i].text:=rfl;have IW:ws[i].may=false->hT ws=([],2):=by intro q;unfold hT;rw [am7];rw [anr];intro av;rw [av _ (am3 aL)] at q;cases q
     have rz:ws.take (i+1)=ws.take i++[ws[i]]:=(List.take_append_getElem aL).symm;unfold bq.enc at eA;generalize ws[i]=wd at *;obtain ⟨k,n,p,s⟩:=wd;simp only at *;simp only [dN,eg,iS,ih,g0,hP,eA,w,↓ab,ae,simprocAttr];have rD:Ext aa ((aa.new (.a_ [.int .i64 0,.int .i64 0,.int .i64 0,.str []] 0 false)).set (aC aa.next) (.a_ [.int .i64 k,.int .i64 n,.int .i64 p,.str s] 0 false)):=((Ext.refl aa).new _).set (am6 _) _;have g1:((aa.new (.a_ [.int .i64 0,.int .i64 0,.int .i64 0,.str []] 0 false)).set (aC aa.next) (.a_ [.int .i64 k,.int .i64 n,.int .i64 p,.str s] 0 false)).get (aC aa.next)=.a_ [.int .i64 k,.int .i64 n,.int .i64 p,.str s] 0 false:=by rw [fm,anb rfl]
     have db:((aa.new (.a_ [.int .i64 0,.int .i64 0,.int .i64 0,.str []] 0 false)).set (aC aa.next) (.a_ [.int .i64 k,.int .i64 n,.int .i64 p,.str s] 0 false)).next=aa.next+1:=by rw [pG,gD]
     generalize ((aa.new (.a_ [.int .i64 0,.int .i64 0,.int .i64 0,.str []] 0 false)).set (aC aa.next) (.a_ [.int .i64 k,.int .i64 n,.int .i64 p,.str s] 0 false))=H1 at rD g1 db ⊢;refine bw (agO k n p s (by omega) H1) ?_;rintro x ad ⟨rfl,fH⟩;have g2:ad.get (aC aa.next)=.a_ [.int .i64 k,.int .i64 n,.int .i64 p,.str s] 0 false:=by rw [fH.get _ (hB (by omega)),g1]
     have o1:Ext h ad:=(ar.trans rD).trans fH;have tW:=(bB.ext rD).ext fH;cases hm:jc k n s with
     | false=>
       simp only [↓ab,ae,simprocAttr];rw [IW (rq.trans hm)];exact ⟨rfl,o1⟩
     | true=>
       have on:∀aD,Ext ad aD->∃cI bn,iY 1 v (.slice (aC aD.next) 0 1 1) (aD.new (.a_ [.str (jj k n s)] 0 false))=.val cI bn/\c_ h.next bn 1 cI (i+1) (ea ((ws.take (i+1)).map bq.out))/\Ext h bn:=by
        intro aD o0;have n_:=o1.trans o0;obtain ⟨cI,bn,ag,av,aI,bU,c8⟩:=xM (m:=1) (cs:=[.str (jj k n s)]) (by omega) (tW.ext o0) n_.next (by unfold top;omega) rfl rfl
        refine ⟨cI,bn,ag,?_,n_.lz aI (fun b aj=>bB.base aj)⟩;rw [rz,aor];unfold ea at av ⊢;rw [aor];simpa [kt] using av
       have vO:(ws.take (i+1)).all bq.may=true:=by rw [rz,an5,du];simp [rq,hm]
       by_cases J:k=1
       . subst J;rw [EY] at hm;simp only [amX,ane] at hm;have bF:=VV hm.1.2 hm.2;simp only [g2,bF,↓ab,ae,simprocAttr];refine ey (adJ (if n<0 then n+2147483648 else n) (by split<;>omega) (by split<;>omega) ad) ?_;obtain ⟨cI,bn,ag,av,aI⟩:=on ad (Ext.refl _);rw [show jj 1 n s=Lib.itoa (if n<0 then n+2147483648 else n) from rfl] at ag;simp only [dN,eg,iS,ih,ag,w,↓ab,ae,simprocAttr];exact ⟨⟨i+1,rfl,aL,vO,av,aI⟩,by omega⟩
       have bY:=am2 J;by_cases H2:k=2
       . subst H2;simp only [g2,↓ab,ae,simprocAttr];refine bw (aiO s (by omega) ad) ?_;rintro x aD ⟨rfl,o0⟩;obtain ⟨cI,bn,ag,av,aI⟩:=on aD o0;rw [show jj 2 n s=qH s from rfl] at ag;simp only [dN,eg,iS,ih,ag,w,↓ab,ae,simprocAttr];exact ⟨⟨i+1,rfl,aL,vO,av,aI⟩,by omega⟩
       have b_:=am2 H2;obtain ⟨cI,bn,ag,av,aI⟩:=on ad (Ext.refl _);by_cases b0:k=5
       . subst b0;have oW:(1+s.length<=17179869184)=True:=am_ (by omega);rw [show jj 5 n s=39::s from rfl] at ag;simp only [g2,oW,ang,anh,dN,eg,iS,ih,ag,w,↓ab,ae,simprocAttr];exact ⟨⟨i+1,rfl,aL,vO,av,aI⟩,by omega⟩
       . have fI:=am2 b0;rw [show jj k n s=s by unfold jj;rw [am7 J,am7 H2,am7 b0]] at ag;simp only [g2,bY,b_,fI,dN,eg,iS,ih,ag,w,↓ab,ae,simprocAttr];exact ⟨⟨i+1,rfl,aL,vO,av,aI⟩,by omega⟩
   . have j9:i=ws.length:=by omega
     have g0:((i:Int) < (ws.length:Int))=False:=am2 (by omega);rw [j9,aox] at bB du;have hw:hT ws=(Lib.join (ws.map bq.out) [32],0):=by unfold hT;rw [anb du]
     have hlen:(ws.map bq.out).length=ws.length:=anc _;have IC:(Lib.join (ws.map bq.out) [32]).length<=10000000000:=by have:=adO 200002 (ws.map bq.out) (by intro x ar;obtain ⟨q,aq,rfl⟩:=List.mem_map.1 ar;exact S0 (anr.1 du _ aq) (aE _ aq));rw [hlen] at this;have ad:ws.length * 200003<=10000 * 200003:=anO _ ax;omega
     have tX:e9 aa 1 v (ws.map bq.out).length (ea (ws.map bq.out)):=by rw [hlen];exact bB.v
     simp only [dN,eg,iS,ih,g0,↓ab,ae,simprocAttr];refine ey (adN (ws.map bq.out) [32] v aa tX (by omega) IC) ?_;rw [hw];simp only [↓ab,ae,simprocAttr];exact ar
theorem V7 {s:List UInt8} (h:∀c ∈ s,c.toNat<128):uQ s=s.length:=by
 have ao:∀a,a<s.length->nT s a=1:=by
  intro a bF;have aZ:decodeL s a=((s[a]).toNat,1):=by unfold decodeL;rw [Lib.decode_at];simp only [PO,amY bF,aop];unfold Lib.decodeN;rw [anb (h _ (am3 bF))]
  unfold nT;rw [aZ,am7 (by have:=h _ (am3 bF);simp only [aoi,ao7];omega)]
 have:∀n a,s.length-a=n->a<=s.length->rU s a=s.length:=by
  intro n
  induction n with
  | zero=>intro a J ad;exact TR (by omega)
  | succ n bA=>
    intro a J ad;have aL:a<s.length:=by omega
    rw [KH aL (by rw [ao a aL];decide),ao a aL];exact bA _ (by omega) (by omega)
 exact this s.length 0 (by omega) (by omega)
theorem agF {s:List UInt8} (h:∀c ∈ s,c.toNat<128):l' s=if 65536<s.length then .error (3,0) else rN s 0:=by unfold l';rw [V7 h,am7 (aoj _)]
theorem ag0 {c:UInt8} (h:fw c=true):blank c=false/\c≠40:=by
 constructor
 . cases aj:blank c with
   | false=>rfl
   | true=>
     unfold blank at aj;simp only [aog,ane] at aj;rcases aj with ((rfl | rfl) | rfl) | rfl<;>exact absurd h (by decide)
 . rintro rfl;exact absurd h (by decide)
theorem ahu {c:UInt8} (h:c≠40) (r:List UInt8):([40,42]:List UInt8).isPrefixOf (c::r)=false:=by
 have:((40:UInt8) == c)=false:=by rw [aof];exact fun q=>h q.symm
 simp [List.isPrefixOf,this]
theorem Uc {c:UInt8} (h:g_ c.toNat=true):fR c=false/\c≠34:=by unfold g_ at h;simp only [amX,ane] at h;refine ⟨?_,by rintro rfl;exact absurd h (by decide)⟩;unfold fR nU;simp only [aoz,aoa];omega
theorem aaZ {c:UInt8} (h:nY c.toNat=true):fR c=false/\c≠34/\g_ c.toNat=false/\c≠95:=by
 unfold nY at h;simp only [amX,ane] at h;refine ⟨?_,by rintro rfl;exact absurd h (by decide),?_,by rintro rfl;exact absurd h (by decide)⟩
 . unfold fR nU;simp only [aoz,aoa];omega
 . unfold g_;simp only [aoz,aoa];omega
theorem J1 {k:Int} {s:List UInt8} (h:dB k s=true):s≠[]/\s.length<=64/\s.all fw=true/\(if k=3 then (lg s||s.head? == some 95)&&!decide (s=[95])&&!hn s else if k=4 then yl s else lg s)=true:=by unfold dB at h;rw [amX,amX,amX,ane,ane] at h;exact ⟨h.1.1.1,h.1.1.2,h.1.2,h.2⟩
theorem ahr {c:UInt8} {t:List UInt8} (h:g_ c.toNat=true\/c=95):hA (c::t)=kU 3 (c::t):=by
 have aZ:fR c=false:=h.elim (fun q=>(Uc q).1) (fun q=>by rw [q];decide);have sl:c≠34:=h.elim (fun q=>(Uc q).2) (fun q=>by rw [q];decide);have aM:(g_ c.toNat||decide (c=95))=true:=by simpa using h
 simp only [hA,aZ,aM,am7 sl,anm,anw,anz]
theorem V6 {c:UInt8} (h:fw c=true):c.toNat<128:=by unfold fw rM nU g_ nY at h;simp only [aog,amX,ane] at h;omega
theorem Uy {p:UInt8->Bool}:∀s:List UInt8,s.all p=true->s.takeWhile p=s
 | [],_=>rfl
 | c::s,h=>by rw [anX,amX] at h;rw [aoq,h.1,anb rfl,Uy s h.2]
theorem LK (p:UInt8->Bool):∀s:List UInt8,(s.takeWhile p).all p=true
 | []=>rfl
 | c::s=>by
   rw [aoq]
   split
   . rename_i h;rw [anX,h,LK p s];rfl
   . rfl
theorem JZ {k:Int} {c:UInt8} {r:List UInt8} {q:Int × Int × List UInt8 × Nat} (ay:(k=3/\(g_ c.toNat=true\/c=95))\/(k=4/\nY c.toNat=true)\/(k=5/\g_ c.toNat=true)) (h:kU k (c::r)=.ok q) (aq:q.1=3\/q.1=4\/q.1=5):
 q.1=k/\dB k q.2.2.1=true:=by
 have ax:fw c=true:=by
  rcases ay with ⟨_,q | q⟩ | ⟨_,q⟩ | ⟨_,q⟩
  . exact KO q
  . exact UE q
  . exact PS q
  . exact KO q
 have aE:(c::r).takeWhile fw=c::r.takeWhile fw:=by rw [aoq,anb ax]
 have bF:=LK fw (c::r);rw [aE] at bF;unfold kU at h;simp only [aE] at h;generalize r.takeWhile fw=t at *
 split at h
 . cases h;simp at aq
 . rename_i wk
   split at h
   . cases h;simp at aq
   . rename_i wm
     split at h
     . cases h
     . rename_i hlen;cases h;refine ⟨rfl,?_⟩;have l2:(if k=3 then (lg (c::t)||(c::t).head? == some 95)&&!decide (c::t=[95])&&!hn (c::t) else if k=4 then yl (c::t) else lg (c::t))=true:=by
        rcases ay with ⟨rfl,z⟩ | ⟨rfl,z⟩ | ⟨rfl,z⟩
        . rw [anb rfl];have J:(lg (c::t)||(c::t).head? == some 95)=true:=by
           rcases z with z | z
           . show (g_ c.toNat||_)=true;rw [z];rfl
           . subst z;simp
          rw [J,anL (fun z=>wk ⟨rfl,z⟩),Bool.eq_false_iff.2 (fun z=>wm ⟨rfl,z⟩)];rfl
        . exact z
        . exact z
       show dB k (c::t)=true;unfold dB;rw [l2,bF,anG (show c::t≠[] by simp),anG (show (c::t).length<=64 by omega)];rfl
theorem ahm {r:List UInt8} {q:Int × Int × List UInt8 × Nat} (h:hA r=.ok q) (aq:q.1=3\/q.1=4\/q.1=5):dB q.1 q.2.2.1=true:=by
 match r,h with
 | c::r,h=>
   simp only [hA] at h
   split at h
   . unfold za at h;simp only at h
     split at h
     . cases h
     . cases h;simp at aq
   . split at h
     . unfold tb at h
       split at h
       . cases h
       . split at h
         . cases h
         . cases h;simp at aq
     . split at h
       . rename_i aM;have:=JZ (.inl ⟨rfl,by simpa using aM⟩) h aq;rw [this.1];exact this.2
       . split at h
         . rename_i aM;have:=JZ (.inr (.inl ⟨rfl,aM⟩)) h aq;rw [this.1];exact this.2
         . split at h
           . rename_i aM;cases aX:kU 5 r with
             | error e=>rw [aX] at h;cases h
             | ok fy=>
               rw [aX] at h;cases h;obtain ⟨d,t,rfl⟩:∃d t,r=d::t:=by
                cases r with
                | nil=>simp [lg] at aM
                | cons d t=>exact ⟨d,t,rfl⟩
               have:=JZ (.inr (.inr ⟨rfl,aM.2⟩)) aX aq;show dB fy.1 fy.2.2.1=true;rw [this.1];exact this.2
           . unfold zv at h
             split at h
             . cases h;simp at aq
             . cases h
theorem BT:∀(f:Nat) (r:List UInt8) (p:Nat) (ws:List cb),oi f r p=.ok ws->∀w ∈ ws,w.kind=3\/w.kind=4\/w.kind=5->dB w.kind w.text=true
 | 0,r,p,ws,h,w,hw,_=>by simp only [oi,Except.ok.injEq] at h;subst h;cases hw
 | f+1,[],p,ws,h,w,hw,_=>by simp only [oi,Except.ok.injEq] at h;subst h;cases hw
 | f+1,c::r,p,ws,h,w,hw,ay=>by
   simp only [oi] at h
   split at h
   . exact BT f _ _ ws h w hw ay
   . split at h
     . split at h
       . cases h
       . exact BT f _ _ ws h w hw ay
     . split at h
       . cases h
       . rename_i q aX;cases aJ:oi f ((c::r).drop q.2.2.2) (p+q.2.2.2) with
         | error an=>rw [aJ] at h;cases h
         | ok b1=>
           rw [aJ] at h;simp only [AB,Except.ok.injEq] at h;subst h;rcases ans.1 hw with rfl | hw
           . exact ahm aX ay
           . exact BT f _ _ b1 aJ w hw ay
theorem ai3 {k:Int} {s:List UInt8} (ay:k=3\/k=4\/k=5) (h:dB k s=true):l' (if k=5 then 39::s else s)=.ok [⟨k,0,0,s⟩]:=by
 obtain ⟨g1,g2,g3,g4⟩:=J1 h;obtain ⟨c,t,rfl⟩:=List.exists_cons_of_ne_nil g1;have abu:∀d ∈ (if k=5 then 39::c::t else c::t),d.toNat<128:=by
  intro d aZ;have J:∀d ∈ c::t,d.toNat<128:=fun d aZ=>V6 (anr.1 g3 d aZ)
  split at aZ
  . rcases ans.1 aZ with rfl | aZ
    . decide
    . exact J d aZ
  . exact J d aZ
 rw [agF abu,am7 (by split<;>simp only [am0] at g2 ⊢<;>omega)];have ax:fw c=true:=by rw [anX,amX] at g3;exact g3.1
 obtain ⟨b8,cF⟩:=ag0 ax;have rd:∀j:Int,(j=3->c::t≠[95]/\hn (c::t)=false)->kU j (c::t)=.ok (j,0,c::t,(c::t).length):=by intro j bJ;unfold kU;simp only [Uy _ g3];rw [am7 (fun q=>(bJ q.1).1 q.2),am7 (fun q=>by rw [(bJ q.1).2] at q;simp at q),am7 (by omega)]
 have fin:∀(d:UInt8) (u:List UInt8) (q:Int × Int × List UInt8 × Nat),blank d=false->d≠40->hA (d::u)=.ok q->q.2.2.2=(d::u).length->rN (d::u) 0=.ok [⟨q.1,q.2.1,0,q.2.2.1⟩]:=by intro d u q an aN cv hh;rw [R6,an,am7 aon,ahu aN,am7 aon,cv];simp only [hh,aoZ];rfl
 rcases ay with rfl | rfl | rfl
 . rw [am7 (by decide)];rw [anb rfl] at g4;simp only [amX,an1,aoa,aog,aow] at g4;have bo:g_ c.toNat=true\/c=95:=g4.1.1.imp id (fun q=>an9 q);exact fin c t _ b8 cF (by rw [ahr bo];exact rd 3 (fun _=>⟨g4.1.2,g4.2⟩)) rfl
 . rw [am7 (by decide)];rw [am7 (by decide),anb rfl] at g4;have al:nY c.toNat=true:=g4;obtain ⟨db,mM,n3,n4⟩:=aaZ al;refine fin c t (4,0,c::t,(c::t).length) b8 cF ?_ rfl;simp only [hA,db,n3,al,am7 mM,anm,anw,anz,aoE,ane,am7 n4];exact rd 4 (fun q=>absurd q (by decide))
 . rw [anb rfl];rw [am7 (by decide),am7 (by decide)] at g4;refine fin 39 (c::t) (5,0,c::t,(c::t).length+1) (by decide) (by decide) ?_ rfl;simp only [hA];rw [am7 (by decide),am7 (by decide),am7 (by decide),am7 (by decide),anb ⟨trivial,g4⟩,rd 5 (fun q=>absurd q (by decide))];rfl
def tf (k:Int) (s:List UInt8):Bool:=decide (s.length<=64)&&decide (s≠[])&&(match l' (if k=5 then 39::s else s) with
 | .ok [w]=>decide (w.kind=k)&&decide (w.pos=0)&&decide (w.text≠[])&&decide ((if k=5 then 39::s else s)=(if w.kind=5 then 39::w.text else w.text))
 | _=>false)
theorem ak3 {k:Int} (ay:k=3\/k=4\/k=5) (s:List UInt8):tf k s=dB k s:=by
 rw [anT];refine ⟨fun h=>?_,fun h=>?_⟩
 . unfold tf at h;simp only [amX,ane] at h;obtain ⟨_,aD⟩:=h
   split at aD
   . rename_i w hw;simp only [amX,ane] at aD;obtain ⟨⟨⟨an,_⟩,_⟩,hh⟩:=aD;subst an;have aX:dB w.kind w.text=true:=by
      generalize (if w.kind=5 then 39::s else s)=z at hw;unfold l' at hw
      split at hw
      . cases hw
      . split at hw
        . cases hw
        . exact BT _ _ _ _ hw w (by simp) ay
     have:s=w.text:=by
      split at hh
      . exact (List.cons.inj hh).2
      . exact hh
     rw [this];exact aX
   . cases aD
 . obtain ⟨g1,g2,_,_⟩:=J1 h;unfold tf;rw [ai3 ay h];simp [g1,g2]
theorem OR (t:aS):t.deep=jU t.l+1:=by cases t;simp only [aS.deep,aS.l]
theorem size_eq (t:aS):t.size=1+gg t.l:=by cases t;simp only [aS.size,aS.l]
theorem S4:∀l m:List aS,jU (l++m)=max (jU l) (jU m)
 | [],m=>by simp [jU]
 | t::l,m=>by rw [ang,jU,jU,S4 l m,Nat.max_assoc]
theorem Th:∀l m:List aS,gg (l++m)=gg l+gg m
 | [],m=>by simp [gg]
 | t::l,m=>by rw [ang,gg,gg,Th l m,aod]
theorem take_one {l:List aS} {i:Nat} (h:i<l.length):l.take (i+1)=l.take i++[l[i]]:=by rw [List.take_succ_eq_append_getElem h]
theorem S5 {l:List aS} {i:Nat} (h:i<l.length):jU (l.take (i+1))=max (jU (l.take i)) l[i].deep:=by rw [take_one h,S4,jU,jU,Nat.max_zero]
mutual
theorem Zu:∀t:aS,t.deep<=t.size
 | .mk k n a s l=>by rw [aS.deep,aS.size];have:=Fl l;omega
theorem Fl:∀l:List aS,jU l<=gg l
 | []=>am6 _
 | t::l=>by rw [jU,gg];have:=Zu t;have:=Fl l;omega
end
theorem Tj (l:List aS) (i:Nat):gg (l.take i)<=gg l:=by have:=Th (l.take i) (l.drop i);rw [aoB] at this;omega
theorem Sj (a b:Nat):(if (a:Int) < (b:Int) then (b:Int) else (a:Int))=((max a b:Nat):Int):=by
 by_cases h:(a:Int) < (b:Int)
 . rw [anb h,Nat.max_eq_right (by omega)]
 . rw [am7 h,Nat.max_eq_left (by omega)]
theorem OW:∀(N:Nat) (t:aS),t.size<=N->N<=1000000000->∀(ai:List V) (h:ah),cj Any h t.enc ai->b' Tryz.prog 37 [.agg ai] h fun x aa=>x=.int .i64 (t.deep:Nat)/\Ext h aa
 | 0,t,aM,_,_,_,_=>by have:=w3 t;omega
 | N+1,t,aM,H9,ai,h,H=>by
   obtain ⟨e3,rfl,L,_⟩:=aS.open H;have aK:N<=1000000000:=by omega
   have ol:=L.one;have ax:=L.len;have hle:=L.le;rw [anc] at ax hle;refine Xt.z rfl (cp ?_);unfold Ng;obtain ⟨J,ag,an,aG⟩:=gb h [.int .i64 t.k,.int .i64 t.n,.int .i64 t.a,.str t.s,e3];simp only [ol.1,ol.2.1,ag,aG.g,ax,↓ab,ae,simprocAttr];refine fS (fun r g=>r 1=.ptr (aC h.next) 0/\r 7=e3/\r 8=.int .i64 t.l.length/\∃i:Nat,r 3=.int .i64 (jU (t.l.take i):Nat)/\r 9=.int .i64 i/\i<=t.l.length/\Ext J g) (fun r g=>t.l.length - (r 9).toN) ?_ ?_
   . exact ⟨by simp only [↓ab,cx,simprocAttr],by simp only [↓ab,cx,simprocAttr],by simp only [↓ab,cx,simprocAttr],0,by simp only [↓ab,cx,simprocAttr]<;>rfl,by simp only [↓ab,cx,simprocAttr]<;>rfl,by omega,Ext.refl J⟩
   rintro r g ⟨bT,hq,eg,i,bX,w_,au,E⟩;unfold Nh;have A:=aG.ext E;have k5:=L.ext (an.trans E);have lb:=Tj t.l i;have nn:=Fl (t.l.take i);have Ig:=size_eq t;by_cases aL:i<t.l.length
   . have g0:((i:Int) < (t.l.length:Int))=True:=am_ (by omega);obtain ⟨b,off,wl,dG,X,cN,ld⟩:=aS.EG k5 (k:=.i64) aL;have rK:=ld g (Ext.refl g);have lE:=cN.one;have dt:=jG aL (by unfold top at hle;omega);have cy:=h1 (t:=t) (am3 aL);obtain ⟨g1,fe,bk,B⟩:=jq g [.int .i64 0,.int .i64 0,.int .i64 0,.str [],.cc] [.int .i64 t.l[i].k,.int .i64 t.l[i].n,.int .i64 t.l[i].a,.str t.l[i].s,wl];simp only [bT,bX,hq,eg,w_,g0,dG,rK,fe,B.g,lE.1,lE.2.1,↓ab,ae,simprocAttr];refine bw (OW N t.l[i] (by omega) aK _ g1 (X.ext bk)) ?_;rintro x g2 ⟨rfl,aN⟩;have cv:=bk.trans aN;have hm:=Sj (jU (t.l.take i)) t.l[i].deep;rw [<-S5 aL] at hm;simp only [bT,bX,hq,eg,w_,dt,JY,hm,↓ab,ae,simprocAttr];exact ⟨⟨i+1,rfl,rfl,aL,E.trans cv⟩,by omega⟩
   . have g0:((i:Int) < (t.l.length:Int))=False:=am2 (by omega);rw [an3 (by omega)] at bX nn lb;have wd:IntKind.i64.wrap ((jU t.l:Int)+1)=((t.deep:Nat):Int):=by rw [OR,wrap_i64 (by omega) (by omega)];rfl
     simp only [bT,bX,hq,eg,w_,g0,wd,↓ab,ae,simprocAttr];exact an.trans E
theorem TB:∀(N:Nat) (t:aS),t.size<=N->N<=1000000000->∀(ai:List V) (h:ah),cj Any h t.enc ai->b' Tryz.prog 44 [.agg ai] h fun x aa=>x=.int .i64 (t.deep:Nat)/\Ext h aa
 | 0,t,aM,_,_,_,_=>by have:=w3 t;omega
 | N+1,t,aM,H9,ai,h,H=>by
   obtain ⟨e3,rfl,L,_⟩:=aS.open H;have aK:N<=1000000000:=by omega
   have ol:=L.one;have ax:=L.len;have hle:=L.le;rw [anc] at ax hle;refine XA.z rfl (cp ?_);unfold Ns;obtain ⟨J,ag,an,aG⟩:=gb h [.int .i64 t.k,.int .i64 t.n,.int .i64 t.a,.str t.s,e3];simp only [ol.1,ol.2.1,ag,aG.g,ax,↓ab,ae,simprocAttr];refine fS (fun r g=>r 1=.ptr (aC h.next) 0/\∃i:Nat,r 3=.int .i64 (jU (t.l.take i):Nat)/\r 4=.int .i64 i/\i<=t.l.length/\Ext J g) (fun r g=>t.l.length - (r 4).toN) ?_ ?_
   . exact ⟨by simp only [↓ab,cx,simprocAttr],0,by simp only [↓ab,cx,simprocAttr]<;>rfl,by simp only [↓ab,cx,simprocAttr]<;>rfl,by omega,Ext.refl J⟩
   rintro r g ⟨bT,i,bX,w_,au,E⟩;unfold Nt;have A:=aG.ext E;have k5:=L.ext (an.trans E);have lb:=Tj t.l i;have nn:=Fl (t.l.take i);have Ig:=size_eq t;by_cases aL:i<t.l.length
   . have g0:((i:Int) < (t.l.length:Int))=True:=am_ (by omega);obtain ⟨b,off,wl,dG,X,cN,ld⟩:=aS.EG k5 (k:=.i64) aL;have rK:=ld g (Ext.refl g);have lE:=cN.one;have dt:=jG aL (by unfold top at hle;omega);have cy:=h1 (t:=t) (am3 aL);simp only [bT,bX,w_,g0,A.g,ax,dG,rK,↓ab,ae,simprocAttr];refine bw (TB N t.l[i] (by omega) aK _ g X) ?_;rintro x g2 ⟨rfl,aN⟩;have cv:=aN;have hm:=Sj (jU (t.l.take i)) t.l[i].deep;rw [<-S5 aL] at hm;simp only [bT,bX,w_,dt,JY,hm,↓ab,ae,simprocAttr];exact ⟨⟨i+1,rfl,rfl,aL,E.trans cv⟩,by omega⟩
   . have g0:((i:Int) < (t.l.length:Int))=False:=am2 (by omega);rw [an3 (by omega)] at bX nn lb;have wd:IntKind.i64.wrap ((jU t.l:Int)+1)=((t.deep:Nat):Int):=by rw [OR,wrap_i64 (by omega) (by omega)];rfl
     simp only [bT,bX,A.g,ax,w_,g0,wd,↓ab,ae,simprocAttr];exact an.trans E
structure iF where
 first:List Int:=[]
 rest:Int:=0
 least:Int:=0
 lA:Int:=0
 last:List Int:=[]
 bO:Int:=0
 au:Int:=0
 s:Int:=0
def iF.enc (r:iF):List D:=[.l 1 (r.first.map bd.nV),.i .i64 r.rest,.i .i64 r.least,.i .i64 r.lA,.l 1 (r.last.map bd.nV),.i .i64 r.bO,.i .i64 r.au,.i .i64 r.s]
def s6:List (Int × iF):=
 [(1,{s:=3}),(2,{s:=1,rest:=1,lA:=64}),(3,{first:=[1,1]}),(4,{first:=[1,1]}),
  (10,{}),(13,{}),(11,{s:=1}),(12,{bO:=-1073741824,au:=1073741823}),(14,{au:=1}),(15,{first:=[2,2]}),(16,{s:=2,rest:=2,lA:=1}),
  (20,{bO:=-1073741824,au:=1073741823}),(21,{s:=4}),(22,{}),(23,{au:=1}),(24,{s:=1}),(25,{s:=2,rest:=3,lA:=1}),(26,{first:=[3,3]}),(28,{first:=[3,3]}),(35,{first:=[3,3]}),(37,{first:=[3,3]}),
  (38,{s:=5,first:=[3,3]}),(34,{first:=[3]}),(36,{first:=[3]}),(39,{first:=[3]}),(31,{first:=[3,3,3]}),(27,{first:=[2,3]}),(29,{first:=[2,3,3]}),
  (30,{rest:=5,least:=1,lA:=1073741824,last:=[3]}),(32,{first:=[3],rest:=4,least:=1,lA:=1073741824}),(33,{first:=[3],rest:=4,least:=1,lA:=1073741824}),
  (45,{first:=[2,3]}),(46,{s:=1,first:=[9]}),(47,{s:=2,rest:=1,lA:=1}),(51,{s:=2,rest:=1,lA:=1}),(52,{first:=[2,3]}),(53,{rest:=5,least:=1,lA:=1073741824}),
  (50,{s:=1,au:=64,rest:=6,least:=1,lA:=1073741824})]
def FQ:List (Int × List D):=s6.map fun x=>(x.1,x.2.enc)
set_option maxRecDepth 100000 in
theorem ajy:B' ctx 100000 34 (fun ao v=>zd ao 1000 FQ v)=true:=by kernel_rfl
theorem ajx (h:ah):b' Tryz.prog 34 [] h fun x aa=>Ext h aa/\kL (Db h) aa FQ x:=
 YR (C:=ctx) follows uA Ft (by kernel_rfl) (by kernel_rfl) ⟨_,Tryz.func34,by kernel_rfl⟩ ajy h
def fo (k:Int):Int:=if 1<=k/\k<=4 then 1 else if 10<=k/\k<=16 then 2 else if 20<=k/\k<=39 then 3 else if k=45 then 4 else if k=46 then 5 else if k=47 then 6 else if 50<=k/\k<=53 then 7 else 0
theorem RV {a b:Int} (h:a<=b):(a<=b)=True:=am_ h
theorem RU {a b:Int} (h:b<a):(a<=b)=False:=am2 (by omega)
theorem x' {a b:Int} (h:b<=a):(a>=b)=True:=am_ h
theorem AN {a b:Int} (h:a<b):(a>=b)=False:=am2 (by omega)
theorem Q9 {a b:Int} (h:a=b):(a=b)=True:=am_ h
theorem Q8 {a b:Int} (h:a<b\/b<a):(a=b)=False:=am2 (by omega)
theorem PT (k:Int) (h:ah):b' Tryz.prog 35 [.int .i64 k] h fun x aa=>x=.int .i64 (fo k)/\aa=h:=by
 refine Xr.z rfl (cp ?_);unfold Nc fo;have af:k<1\/(1<=k/\k<=4)\/(5<=k/\k<=9)\/(10<=k/\k<=16)\/(17<=k/\k<=19)\/(20<=k/\k<=39)\/(40<=k/\k<=44)\/k=45\/k=46\/k=47\/(48<=k/\k<=49)\/(50<=k/\k<=53)\/54<=k:=by omega
 rcases af with q | q | q | q | q | q | q | q | q | q | q | q | q<;>simp +contextual (disch:=omega) only [RV,RU,x',AN,Q9,Q8,ao7,apb,aoJ,ao6,anz,anw,↓ab,ae,simprocAttr]<;>trivial
theorem KG (k:Int) (h:ah):b' Tryz.prog 42 [.int .i64 k] h fun x aa=>x=.int .i64 (fo k)/\aa=h:=by
 refine Xy.z rfl (cp ?_);unfold Np fo;have af:k<1\/(1<=k/\k<=4)\/(5<=k/\k<=9)\/(10<=k/\k<=16)\/(17<=k/\k<=19)\/(20<=k/\k<=39)\/(40<=k/\k<=44)\/k=45\/k=46\/k=47\/(48<=k/\k<=49)\/(50<=k/\k<=53)\/54<=k:=by omega
 rcases af with q | q | q | q | q | q | q | q | q | q | q | q | q<;>simp +contextual (disch:=omega) only [RV,RU,x',AN,Q9,Q8,ao7,apb,aoJ,ao6,anz,anw,↓ab,ae,simprocAttr]<;>trivial
def ua (k g:Int):Bool:=if g=8 then decide (k=1) else if g=9 then decide (k=27) else decide (fo k=g)
theorem adF (t:aS) (g:Int) (ai:List V) (h:ah) (H:cj Any h t.enc ai):b' Tryz.prog 67 [.agg ai,.int .i64 g] h fun x aa=>x=.bool (ua t.k g)/\Ext h aa:=by
 obtain ⟨e3,rfl,L,_⟩:=aS.open H;have ol:=L.one;refine XT.z rfl (cp ?_);unfold NR ua;obtain ⟨J,ag,an,aG⟩:=gb h [.int .i64 t.k,.int .i64 t.n,.int .i64 t.a,.str t.s,e3];by_cases a:g=8
 . simp only [ol.1,ol.2.1,ag,aG.g,am_ a,anz,↓ab,ae,simprocAttr];exact an
 . by_cases b:g=9
   . simp only [ol.1,ol.2.1,ag,aG.g,am2 a,am_ b,anz,anw,↓ab,ae,simprocAttr];exact an
   . simp only [ol.1,ol.2.1,ag,aG.g,am2 a,am2 b,anw,↓ab,ae,simprocAttr];refine bw (PT t.k J) ?_;rintro x ad ⟨rfl,rfl⟩;simp only [↓ab,ae,simprocAttr];exact an
def zr (k:Int):List (Int × iF)->Option iF
 | []=>none
 | (n,r)::l=>if k=n then some r else zr k l
def pK (k:Int):Option iF:=zr k s6
theorem PA (k:Int):∀l:List (Int × iF),mK k (l.map fun x=>(x.1,x.2.enc))=(zr k l).map iF.enc
 | []=>rfl
 | (n,r)::l=>by
   simp only [anZ,mK,zr]
   split
   . rfl
   . exact PA k l
theorem aag (k:Int):mK k FQ=(pK k).map iF.enc:=PA k s6
def opsL:List (List UInt8):=[[43],[45],[42],[47],[109,111,100],[61],[60],[60,61]]
section
variable (named:Int->List UInt8->Bool)
def zB (oZ:Int) (s:List UInt8):Bool:=
 if oZ=1 then named 3 s else if oZ=2 then named 4 s else if oZ=3 then named 5 s else if oZ=4 then decide (s.length<=4096) else if oZ=5 then opsL.contains s else decide (s=[])
def firstM (r:iF) (k n:Int):List Int:=if k=50 then List.replicate n.toNat 8 else r.first
def hE (r:iF) (k n:Int) (len:Nat):Int:=(len:Int) - (firstM r k n).length-r.last.length
def oT (r:iF) (k n:Int) (len:Nat):List Int:=firstM r k n++List.replicate (hE r k n len).toNat r.rest++r.last
def A4 (r:iF) (k n a:Int) (s:List UInt8):Bool:=
 decide (r.bO<=n)&&decide (n<=r.au)&&decide (0<=a)&&decide (a<=65536)&&zB named r.s s
def lx (r:iF) (k n:Int) (len:Nat):Bool:=decide (r.least<=hE r k n len)&&decide (hE r k n len<=r.lA)
mutual
def aS.may:aS->Bool
 | .mk k n a s l=>match pK k with
   | none=>false
   | some r=>A4 named r k n a s&&lx r k n l.length&&ow (oT r k n l.length) l
def ow:List Int->List aS->Bool
 | _,[]=>true
 | [],_::_=>true
 | g::gs,t::l=>ua t.k g&&t.may&&ow gs l
end
def qK (k:Int) (s:List UInt8):Bool:=
 if k=1 then named 5 s else if k=2\/k=11\/k=24\/k=46\/k=50 then named 3 s else if k=16\/k=25\/k=47\/k=51 then named 4 s else
 if k=21 then decide (s.length<=4096) else if k=38 then opsL.contains s else decide (s=[])
def h2 (k n:Int) (len:Nat):Bool:=
 if k=12\/k=20 then decide (-1073741824<=n)&&decide (n<=1073741823) else if k=14\/k=23 then decide (n=0)||decide (n=1) else
 if k=50 then decide (0<=n)&&decide (n<=64)&&decide (n < (len:Int)) else decide (n=0)
def HP:List aS->Bool
 | t::_=>decide (t.k=27)
 | []=>false
def cL (k n:Int) (l:List aS):List Int × Bool:=
 let len:=l.length
 if k=2 then (List.replicate len 1,decide (len<=64))
 else if k=3\/k=4 then (List.replicate 2 1,decide (len=2))
 else if k=15 then (List.replicate 2 2,decide (len=2))
 else if k=16 then (List.replicate len 2,decide (len<=1))
 else if k=25 then (List.replicate len 3,decide (len<=1))
 else if k=26\/k=28\/k=35\/k=37\/k=38 then (List.replicate 2 3,decide (len=2))
 else if k=34\/k=36\/k=39 then (List.replicate 1 3,decide (len=1))
 else if k=31 then (List.replicate 3 3,decide (len=3))
 else if k=27\/k=45\/k=52 then ([2,3],decide (len=2))
 else if k=29 then ([2,3,3],decide (len=3))
 else if k=30 then (List.replicate (len-1) 5++[3],decide (2<=len))
 else if k=32\/k=33 then ([3]++List.replicate (len-1) 4,decide (2<=len))
 else if k=46 then (List.replicate 1 3,decide (len=1)&&HP l)
 else if k=47\/k=51 then (List.replicate len 1,decide (len<=1))
 else if k=50 then (List.replicate n.toNat 8++List.replicate (len-n.toNat) 6,true)
 else if k=53 then (List.replicate len 5,decide (1<=len))
 else ([],decide (len=0))
def iB (k g:Int):Bool:=if g=8 then decide (k=1) else decide (fo k=g)
mutual
def aS.jE:aS->Bool
 | .mk k n a s l=>decide (fo k≠0)&&qK named k s&&h2 k n l.length&&decide (0<=a)&&decide (a<=65536)&&(cL k n l).2&&kW (cL k n l).1 l
def kW:List Int->List aS->Bool
 | _,[]=>true
 | [],_::_=>true
 | g::gs,t::l=>iB t.k g&&t.jE&&kW gs l
end
end
theorem FP {k:Int} {r:iF}:∀{l:List (Int × iF)},zr k l=some r->(k,r) ∈ l
 | [],h=>by cases h
 | (n,q)::l,h=>by
   simp only [zr] at h
   split at h
   . cases h;rename_i e;subst e;simp
   . exact anJ _ (FP h)
theorem TY {k:Int} (h:pK k=none):fo k=0:=by
 by_cases ay:1<=k/\k<=53
 . obtain ⟨n,rfl⟩:=Int.eq_ofNat_of_zero_le (show 0<=k by omega);have key:∀n<54,(pK ((n:Nat):Int)).isNone=true->fo ((n:Nat):Int)=0:=by decide
   exact key n (by omega) (by rw [h];rfl)
 . unfold fo;rw [am7 (by omega),am7 (by omega),am7 (by omega),am7 (by omega),am7 (by omega),am7 (by omega),am7 (by omega)]
section
variable {named:Int->List UInt8->Bool}
theorem ajj {k g:Int} (h:g≠9):iB k g=ua k g:=by
 unfold iB ua;by_cases qb:g=8
 . rw [anb qb,anb qb]
 . rw [am7 qb,am7 qb,am7 h]
theorem S_:∀{gs:List Int} {l:List aS},(∀t ∈ l,t.jE named=t.may named)->(∀g ∈ gs,g≠9)->kW named gs l=ow named gs l
 | [],[],_,_=>by rw [kW,ow]
 | g::gs,[],_,_=>by rw [kW,ow]
 | [],t::l,_,_=>by rw [kW,ow]
 | g::gs,t::l,h,al=>by rw [kW,ow,h t (by simp),ajj (al g (by simp)),S_ (fun t aE=>h t (by simp [aE])) (fun g h=>al g (by simp [h]))]
theorem ag' {k n a:Int} {s:List UInt8} {l:List aS} {r:iF} (ay:fo k≠0) (a1:∀t ∈ l,t.jE named=t.may named) (aJ:pK k=some r)
 (J:qK named k s=zB named r.s s) (ad:(h2 k n l.length&&(cL k n l).2)=(decide (r.bO<=n)&&decide (n<=r.au)&&lx r k n l.length))
 (aD:lx r k n l.length=true->r.bO<=n->(cL k n l).1=oT r k n l.length) (yb:∀g ∈ oT r k n l.length,g≠9):(aS.mk k n a s l).jE named=(aS.mk k n a s l).may named:=by
 rw [aS.jE,aS.may,aJ];simp only;unfold A4;rw [anG ay,an2,J];cases cG:lx r k n l.length with
 | false=>
   rw [cG,aob] at ad;simp only [aob];have:(h2 k n l.length&&(cL k n l).2)=false:=ad;rw [aoz] at this;rcases this with q | q<;>rw [q]<;>simp
 | true=>
   rw [cG,anY] at ad;by_cases eE:r.bO<=n
   . rw [aD cG eE,S_ a1 yb];have:∀x y z w u v:Bool,(x&&y&&z&&w&&u&&v)=(x&&(y&&u)&&z&&w&&v):=by decide
     rw [this,ad];simp only [anY];have:∀x y z w u v:Bool,(x&&(y&&z)&&w&&u&&v)=(y&&z&&w&&u&&x&&v):=by decide
     rw [this]
   . rw [anL eE,anR] at ad;rw [anL eE];simp only [anR];rw [aoz] at ad;rcases ad with q | q<;>rw [q]<;>simp
theorem EZ:∀(N:Nat) (t:aS),t.size<=N->N<=1000000000->t.jE named=t.may named
 | 0,t,aM,_=>by have:=w3 t;omega
 | N+1,.mk k n a s l,aM,aK=>by
   have bK:l.length<=1000000000:=by have:=Fu l;simp only [aS.size] at aM;omega
   have a1:∀t ∈ l,t.jE named=t.may named:=fun t aE=>EZ N t (by have:=h1 (t:=.mk k n a s l) (u:=t) aE;omega) (by omega);cases aJ:pK k with
   | none=>
     rw [aS.jE,aS.may,aJ,TY aJ];simp
   | some r=>
     have hm:=FP (l:=s6) aJ;by_cases PZ:k=46
     . subst PZ;have:r={s:=1,first:=[9]}:=by
        have:pK 46=some {s:=1,first:=[9]}:=by rfl
        rw [aJ] at this;exact an9 this
       subst this;rw [aS.jE,aS.may,aJ];simp only;have an:qK named 46 s=zB named 1 s:=by rfl
       have aN:h2 46 n l.length=(decide (0<=n)&&decide (n<=0)):=by rw [anT];simp [h2];omega
       unfold A4;rw [an,aN,anG (show fo 46≠0 by decide)]
       match l,a1 with
       | [],_=>simp [cL,lx,hE,firstM]
       | [t],a1=>
         have al:oT {s:=1,first:=[9]} 46 n [t].length=[9]:=by simp [oT,firstM,hE]
         have vZ:cL 46 n [t]=([3],decide (t.k=27)):=by simp [cL,HP]
         rw [al,vZ,kW,ow,kW,ow,a1 t (by simp)];have cG:lx {s:=1,first:=[9]} 46 n [t].length=true:=by simp [lx,hE,firstM]
         rw [cG];have au:ua t.k 9=decide (t.k=27):=by simp [ua]
         rw [au];by_cases H3:t.k=27
         . rw [anG H3];have:iB t.k 3=true:=by rw [H3];decide
           rw [this];have:∀x y z w u v:Bool,(true&&x&&(y&&z)&&w&&u&&true&&(true&&v&&true))=(y&&z&&w&&u&&x&&true&&(true&&v&&true)):=by decide
           apply this
         . rw [anL H3];simp
       | t::u::l,_=>
         have J:(cL 46 n (t::u::l)).2=false:=by simp [cL]
         have ad:lx {s:=1,first:=[9]} 46 n (t::u::l).length=false:=by simp [lx,hE,firstM]
         rw [J,ad];simp
     . simp only [s6,ans,aoi,List.not_mem_nil,aoN] at hm;rcases hm with h | h | h | h | h | h | h | h | h | h | h | h | h | h | h | h | h | h | h | h | h | h | h | h | h | h | h | h | h | h | h | h | h | h | h | h | h | h<;>
       obtain ⟨rfl,rfl⟩:=h<;>first | (exact absurd rfl PZ) | skip
       all_goals
        refine ag' (by decide) a1 aJ (by rfl) ?_ ?_ ?_
        . rw [anT];simp [h2,cL,lx,hE,firstM]
          try omega
        . intro cG eE;simp [cL,lx,hE,firstM,oT] at cG eE ⊢
          try omega
        . simp [oT,firstM,hE]
          try (intro g al;omega)
end
end
end Go.Proofs.YtefceblncmdkhaaGreatDoor
