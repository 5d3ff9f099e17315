/- The chapter's functions, walked by the abstract machine: plain lemmas, no condition. Printed by a program from longer texts: names made short. -/
import Derived.Test.YtkehcalakofigaaGreatDoorM8
import Derived.Test.YtkehcalakofigaaGreatDoorM9
import Derived.Test.YtkehcalakofigaaGreatDoorM6
import Derived.Shelf.Unicode.Decode
import Derived.Shelf.Unicode.DecodeSlow
import Derived.Shelf.Unicode.DecodeAny
import Derived.Shelf.Strconv.Atoi
import Derived.Shelf.Pu.ParseUintPublic10
import Derived.Lib.LaidU8T
import Derived.Test.YtkehcalakofigaaGreatDoorM7
set_option linter.unusedSectionVars false
set_option linter.unusedSimpArgs false
set_option linter.unusedVariables false
namespace Go.Proofs.YtkehcalakofigaaGreatDoor
open Go aS
theorem W2:Extern.findNext Tryz.f114=none:=by kernel_rfl
theorem W1:(Extern.find Tryz.f114)=some Extern.BytealgIndexByte.indexByte:=by kernel_rfl
theorem aaj (s:List UInt8) (c:Int) (h:af):eS Tryz.prog 114 [.str s,.int .u8 c] h (.int .i64 (Lib.indexByte s c.toNat.toUInt8)) h:=
 aam (by decide) Tryz.func114 (by kernel_rfl) (by kernel_rfl) W2 W1 s c h
theorem aai (s:List UInt8) (c:Int) (h:af):eS Tryz.prog 103 [.str s,.int .u8 c] h (.int .i64 (Lib.indexByte s c.toNat.toUInt8)) h:=by
 refine oI (S9 rfl (dt ?_))
 unfold DD
 simp +contextual only [↓aw,aJ,simprocAttr]
 refine gp (aaj _ _ _) ?_
 simp +contextual only [↓aw,aJ,simprocAttr]
theorem M4 (s:List UInt8) (c:Int) (h:af):eS Tryz.prog 92 [.str s,.int .u8 c] h (.int .i64 (Lib.indexByte s c.toNat.toUInt8)) h:=by
 refine oI (Ve rfl (dt ?_))
 unfold Ej
 simp +contextual only [↓aw,aJ,simprocAttr]
 refine gp (aai _ _ _) ?_
 simp +contextual only [↓aw,aJ,simprocAttr]
end Go.Proofs.YtkehcalakofigaaGreatDoor
namespace Go.Proofs.YtkehcalakofigaaGreatDoor
open Go Go.Shelf
def Tryz.acL:Go.Shelf.Ren:=⟨fun | 197=>102 | 260=>113 | n=>n,fun | 9=>9 | 21=>21 | 3=>3 | 4=>4 | 5=>5 | 105=>128 | 119=>141 | 0=>0 | 46=>80 | 139=>144 | 138=>143 | n=>n,fun | 3=>0 | 4=>1 | n=>n⟩
theorem Tryz.acK:Go.Proofs.Lays.n197 Tryz.prog Tryz.acL:={
 mixed:=by kernel_rfl,
 f197:=Tryz.func102.trans (congrArg some (by kernel_rfl)),
 f260:=Tryz.func113.trans (congrArg some (by kernel_rfl)),
 t0:=Tryz.underlying0,
 a0:=Tryz.isAgg0,
 z0:=Tryz.sizeOf0,
 v0:=Tryz.zeroValue0,
 t3:=Tryz.underlying3,
 a3:=Tryz.isAgg3,
 z3:=Tryz.sizeOf3,
 v3:=Tryz.zeroValue3,
 t4:=Tryz.underlying4,
 a4:=Tryz.isAgg4,
 z4:=Tryz.sizeOf4,
 v4:=Tryz.zeroValue4,
 t5:=Tryz.underlying5,
 a5:=Tryz.isAgg5,
 z5:=Tryz.sizeOf5,
 v5:=Tryz.zeroValue5,
 t9:=Tryz.underlying9,
 a9:=Tryz.isAgg9,
 z9:=Tryz.sizeOf9,
 v9:=Tryz.zeroValue9,
 t21:=Tryz.underlying21,
 a21:=Tryz.isAgg21,
 z21:=Tryz.sizeOf21,
 v21:=Tryz.zeroValue21,
 t46:=Tryz.underlying80,
 a46:=Tryz.isAgg80,
 z46:=Tryz.sizeOf80,
 v46:=Tryz.zeroValue80,
 t105:=Tryz.underlying128,
 a105:=Tryz.isAgg128,
 z105:=Tryz.sizeOf128,
 v105:=Tryz.zeroValue128,
 t119:=Tryz.underlying141,
 a119:=Tryz.isAgg141,
 z119:=Tryz.sizeOf141,
 t138:=Tryz.underlying143,
 a138:=Tryz.isAgg143,
 z138:=Tryz.sizeOf143,
 v138:=Tryz.zeroValue143,
 t139:=Tryz.underlying144,
 a139:=Tryz.isAgg144,
 z139:=Tryz.sizeOf144,
 v139:=Tryz.zeroValue144,
 g3:=by kernel_rfl,
 g4:=by kernel_rfl}
def Tryz.acJ:Go.Shelf.Ren:=⟨fun | 172=>123 | 244=>131 | 245=>122 | 247=>136 | 279=>127 | 280=>128 | 281=>129 | 282=>130 | 287=>121 | 316=>133 | 171=>135 | 205=>134 | 321=>125 | 322=>126 | 243=>140 | 246=>142 | 283=>143 | 284=>144 | 285=>145 | 286=>146 | 129=>90 | 317=>147 | 318=>148 | 319=>149 | 320=>150 | 337=>151 | 338=>152 | n=>n,fun | 9=>9 | 3=>3 | 75=>135 | 76=>146 | 4=>4 | 5=>5 | 167=>149 | 37=>139 | 0=>0 | 85=>159 | 2=>2 | 168=>151 | 53=>100 | 175=>136 | 46=>80 | 210=>156 | 127=>161 | 145=>164 | 143=>162 | 21=>21 | 171=>167 | 173=>169 | 212=>172 | 51=>97 | 20=>20 | 213=>173 | 232=>175 | 233=>176 | 80=>177 | n=>n,fun | 15=>3 | 16=>4 | 17=>5 | 18=>6 | 19=>7 | n=>n⟩
theorem Tryz.acI:Go.Proofs.Lays.n172 Tryz.prog Tryz.acJ:={
 mixed:=by kernel_rfl,
 f129:=Tryz.func90.trans (congrArg some (by kernel_rfl)),
 f171:=Tryz.func135.trans (congrArg some (by kernel_rfl)),
 f172:=Tryz.func123.trans (congrArg some (by kernel_rfl)),
 f205:=Tryz.func134.trans (congrArg some (by kernel_rfl)),
 f243:=Tryz.func140.trans (congrArg some (by kernel_rfl)),
 f244:=Tryz.func131.trans (congrArg some (by kernel_rfl)),
 f245:=Tryz.func122.trans (congrArg some (by kernel_rfl)),
 f246:=Tryz.func142.trans (congrArg some (by kernel_rfl)),
 f247:=Tryz.func136.trans (congrArg some (by kernel_rfl)),
 f279:=Tryz.func127.trans (congrArg some (by kernel_rfl)),
 f280:=Tryz.func128.trans (congrArg some (by kernel_rfl)),
 f281:=Tryz.func129.trans (congrArg some (by kernel_rfl)),
 f282:=Tryz.func130.trans (congrArg some (by kernel_rfl)),
 f283:=Tryz.func143.trans (congrArg some (by kernel_rfl)),
 f284:=Tryz.func144.trans (congrArg some (by kernel_rfl)),
 f285:=Tryz.func145.trans (congrArg some (by kernel_rfl)),
 f286:=Tryz.func146.trans (congrArg some (by kernel_rfl)),
 f287:=Tryz.func121.trans (congrArg some (by kernel_rfl)),
 f316:=Tryz.func133.trans (congrArg some (by kernel_rfl)),
 f317:=Tryz.func147.trans (congrArg some (by kernel_rfl)),
 f318:=Tryz.func148.trans (congrArg some (by kernel_rfl)),
 f319:=Tryz.func149.trans (congrArg some (by kernel_rfl)),
 f320:=Tryz.func150.trans (congrArg some (by kernel_rfl)),
 f321:=Tryz.func125.trans (congrArg some (by kernel_rfl)),
 f322:=Tryz.func126.trans (congrArg some (by kernel_rfl)),
 f337:=Tryz.func151.trans (congrArg some (by kernel_rfl)),
 f338:=Tryz.func152.trans (congrArg some (by kernel_rfl)),
 t0:=Tryz.underlying0,
 a0:=Tryz.isAgg0,
 z0:=Tryz.sizeOf0,
 v0:=Tryz.zeroValue0,
 t2:=Tryz.underlying2,
 a2:=Tryz.isAgg2,
 z2:=Tryz.sizeOf2,
 v2:=Tryz.zeroValue2,
 t3:=Tryz.underlying3,
 a3:=Tryz.isAgg3,
 z3:=Tryz.sizeOf3,
 v3:=Tryz.zeroValue3,
 t4:=Tryz.underlying4,
 a4:=Tryz.isAgg4,
 z4:=Tryz.sizeOf4,
 v4:=Tryz.zeroValue4,
 t5:=Tryz.underlying5,
 a5:=Tryz.isAgg5,
 z5:=Tryz.sizeOf5,
 v5:=Tryz.zeroValue5,
 t9:=Tryz.underlying9,
 a9:=Tryz.isAgg9,
 z9:=Tryz.sizeOf9,
 v9:=Tryz.zeroValue9,
 t20:=Tryz.underlying20,
 a20:=Tryz.isAgg20,
 z20:=Tryz.sizeOf20,
 v20:=Tryz.zeroValue20,
 t21:=Tryz.underlying21,
 a21:=Tryz.isAgg21,
 z21:=Tryz.sizeOf21,
 v21:=Tryz.zeroValue21,
 t37:=Tryz.underlying139,
 a37:=Tryz.isAgg139,
 z37:=Tryz.sizeOf139,
 v37:=Tryz.zeroValue139,
 t46:=Tryz.underlying80,
 a46:=Tryz.isAgg80,
 z46:=Tryz.sizeOf80,
 v46:=Tryz.zeroValue80,
 t51:=Tryz.underlying97,
 a51:=Tryz.isAgg97,
 z51:=Tryz.sizeOf97,
 v51:=Tryz.zeroValue97,
 t53:=Tryz.underlying100,
 a53:=Tryz.isAgg100,
 z53:=Tryz.sizeOf100,
 v53:=Tryz.zeroValue100,
 t75:=Tryz.underlying135,
 a75:=Tryz.isAgg135,
 z75:=Tryz.sizeOf135,
 v75:=Tryz.zeroValue135,
 t76:=Tryz.underlying146,
 a76:=Tryz.isAgg146,
 z76:=Tryz.sizeOf146,
 v76:=Tryz.zeroValue146,
 t85:=Tryz.underlying159,
 a85:=Tryz.isAgg159,
 z85:=Tryz.sizeOf159,
 v85:=Tryz.zeroValue159,
 t127:=Tryz.underlying161,
 a127:=Tryz.isAgg161,
 z127:=Tryz.sizeOf161,
 v127:=Tryz.zeroValue161,
 t143:=Tryz.underlying162,
 a143:=Tryz.isAgg162,
 z143:=Tryz.sizeOf162,
 v143:=Tryz.zeroValue162,
 t145:=Tryz.underlying164,
 a145:=Tryz.isAgg164,
 z145:=Tryz.sizeOf164,
 v145:=Tryz.zeroValue164,
 t167:=Tryz.underlying149,
 a167:=Tryz.isAgg149,
 z167:=Tryz.sizeOf149,
 v167:=Tryz.zeroValue149,
 t168:=Tryz.underlying151,
 a168:=Tryz.isAgg151,
 z168:=Tryz.sizeOf151,
 v168:=Tryz.zeroValue151,
 t171:=Tryz.underlying167,
 a171:=Tryz.isAgg167,
 z171:=Tryz.sizeOf167,
 v171:=Tryz.zeroValue167,
 t173:=Tryz.underlying169,
 a173:=Tryz.isAgg169,
 z173:=Tryz.sizeOf169,
 v173:=Tryz.zeroValue169,
 t175:=Tryz.underlying136,
 a175:=Tryz.isAgg136,
 z175:=Tryz.sizeOf136,
 v175:=Tryz.zeroValue136,
 t210:=Tryz.underlying156,
 a210:=Tryz.isAgg156,
 z210:=Tryz.sizeOf156,
 v210:=Tryz.zeroValue156,
 t212:=Tryz.underlying172,
 a212:=Tryz.isAgg172,
 z212:=Tryz.sizeOf172,
 v212:=Tryz.zeroValue172,
 t213:=Tryz.underlying173,
 a213:=Tryz.isAgg173,
 z213:=Tryz.sizeOf173,
 t232:=Tryz.underlying175,
 a232:=Tryz.isAgg175,
 z232:=Tryz.sizeOf175,
 v232:=Tryz.zeroValue175,
 t233:=Tryz.underlying176,
 a233:=Tryz.isAgg176,
 z233:=Tryz.sizeOf176,
 v233:=Tryz.zeroValue176,
 g15:=by kernel_rfl,
 g16:=by kernel_rfl,
 g17:=by kernel_rfl,
 g18:=by kernel_rfl,
 g19:=by kernel_rfl}
def Tryz.GV:Go.Shelf.Ren:=⟨fun | 14=>116 | 16=>121 | 17=>122 | 19=>125 | 20=>126 | 21=>127 | 22=>128 | 23=>129 | 24=>130 | 25=>133 | 27=>135 | 26=>134 | 28=>140 | 29=>142 | 30=>143 | 31=>144 | 32=>145 | 33=>146 | 35=>90 | 34=>147 | 36=>148 | 37=>149 | 38=>150 | 39=>151 | 40=>152 | n=>n,fun | 9=>9 | 3=>3 | 22=>100 | 24=>135 | 25=>136 | 4=>4 | 34=>149 | 5=>5 | 36=>80 | 37=>139 | 0=>0 | 39=>151 | 21=>21 | 44=>156 | 47=>161 | 50=>164 | 48=>162 | 2=>2 | 52=>167 | 55=>169 | 59=>172 | 60=>97 | 20=>20 | 61=>173 | 65=>175 | 66=>176 | 67=>177 | n=>n,fun | 0=>3 | 1=>4 | 2=>5 | 3=>6 | 4=>7 | n=>n⟩
theorem Tryz.Nr:Go.Proofs.LaysPu.n14 Tryz.prog Tryz.GV:={
 mixed:=by kernel_rfl,
 f14:=Tryz.func116.trans (congrArg some (by kernel_rfl)),
 f16:=Tryz.func121.trans (congrArg some (by kernel_rfl)),
 f17:=Tryz.func122.trans (congrArg some (by kernel_rfl)),
 f19:=Tryz.func125.trans (congrArg some (by kernel_rfl)),
 f20:=Tryz.func126.trans (congrArg some (by kernel_rfl)),
 f21:=Tryz.func127.trans (congrArg some (by kernel_rfl)),
 f22:=Tryz.func128.trans (congrArg some (by kernel_rfl)),
 f23:=Tryz.func129.trans (congrArg some (by kernel_rfl)),
 f24:=Tryz.func130.trans (congrArg some (by kernel_rfl)),
 f25:=Tryz.func133.trans (congrArg some (by kernel_rfl)),
 f26:=Tryz.func134.trans (congrArg some (by kernel_rfl)),
 f27:=Tryz.func135.trans (congrArg some (by kernel_rfl)),
 f28:=Tryz.func140.trans (congrArg some (by kernel_rfl)),
 f29:=Tryz.func142.trans (congrArg some (by kernel_rfl)),
 f30:=Tryz.func143.trans (congrArg some (by kernel_rfl)),
 f31:=Tryz.func144.trans (congrArg some (by kernel_rfl)),
 f32:=Tryz.func145.trans (congrArg some (by kernel_rfl)),
 f33:=Tryz.func146.trans (congrArg some (by kernel_rfl)),
 f34:=Tryz.func147.trans (congrArg some (by kernel_rfl)),
 f35:=Tryz.func90.trans (congrArg some (by kernel_rfl)),
 f36:=Tryz.func148.trans (congrArg some (by kernel_rfl)),
 f37:=Tryz.func149.trans (congrArg some (by kernel_rfl)),
 f38:=Tryz.func150.trans (congrArg some (by kernel_rfl)),
 f39:=Tryz.func151.trans (congrArg some (by kernel_rfl)),
 f40:=Tryz.func152.trans (congrArg some (by kernel_rfl)),
 t0:=Tryz.underlying0,
 a0:=Tryz.isAgg0,
 z0:=Tryz.sizeOf0,
 v0:=Tryz.zeroValue0,
 i0:=by kernel_rfl,
 t2:=Tryz.underlying2,
 a2:=Tryz.isAgg2,
 z2:=Tryz.sizeOf2,
 v2:=Tryz.zeroValue2,
 i2:=by kernel_rfl,
 t3:=Tryz.underlying3,
 a3:=Tryz.isAgg3,
 z3:=Tryz.sizeOf3,
 v3:=Tryz.zeroValue3,
 i3:=by kernel_rfl,
 t4:=Tryz.underlying4,
 a4:=Tryz.isAgg4,
 z4:=Tryz.sizeOf4,
 v4:=Tryz.zeroValue4,
 i4:=by kernel_rfl,
 t5:=Tryz.underlying5,
 a5:=Tryz.isAgg5,
 z5:=Tryz.sizeOf5,
 v5:=Tryz.zeroValue5,
 i5:=by kernel_rfl,
 t9:=Tryz.underlying9,
 a9:=Tryz.isAgg9,
 z9:=Tryz.sizeOf9,
 v9:=Tryz.zeroValue9,
 i9:=by kernel_rfl,
 t20:=Tryz.underlying20,
 a20:=Tryz.isAgg20,
 z20:=Tryz.sizeOf20,
 v20:=Tryz.zeroValue20,
 i20:=by kernel_rfl,
 t21:=Tryz.underlying21,
 a21:=Tryz.isAgg21,
 z21:=Tryz.sizeOf21,
 v21:=Tryz.zeroValue21,
 i21:=by kernel_rfl,
 t22:=Tryz.underlying100,
 a22:=Tryz.isAgg100,
 z22:=Tryz.sizeOf100,
 v22:=Tryz.zeroValue100,
 i22:=by kernel_rfl,
 t24:=Tryz.underlying135,
 a24:=Tryz.isAgg135,
 z24:=Tryz.sizeOf135,
 v24:=Tryz.zeroValue135,
 i24:=by kernel_rfl,
 t25:=Tryz.underlying136,
 a25:=Tryz.isAgg136,
 z25:=Tryz.sizeOf136,
 v25:=Tryz.zeroValue136,
 i25:=by kernel_rfl,
 t34:=Tryz.underlying149,
 a34:=Tryz.isAgg149,
 z34:=Tryz.sizeOf149,
 v34:=Tryz.zeroValue149,
 i34:=by kernel_rfl,
 c34:=by kernel_rfl,
 t36:=Tryz.underlying80,
 a36:=Tryz.isAgg80,
 z36:=Tryz.sizeOf80,
 v36:=Tryz.zeroValue80,
 i36:=by kernel_rfl,
 t37:=Tryz.underlying139,
 a37:=Tryz.isAgg139,
 z37:=Tryz.sizeOf139,
 v37:=Tryz.zeroValue139,
 i37:=by kernel_rfl,
 t39:=Tryz.underlying151,
 a39:=Tryz.isAgg151,
 z39:=Tryz.sizeOf151,
 v39:=Tryz.zeroValue151,
 i39:=by kernel_rfl,
 t44:=Tryz.underlying156,
 a44:=Tryz.isAgg156,
 z44:=Tryz.sizeOf156,
 v44:=Tryz.zeroValue156,
 i44:=by kernel_rfl,
 t47:=Tryz.underlying161,
 a47:=Tryz.isAgg161,
 z47:=Tryz.sizeOf161,
 v47:=Tryz.zeroValue161,
 i47:=by kernel_rfl,
 t48:=Tryz.underlying162,
 a48:=Tryz.isAgg162,
 z48:=Tryz.sizeOf162,
 v48:=Tryz.zeroValue162,
 i48:=by kernel_rfl,
 t50:=Tryz.underlying164,
 a50:=Tryz.isAgg164,
 z50:=Tryz.sizeOf164,
 v50:=Tryz.zeroValue164,
 i50:=by kernel_rfl,
 t52:=Tryz.underlying167,
 a52:=Tryz.isAgg167,
 z52:=Tryz.sizeOf167,
 v52:=Tryz.zeroValue167,
 i52:=by kernel_rfl,
 t55:=Tryz.underlying169,
 a55:=Tryz.isAgg169,
 z55:=Tryz.sizeOf169,
 v55:=Tryz.zeroValue169,
 i55:=by kernel_rfl,
 t59:=Tryz.underlying172,
 a59:=Tryz.isAgg172,
 z59:=Tryz.sizeOf172,
 v59:=Tryz.zeroValue172,
 i59:=by kernel_rfl,
 t60:=Tryz.underlying97,
 a60:=Tryz.isAgg97,
 z60:=Tryz.sizeOf97,
 v60:=Tryz.zeroValue97,
 i60:=by kernel_rfl,
 t61:=Tryz.underlying173,
 a61:=Tryz.isAgg173,
 z61:=Tryz.sizeOf173,
 t65:=Tryz.underlying175,
 a65:=Tryz.isAgg175,
 z65:=Tryz.sizeOf175,
 v65:=Tryz.zeroValue175,
 i65:=by kernel_rfl,
 t66:=Tryz.underlying176,
 a66:=Tryz.isAgg176,
 z66:=Tryz.sizeOf176,
 v66:=Tryz.zeroValue176,
 i66:=by kernel_rfl,
 t67:=Tryz.underlying177,
 a67:=Tryz.isAgg177,
 z67:=Tryz.sizeOf177,
 v67:=Tryz.zeroValue177,
 i67:=by kernel_rfl,
 g0:=by kernel_rfl,
 m0:=by kernel_rfl,
 g1:=by kernel_rfl,
 m1:=by kernel_rfl,
 g2:=by kernel_rfl,
 m2:=by kernel_rfl,
 g3:=by kernel_rfl,
 m3:=by kernel_rfl,
 g4:=by kernel_rfl,
 m4:=by kernel_rfl}
def Tryz.x4:Go.Shelf.Ren:=⟨fun | 260=>113 | n=>n,fun | 9=>9 | 21=>21 | 3=>3 | 4=>4 | 5=>5 | 119=>141 | 0=>0 | 46=>80 | 139=>144 | 138=>143 | n=>n,fun | 3=>0 | 4=>1 | n=>n⟩
theorem Tryz.acM:Go.Proofs.Lays.n260 Tryz.prog Tryz.x4:={
 mixed:=by kernel_rfl,
 f260:=Tryz.func113.trans (congrArg some (by kernel_rfl)),
 t0:=Tryz.underlying0,
 a0:=Tryz.isAgg0,
 z0:=Tryz.sizeOf0,
 v0:=Tryz.zeroValue0,
 t3:=Tryz.underlying3,
 a3:=Tryz.isAgg3,
 z3:=Tryz.sizeOf3,
 v3:=Tryz.zeroValue3,
 t4:=Tryz.underlying4,
 a4:=Tryz.isAgg4,
 z4:=Tryz.sizeOf4,
 v4:=Tryz.zeroValue4,
 t5:=Tryz.underlying5,
 a5:=Tryz.isAgg5,
 z5:=Tryz.sizeOf5,
 v5:=Tryz.zeroValue5,
 t9:=Tryz.underlying9,
 a9:=Tryz.isAgg9,
 z9:=Tryz.sizeOf9,
 v9:=Tryz.zeroValue9,
 t21:=Tryz.underlying21,
 a21:=Tryz.isAgg21,
 z21:=Tryz.sizeOf21,
 v21:=Tryz.zeroValue21,
 t46:=Tryz.underlying80,
 a46:=Tryz.isAgg80,
 z46:=Tryz.sizeOf80,
 v46:=Tryz.zeroValue80,
 t119:=Tryz.underlying141,
 a119:=Tryz.isAgg141,
 z119:=Tryz.sizeOf141,
 t138:=Tryz.underlying143,
 a138:=Tryz.isAgg143,
 z138:=Tryz.sizeOf143,
 v138:=Tryz.zeroValue143,
 t139:=Tryz.underlying144,
 a139:=Tryz.isAgg144,
 z139:=Tryz.sizeOf144,
 v139:=Tryz.zeroValue144,
 g3:=by kernel_rfl,
 g4:=by kernel_rfl}
end Go.Proofs.YtkehcalakofigaaGreatDoor
namespace Go.Proofs.YtkehcalakofigaaGreatDoor
open Go aS Go.RowKit
section
open Go.Shelf
theorem Wh (s:ByteArray) (w:World) (dI:Lib.Utf8Tabs 0 1 w):
 Calls Tryz.prog 102 #[.string s] w fun e aj=>e=.returned (.tuple #[.int .i32 (Lib.decodeGo s).1,.int .i64 (Lib.decodeGo s).2])∧Below w.heap.size w aj:=Any.utf8_DecodeRuneInString Tryz.acK s w dI
theorem SF (s:ByteArray) (n:Int) (ai:s.size≤18) (h:Lib.atoi s.data.toList=some n) (w:World):
 Calls Tryz.prog 123 #[.string s] w fun e aj=>e=.returned (.tuple #[.int .i64 n,.nilIface])∧Below w.heap.size w aj:=(Any.strconv_Atoi Tryz.acI s n ai h w).mono fun e aj q=>⟨q.1,by obtain ⟨t,rfl⟩:=q.2;exact Lib.bytesWorld_below _ _ _⟩
theorem aeE (s:ByteArray) (pD:s.size≤9223372036854775806) (u:Nat) (h:Lib.parseUintB 64 s.data.toList=.ok u) (w:World):
 Calls Tryz.prog 116 #[.string s,.int .i64 10,.int .i64 64] w fun e aj=>e=.returned (.tuple #[.int .u64 u,.nilIface])∧Below w.heap.size w aj:=(Any.strconv_ParseUint_10_at64_ok Tryz.Nr s pD u h w).mono fun e aj q=>⟨q.1,by
  rcases q.2 with rfl | rfl
  · exact Below.refl _ _
  · exact Lib.bytesWorld_below _ _ _⟩
theorem aeG (s:ByteArray) (sC:s.size≤281474976710656) (h:Lib.parseUintB 64 s.data.toList=.range) (w:World) (he:tC w 4):
 Calls Tryz.prog 116 #[.string s,.int .i64 10,.int .i64 64] w fun e aj=>(∃p,e=.returned (.tuple #[.int .u64 18446744073709551615,.iface (Tryz.GV.t 39) p]))∧Below w.heap.size w aj:=by
 obtain ⟨aW,aa,ae⟩:=he
 refine (Any.strconv_ParseUint_10_at64_range Tryz.Nr s sC h aW w aa ae).mono fun e aj q=>?_
 obtain ⟨N,aF,_,_,fx⟩:=q
 exact ⟨⟨_,aF⟩,fx⟩
end
theorem x0 {f:FuncId} (a6:Nat.beq f cR=false) {args:List V} {v:V} {h:af} (gG:∃fn,Tryz.prog.funcs[f]? =some fn∧fn.body.isSome=true) (H:∀E xs w,C6 w→a8 E args xs→Calls Tryz.prog f xs.toArray w fun e aj=>∃x,e=.returned x∧Rel E v x∧Below w.heap.size w aj):eS Tryz.prog f args h v h:=by
 refine ⟨fun e=>by subst e;simp at a6,.inl ⟨gG,fun au E w xs ak s=>?_⟩⟩
 refine (H E xs w (Lay.e5 s.laid s.frame) ak).mono fun e aj q=>?_
 obtain ⟨x,rfl,bp,ag⟩:=q
 exact ⟨E,x,rfl,fun _ _ q=>q,bp,s.below ag⟩
theorem Wf (s:List UInt8) (h:af):eS Tryz.prog 102 [.str s] h (.tuple [.int .i32 (Lib.decodeGo ⟨⟨s⟩⟩).1,.int .i64 (Lib.decodeGo ⟨⟨s⟩⟩).2]) h:=by
 refine x0 (by decide) ⟨_,Tryz.func102,by kernel_rfl⟩ fun E xs w ai ak=>?_
 obtain ⟨y,b',rfl,aq,rfl⟩:=ak
 simp only [Rel] at aq
 subst aq
 refine (Wh ⟨⟨s⟩⟩ w ai.QB).mono fun e aj q=>?_
 obtain ⟨rfl,ag⟩:=q
 refine ⟨_,rfl,?_,ag⟩
 simp only [Rel]
 exact ⟨_,rfl,_,_,rfl,rfl,_,_,rfl,rfl,rfl⟩
theorem V4 (s sub:List UInt8) (aQ:s.length≤100000) (h:af):eS Tryz.prog 120 [.str s,.str sub] h (.bool (Lib.contains s sub)) h:=by
 refine x0 (by decide) ⟨_,Tryz.func120,by kernel_rfl⟩ fun E xs w ai ak=>?_
 obtain ⟨y,b',rfl,aq,z,fX,rfl,av,rfl⟩:=ak
 simp only [Rel] at aq av
 subst aq av
 obtain ⟨m,hm⟩:=ai.maxLen
 refine (Kw ⟨⟨s⟩⟩ ⟨⟨sub⟩⟩ m w (by show s.length<4294967281;omega) hm).mono fun e aj q=>?_
 obtain ⟨rfl,rfl⟩:=q
 refine ⟨_,rfl,?_,Below.refl _ _⟩
 simp only [Rel]
theorem SE (s:List UInt8) (n:Int) (ai:s.length≤18) (h:Lib.atoi s=some n) (ah:af):eS Tryz.prog 123 [.str s] ah (.tuple [.int .i64 n,.nilIface]) ah:=by
 refine x0 (by decide) ⟨_,Tryz.func123,by kernel_rfl⟩ fun E xs w sB ak=>?_
 obtain ⟨y,b',rfl,aq,rfl⟩:=ak
 simp only [Rel] at aq
 subst aq
 refine (SF ⟨⟨s⟩⟩ n ai h w).mono fun e aj q=>?_
 obtain ⟨rfl,ag⟩:=q
 refine ⟨_,rfl,?_,ag⟩
 simp only [Rel]
 exact ⟨_,rfl,_,_,rfl,rfl,_,_,rfl,rfl,rfl⟩
theorem aeD (s:List UInt8) (u:Nat) (ai:s.length≤100000) (h:Lib.parseUintB 64 s=.ok u) (ah:af):eS Tryz.prog 116 [.str s,.int .i64 10,.int .i64 64] ah (.tuple [.int .u64 u,.nilIface]) ah:=by
 refine x0 (by decide) ⟨_,Tryz.func116,by kernel_rfl⟩ fun E xs w sB ak=>?_
 obtain ⟨y,b',rfl,aq,z,fX,rfl,av,t,cl,rfl,aK,rfl⟩:=ak
 simp only [Rel] at aq av aK
 subst aq av aK
 refine (aeE ⟨⟨s⟩⟩ (by show s.length≤9223372036854775806;omega) u h w).mono fun e aj q=>?_
 obtain ⟨rfl,ag⟩:=q
 refine ⟨_,rfl,?_,ag⟩
 simp only [Rel]
 exact ⟨_,rfl,_,_,rfl,rfl,_,_,rfl,rfl,rfl⟩
def WE:TypeId:=Tryz.GV.t 39
theorem aeF (s:List UInt8) (ai:s.length≤100000) (h:Lib.parseUintB 64 s=.range) (ah:af):eS Tryz.prog 116 [.str s,.int .i64 10,.int .i64 64] ah (.tuple [.int .u64 18446744073709551615,.iface WE .bad]) ah:=by
 refine x0 (by decide) ⟨_,Tryz.func116,by kernel_rfl⟩ fun E xs w sB ak=>?_
 obtain ⟨y,b',rfl,aq,z,fX,rfl,av,t,cl,rfl,aK,rfl⟩:=ak
 simp only [Rel] at aq av aK
 subst aq av aK
 refine (aeG ⟨⟨s⟩⟩ (by show s.length≤281474976710656;omega) h w sB.K9).mono fun e aj q=>?_
 obtain ⟨⟨p,rfl⟩,ag⟩:=q
 refine ⟨_,rfl,?_,ag⟩
 simp only [Rel]
 exact ⟨_,rfl,_,_,rfl,rfl,_,_,rfl,⟨p,rfl,trivial⟩,rfl⟩
end Go.Proofs.YtkehcalakofigaaGreatDoor
namespace Go.Proofs.YtkehcalakofigaaGreatDoor
open Go aS
def kQ (s:List UInt8) (i:Nat):Nat:=if decodeL s i=(65533,1) then 0 else (decodeL s i).2
def p6:Nat→List UInt8→Nat→Nat
 | 0,s,_=>s.length
 | f+1,s,a=>if a<s.length then (if kQ s a=0 then a else p6 f s (a+kQ s a)) else s.length
def oK (s:List UInt8) (a:Nat):Nat:=p6 (s.length-a) s a
def rn (s:List UInt8):Nat:=oK s 0
theorem PF (s:List UInt8):∀(f g a:Nat),s.length-a≤f→s.length-a≤g→p6 f s a=p6 g s a
 | 0,g,a,aa,ae=>by
   cases g with
   | zero=>rfl
   | succ g=>simp only [p6];rw [if_neg (by omega)]
 | f+1,0,a,aa,ae=>by simp only [p6];rw [if_neg (by omega)]
 | f+1,g+1,a,aa,ae=>by
   simp only [p6]
   by_cases bn:a<s.length
   · rw [if_pos bn,if_pos bn]
     by_cases ao:kQ s a=0
     · rw [if_pos ao,if_pos ao]
     · rw [if_neg ao,if_neg ao]
       exact PF s f g _ (by omega) (by omega)
   · rw [if_neg bn,if_neg bn]
theorem PE {s:List UInt8} {a:Nat} (h:s.length≤a):oK s a=s.length:=by
 unfold oK
 rw [show s.length-a=0 from by omega]
 rfl
theorem afk {s:List UInt8} {a:Nat} (h:a<s.length) (ao:kQ s a=0):oK s a=a:=by
 unfold oK
 rw [show s.length-a=s.length-a-1+1 from by omega,p6,if_pos h,if_pos ao]
theorem H3 {s:List UInt8} {a:Nat} (h:a<s.length) (ao:kQ s a≠0):oK s a=oK s (a+kQ s a):=by
 unfold oK
 rw [show s.length-a=s.length-a-1+1 from by omega,p6,if_pos h,if_neg ao]
 exact PF s _ _ _ (by omega) (by omega)
def ev (c:UInt8):Bool:=lB c.toNat
def ff (c:UInt8):Bool:=sZ c.toNat
def hC (l:List UInt8):Nat:=l.foldl (fun n c=>10 * n + (c.toNat-48)) 0
abbrev qy:=Except Int (Int × Int × List UInt8 × Nat)
def vp (r:List UInt8):qy:=
 let t:=r.takeWhile ev
 if 2147483647<hC t then .error 254 else .ok (1,(if 1073741823 < (hC t:Int) then (hC t:Int)-2147483648 else hC t),[],t.length)
def mT:List UInt8→Option (UInt8 × Nat)
 | []=>none
 | c::r=>if c=110 then some (10,1) else if c=116 then some (9,1) else if c=34 then some (34,1) else if c=92 then some (92,1) else
   if 2≤r.length∧ev c∧ev (r[0]?.getD 0)∧ev (r[1]?.getD 0)∧hC (c::r.take 2)<256 then some ((hC (c::r.take 2)).toUInt8,3) else none
def tp:Nat→List UInt8→Option (List UInt8 × Nat)
 | 0,_=>none
 | _+1,[]=>none
 | f+1,c::r=>if c=34 then some ([],1) else if c=92 then (match mT r with
    | none=>none
    | some (b,n)=>(tp f (r.drop n)).map fun q=>(b::q.1,q.2+n+1))
   else if c<32∨c=127 then none else (tp f r).map fun q=>(c::q.1,q.2+1)
def nH (r:List UInt8):Option (List UInt8 × Nat):=tp r.length r
def qc (r:List UInt8):qy:=
 match nH r with
 | none=>.error 252
 | some (b,n)=>if 4096<b.length then .error 255 else .ok (2,0,b,n+1)
def GR:List (List UInt8):=[[97,110,100],[98,101,103,105,110],[101,108,115,101],[101,110,100],[101,120,99,101,112,116,105,111,110],[102,97,108,115,101],[102,117,110],[105,102],[105,110],[108,101,116],[109,97,116,99,104],[109,111,100],[111,102],[114,97,105,115,101],[114,101,99],[116,104,101,110],[116,114,117,101],[116,114,121],[116,121,112,101],[119,105,116,104]]
def hS:List (List UInt8):=[[59,59],[58,61],[45,62],[60,61],[59],[40],[41],[44],[61],[60],[43],[45],[42],[47],[124],[33],[95]]
def pV (t:List UInt8):Bool:=GR.contains t
def ir (kind:Int) (r:List UInt8):qy:=
 let t:=r.takeWhile ff
 if kind=3∧t=[95] then .ok (7,0,t,t.length) else if kind=3∧pV t then .ok (6,0,t,t.length) else if 64<t.length then .error 255 else .ok (kind,0,t,t.length)
def vH (r:List UInt8):qy:=
 match hS.find? (·.isPrefixOf r) with
 | some t=>.ok (7,0,t,t.length)
 | none=>.error 251
def od:List UInt8→Bool
 | d::_=>hA d.toNat
 | []=>false
def fN:List UInt8→qy
 | []=>.error 0
 | c::r=>if ev c then vp (c::r) else if c=34 then qc r else if hA c.toNat||c=95 then ir 3 (c::r) else if mc c.toNat then ir 4 (c::r) else
   if c=39∧od r then (ir 5 r).map fun q=>(q.1,q.2.1,q.2.2.1,q.2.2.2+1) else vH (c::r)
structure bU where
 kind:Int
 num:Int
 pos:Nat
 text:List UInt8
deriving DecidableEq
def blank (c:UInt8):Bool:=c=9||c=10||c=13||c=32
def wN (w:bU):Except (Int × Nat) (List bU)→Except (Int × Nat) (List bU)
 | .ok ws=>.ok (w::ws)
 | .error e=>.error e
def la:Nat→List UInt8→Nat→Except (Int × Nat) (List bU)
 | 0,_,_=>.ok []
 | _+1,[],_=>.ok []
 | f+1,c::r,p=>if blank c then la f r (p+1) else if ([40,42]:List UInt8).isPrefixOf (c::r) then (match gU (c::r) 0 with
    | none=>.error (253,p)
    | some n=>la f ((c::r).drop n) (p+n))
   else match fN (c::r) with
    | .error e=>.error (e,p)
    | .ok q=>wN ⟨q.1,q.2.1,p,q.2.2.1⟩ (la f ((c::r).drop q.2.2.2) (p+q.2.2.2))
def oC (r:List UInt8) (p:Nat):Except (Int × Nat) (List bU):=la r.length r p
def jq (s:List UInt8):Except (Int × Nat) (List bU):=
 if 65536<s.length then .error (3,0) else if rn s<s.length then .error (250,rn s) else oC s 0
theorem Is {p:UInt8→Bool} {c:UInt8} {r:List UInt8} (h:p c=true):1≤((c::r).takeWhile p).length:=by
 simp only [List.takeWhile_cons,h,if_true,List.length_cons]
 omega
theorem afR {t:List UInt8} (h:t ∈ hS):1≤t.length:=by
 revert t
 decide
theorem Ig {c:UInt8} (h:hA c.toNat=true):ff c=true:=by unfold ff sZ;rw [h];simp
theorem LL {c:UInt8} (h:mc c.toNat=true):ff c=true:=by unfold ff sZ;rw [h];simp
theorem Qw {c:UInt8} (h:c=95):ff c=true:=by subst h;decide
theorem N5 {k:Int} {r:List UInt8} {q:Int × Int × List UInt8 × Nat} (h:ir k r=.ok q):q.2.2.2=(r.takeWhile ff).length:=by
 unfold ir at h
 simp only at h
 split at h
 · cases h;rfl
 · split at h
   · cases h;rfl
   · split at h
     · cases h
     · cases h;rfl
theorem Hh {r:List UInt8} {q:Int × Int × List UInt8 × Nat} (h:fN r=.ok q):1≤q.2.2.2:=by
 match r,h with
 | c::r,h=>
   simp only [fN] at h
   split at h
   · rename_i aX
     unfold vp at h
     simp only at h
     split at h
     · cases h
     · cases h
       exact Is aX
   · split at h
     · unfold qc at h
       split at h
       · cases h
       · split at h
         · cases h
         · cases h;simp only;omega
     · split at h
       · rename_i aQ
         rw [N5 h]
         simp only [Bool.or_eq_true,decide_eq_true_eq] at aQ
         exact Is (aQ.elim Ig Qw)
       · split at h
         · rename_i aQ
           rw [N5 h]
           exact Is (LL aQ)
         · split at h
           · cases aZ:ir 5 r with
             | error e=>rw [aZ] at h;cases h
             | ok dS=>rw [aZ] at h;cases h;simp only;omega
           · unfold vH at h
             split at h
             · rename_i t aD
               cases h
               exact afR (List.mem_of_find?_eq_some aD)
             · cases h
theorem Bv:∀{r:List UInt8} {d:Int} {n:Nat},gU r d=some n→2≤n
 | [],d,n,h=>by simp [gU] at h
 | [_],d,n,h=>by simp [gU] at h
 | x::y::r,d,n,h=>by
   rw [gU] at h
   split at h
   · cases aC:gU r (d+1) with
     | none=>rw [aC] at h;cases h
     | some m=>rw [aC] at h;cases h;simp only;omega
   · split at h
     · split at h
       · cases h;omega
       · cases aC:gU r (d-1) with
         | none=>rw [aC] at h;cases h
         | some m=>rw [aC] at h;cases h;simp only;omega
     · cases aC:gU (y::r) d with
       | none=>rw [aC] at h;cases h
       | some m=>rw [aC] at h;cases h;have:=Bv aC;simp only;omega
theorem x7:∀(f g:Nat) (r:List UInt8) (p:Nat),r.length≤f→r.length≤g→la f r p=la g r p
 | 0,g,r,p,aa,ae=>by
   have:r=[]:=List.length_eq_zero_iff.1 (by omega)
   subst this
   cases g<;>rfl
 | f+1,0,r,p,aa,ae=>by
   have:r=[]:=List.length_eq_zero_iff.1 (by omega)
   subst this
   rfl
 | f+1,g+1,[],p,aa,ae=>rfl
 | f+1,g+1,c::r,p,aa,ae=>by
   simp only [List.length_cons] at aa ae
   simp only [la]
   split
   · exact x7 f g _ _ (by omega) (by omega)
   · split
     · split
       · rfl
       · rename_i n aZ
         have:=Bv aZ
         exact x7 f g _ _ (by rw [List.length_drop,List.length_cons];omega) (by rw [List.length_drop,List.length_cons];omega)
     · split
       · rfl
       · rename_i q aC
         have:=Hh aC
         rw [x7 f g _ _ (by rw [List.length_drop,List.length_cons];omega) (by rw [List.length_drop,List.length_cons];omega)]
theorem NG (c:UInt8) (r:List UInt8) (p:Nat):oC (c::r) p=if blank c then oC r (p+1) else if ([40,42]:List UInt8).isPrefixOf (c::r) then (match gU (c::r) 0 with
 | none=>.error (253,p)
 | some n=>oC ((c::r).drop n) (p+n))
 else match fN (c::r) with
  | .error e=>.error (e,p)
  | .ok q=>wN ⟨q.1,q.2.1,p,q.2.2.1⟩ (oC ((c::r).drop q.2.2.2) (p+q.2.2.2)):=by
 unfold oC
 simp only [List.length_cons,la]
 split
 · rfl
 · split
   · split
     · rfl
     · rename_i n aZ
       have:=Bv aZ
       exact x7 _ _ _ _ (by rw [List.length_drop,List.length_cons];omega) (Nat.le_refl _)
   · split
     · rfl
     · rename_i q aC
       have:=Hh aC
       rw [x7 _ _ _ _ (by rw [List.length_drop,List.length_cons];omega) (Nat.le_refl _)]
theorem Iu:∀(f g:Nat) (r:List UInt8),r.length≤f→r.length≤g→tp f r=tp g r
 | 0,g,r,aa,ae=>by
   have:r=[]:=List.length_eq_zero_iff.1 (by omega)
   subst this
   cases g<;>rfl
 | f+1,0,r,aa,ae=>by
   have:r=[]:=List.length_eq_zero_iff.1 (by omega)
   subst this
   rfl
 | f+1,g+1,[],aa,ae=>rfl
 | f+1,g+1,c::r,aa,ae=>by
   simp only [List.length_cons] at aa ae
   simp only [tp]
   split
   · rfl
   · split
     · split
       · rfl
       · rw [Iu f g _ (by rw [List.length_drop];omega) (by rw [List.length_drop];omega)]
     · split
       · rfl
       · rw [Iu f g _ (by omega) (by omega)]
theorem agB:nH []=none:=rfl
theorem agA (c:UInt8) (r:List UInt8):nH (c::r)=if c=34 then some ([],1) else if c=92 then (match mT r with
 | none=>none
 | some (b,n)=>(nH (r.drop n)).map fun q=>(b::q.1,q.2+n+1))
 else if c<32∨c=127 then none else (nH r).map fun q=>(c::q.1,q.2+1):=by
 unfold nH
 simp only [List.length_cons,tp]
 split
 · rfl
 · split
   · split
     · rfl
     · rw [Iu _ _ _ (by rw [List.length_drop];omega) (Nat.le_refl _)]
   · rfl
theorem Lq:∀(l:List UInt8) (a:Nat),a≤l.foldl (fun n c=>10 * n + (c.toNat-48)) a
 | [],a=>Nat.le_refl _
 | c::l,a=>by
   simp only [List.foldl_cons]
   exact Nat.le_trans (by omega) (Lq l _)
def hI (a:Nat) (l:List UInt8):Nat:=l.foldl (fun n c=>10 * n + (c.toNat-48)) a
theorem Xf (a:Nat) (c:UInt8) (l:List UInt8):hI a (c::l)=hI (10 * a + (c.toNat-48)) l:=by unfold hI;rw [List.foldl_cons]
theorem aeC (M:Nat) (cO:M<18446744073709551620) (l:List UInt8):∀(a:Nat),(∀c ∈ l,ev c=true)→(hI a l≤M→Lib.parseUintM M a l=.ok (hI a l))∧(a≤M→¬hI a l≤M→Lib.parseUintM M a l=.range):=by
 induction l with
 | nil=>
   intro a _
   refine ⟨fun _=>?_,fun aa ae=>absurd aa ae⟩
   simp only [Lib.parseUintM,hI,List.foldl_nil]
 | cons c l aad=>
   intro a h
   have ao:=h c (List.mem_cons_self ..)
   simp only [ev,lB,Bool.and_eq_true,decide_eq_true_eq] at ao
   have Yv:48≤c.toNat∧c.toNat≤57:=by omega
   have bf:=aad (10 * a + (c.toNat-48)) (fun x ak=>h x (List.mem_cons_of_mem _ ak))
   have hm:10 * a + (c.toNat-48)≤hI (10 * a + (c.toNat-48)) l:=Lq l (10 * a + (c.toNat-48))
   simp only [Lib.parseUintM,Yv,and_self,if_true]
   rw [Nat.mul_comm a 10,Xf]
   have lC:10 * a≤10 * a + (c.toNat-48):=Nat.le_add_right _ _
   generalize 10 * a + (c.toNat-48)=A at bf hm lC ⊢
   refine ⟨fun aP=>?_,fun bn h1=>?_⟩
   · rw [if_neg (by omega),if_neg (by omega)]
     exact bf.1 aP
   · by_cases aa:1844674407370955162≤a
     · rw [if_pos aa]
     · rw [if_neg aa]
       by_cases ae:M<A
       · rw [if_pos ae]
       · rw [if_neg ae]
         exact bf.2 (by omega) h1
theorem aeB (l:List UInt8) (h:∀c ∈ l,ev c=true) (ai:l≠[]):(hC l≤18446744073709551615→Lib.parseUintB 64 l=.ok (hC l))∧(¬hC l≤18446744073709551615→Lib.parseUintB 64 l=.range):=by
 unfold Lib.parseUintB
 rw [if_neg ai,show (2 ^ 64-1:Nat)=18446744073709551615 from by decide]
 have:=aeC 18446744073709551615 (by omega) l 0 h
 exact ⟨this.1,this.2 (Nat.zero_le _)⟩
structure l6 (s:List UInt8) (p:Nat) (b:aO) (h:af) (res:qy) (x:V) (ab:af):Prop where
 mod:Mod (fun q=>q=b) h ab
 res:∃k n t,x=.agg [.int .i64 k,.int .i64 n,.int .i64 0,.str t]∧match res with
  | .ok q=>k=q.1∧n=q.2.1∧t=q.2.2.1∧ab.get b=en s ((p+q.2.2.2:Nat):Int) 0∧p+q.2.2.2≤s.length
  | .error e=>e≠0∧∃bg:Int,ab.get b=en s bg e
theorem Hf {P:Program}:(d'.jc true 5).run P .nilIface .nilIface=some (.bool false):=rfl
theorem adD {P:Program} (T:TypeId) (x:V):(d'.jc true 5).run P (.iface T x) .nilIface=some (.bool true):=rfl
theorem Qk {p:UInt8→Bool} {l:List UInt8}:∀c ∈ l.takeWhile p,p c=true:=fun c ao=>by
 induction l with
 | nil=>simp at ao
 | cons x l bf=>
   simp only [List.takeWhile_cons] at ao
   split at ao
   · rename_i ak
     rcases List.mem_cons.1 ao with rfl | ao
     · exact ak
     · exact bf ao
   · simp at ao
theorem Ql (p:UInt8→Bool) (s:List UInt8) (a:Nat):((s.drop a).takeWhile p).length≤s.length-a:=by
 have:=Qm p (s.drop a)
 rwa [List.length_drop] at this
theorem adS (s:List UInt8) (a0:Nat) (b:aO) (h:af) (ag:h.get b=en s a0 0) (ba:a0<s.length) (aQ:s.length≤100000) (fA:Old h b) (aX:ev s[a0]=true):
 bM Tryz.prog 106 [.ptr b 0] h (l6 s a0 b h (vp (s.drop a0))):=by
 refine Tg rfl (dt ?_)
 unfold DG
 have b3:(b=ay h.next)=False:=yc fA (Nat.le_refl _)
 have cE:(ay h.next=b)=False:=by rw [←b3];exact propext eq_comm
 simp +contextual only [ag,b3,cE,↓aw,aJ,simprocAttr]
 have ak:Ext h (h.new (.bq [.int .i64 0,.int .i64 0,.int .i64 0,.str []] 0 false)):=(Ext.refl h).new _
 refine cj (PL s a0 0 b 105 lB _ (by rw [ak.get _ fA,ag]) (by omega) aQ (by decide) (fun c h=>ub c h)) ?_
 rintro x aa ⟨rfl,hm,aG⟩
 have iF:(fun c:UInt8=>lB (c.toNat:Int))=ev:=rfl
 rw [iF] at aG ⊢
 have sD:Mod (fun q=>q=b) h aa:=(ak.mod _).trans hm
 have g1:aa.get (ay h.next)=.bq [.int .i64 0,.int .i64 0,.int .i64 0,.str []] 0 false:=by
  rw [hm.get _ (fh (by rw [e7];omega)) (by rw [cE];exact id)]
  simp only [↓aw,aJ,simprocAttr]
 have cZ:(s.drop a0).takeWhile ev≠[]:=by
  rw [drop_cons ba,List.takeWhile_cons,aX]
  simp
 have hlen:=Ql ev s a0
 have ah:=aeB ((s.drop a0).takeWhile ev) Qk cZ
 unfold en at aG
 have pG:vp (s.drop a0)=if 2147483647<hC ((s.drop a0).takeWhile ev) then .error 254 else .ok (1,(if 1073741823 < (hC ((s.drop a0).takeWhile ev):Int) then (hC ((s.drop a0).takeWhile ev):Int)-2147483648 else hC ((s.drop a0).takeWhile ev)),[],((s.drop a0).takeWhile ev).length):=rfl
 rw [pG]
 generalize (s.drop a0).takeWhile ev=t at *
 simp +contextual only [↓aw,aJ,simprocAttr]
 by_cases xa:hC t≤18446744073709551615
 · refine gp (aeD t (hC t) (by omega) (ah.1 xa) aa) ?_
   generalize hC t=u at *
   by_cases E':(2147483647:Int) < (u:Int)
   · have uy:2147483647<u:=by omega
     simp +contextual only [Hf,E',g1,aG,b3,cE,↓aw,aJ,simprocAttr]
     refine ⟨(sD.set (fun _=>rfl) _).set (fun q=>absurd (show b8 (ay h.next)<h.next from q) (by rw [c4];omega)) _,?_⟩
     rw [if_pos uy]
     refine ⟨_,_,_,rfl,by decide,((a0+t.length:Nat):Int),?_⟩
     simp only [en,b3,cE,↓aw,aJ,simprocAttr]
   · have uy:¬2147483647<u:=by omega
     have bY:IntKind.i64.wrap (u:Int)=(u:Int):=wrap_i64 (by omega) (by omega)
     have bK:IntKind.i64.wrap ((u:Int)-2147483648)=(u:Int)-2147483648:=wrap_i64 (by omega) (by omega)
     by_cases LV:(1073741823:Int) < (u:Int)
     · simp +contextual only [Hf,E',uy,LV,g1,aG,b3,cE,bY,bK,↓aw,aJ,simprocAttr]
       refine ⟨(sD.set (fun q=>absurd (show b8 (ay h.next)<h.next from q) (by rw [c4];omega)) _),?_⟩
       refine ⟨_,_,_,rfl,rfl,rfl,rfl,?_,by show a0+t.length≤s.length;omega⟩
       simp only [en,aG,b3,cE,↓aw,aJ,simprocAttr]
     · simp +contextual only [Hf,E',uy,LV,g1,aG,b3,cE,bY,bK,↓aw,aJ,simprocAttr]
       refine ⟨(sD.set (fun q=>absurd (show b8 (ay h.next)<h.next from q) (by rw [c4];omega)) _),?_⟩
       refine ⟨_,_,_,rfl,rfl,rfl,rfl,?_,by show a0+t.length≤s.length;omega⟩
       simp only [en,aG,b3,cE,↓aw,aJ,simprocAttr]
 · refine gp (aeF t (by omega) (ah.2 xa) aa) ?_
   have uy:2147483647<hC t:=by omega
   rw [if_pos uy]
   simp +contextual only [adD,g1,aG,b3,cE,↓aw,aJ,simprocAttr]
   refine ⟨(sD.set (fun _=>rfl) _).set (fun q=>absurd (show b8 (ay h.next)<h.next from q) (by rw [c4];omega)) _,?_⟩
   refine ⟨_,_,_,rfl,by decide,((a0+t.length:Nat):Int),?_⟩
   simp only [en,b3,cE,↓aw,aJ,simprocAttr]
theorem Qt (c:UInt8):((c.toNat:Int)).toNat.toUInt8=c:=by
 rw [Int.toNat_natCast]
 simp
theorem vN (c:UInt8) (n:Nat) (aZ:n<256):((c.toNat:Int)=(n:Int))=(c=n.toUInt8):=by
 apply propext
 constructor
 · intro q
   have:c.toNat=n:=by omega
   rw [←UInt8.toNat_inj,this]
   simp
   omega
 · intro q
   subst q
   simp
   omega
theorem WI (c:UInt8):Lib.indexByte [110,116,34,92] c=if c=110 then 0 else if c=116 then 1 else if c=34 then 2 else if c=92 then 3 else -1:=by
 simp only [Lib.indexByte,beq_iff_eq]
 by_cases aa:c=110
 · subst aa;decide
 · by_cases ae:c=116
   · subst ae;decide
   · by_cases aF:c=34
     · subst aF;decide
     · by_cases bu:c=92
       · subst bu;decide
       · have aN:¬(110:UInt8)=c:=fun q=>aa q.symm
         have aY:¬(116:UInt8)=c:=fun q=>ae q.symm
         have cz:¬(34:UInt8)=c:=fun q=>aF q.symm
         have gq:¬(92:UInt8)=c:=fun q=>bu q.symm
         simp only [aa,ae,aF,bu,aN,aY,cz,gq,if_false]
         rfl
theorem EA {c:UInt8} (h:ev c=true):Lib.digitVal c=some (c.toNat-48):=by
 unfold Lib.digitVal
 unfold ev lB at h
 simp only [Bool.and_eq_true,decide_eq_true_eq] at h
 rw [if_pos (by omega)]
theorem SD {a b c:UInt8} (aa:ev a=true) (ae:ev b=true) (aF:ev c=true):Lib.atoi [a,b,c]=some ((hC [a,b,c]:Nat):Int):=by
 have bn:=aa
 unfold ev lB at bn
 simp only [Bool.and_eq_true,decide_eq_true_eq] at bn
 have c1:(a == 45)=false:=by rw [beq_eq_false_iff_ne];rintro rfl;revert bn;decide
 have hO:(a == 43)=false:=by rw [beq_eq_false_iff_ne];rintro rfl;revert bn;decide
 simp [Lib.atoi,c1,hO,Lib.decNat,Lib.decFrom,EA aa,EA ae,EA aF,hC]
 omega
theorem WJ (s:List UInt8) (a0:Nat) (b:aO) (h:af) (ag:h.get b=en s a0 0) (ba:a0<s.length) (aQ:s.length≤100000) (fA:Old h b):
 bM Tryz.prog 118 [.ptr b 0] h fun x ab=>Mod (fun q=>q=b) h ab∧match mT (s.drop (a0+1)) with
  | some (c,n)=>x=.int .u8 (c.toNat:Int)∧ab.get b=en s ((a0+1+n:Nat):Int) 0∧a0+1+n≤s.length
  | none=>x=.int .u8 0∧ab.get b=en s ((a0+1:Nat):Int) 252:=by
 refine TE rfl (dt ?_)
 unfold DP
 unfold en at ag ⊢
 have bY:IntKind.i64.wrap ((a0:Int)+1)=((a0+1:Nat):Int):=by rw [wrap_i64 (by omega) (by omega)];rfl
 have f0:(0≤((a0+1:Nat):Int))=True:=eq_true (by omega)
 have f1:(((a0+1:Nat):Int)≤(s.length:Int))=True:=eq_true (by omega)
 have sA:(s.drop (a0+1)).length=s.length - (a0+1):=List.length_drop
 have z0:((0:Int)≤0)=True:=eq_true (by omega)
 have mx:∀v,aS.Mod (fun q=>q=b) h ((h.set b v)):=fun v=>(Mod.refl (fun q=>q=b) h).set (fun _=>rfl) _
 cases cx:s.drop (a0+1) with
 | nil=>
   simp +contextual only [ag,bY,f0,f1,Int.toNat_natCast,cx,List.length_nil,Int.natCast_zero,↓aw,aJ,simprocAttr]
   refine ⟨(mx _).set (fun _=>rfl) _,?_⟩
   simp only [mT,di,if_true,true_and]
 | cons c r=>
   rw [cx] at sA
   rw [List.length_cons] at sA
   have cI:(c::r=[])=False:=eq_false (by simp)
   have f2:((0:Int) < ((r.length+1:Nat):Int))=True:=eq_true (by omega)
   simp +contextual only [ag,bY,f0,f1,f2,cI,Int.toNat_natCast,cx,Int.reduceToNat,z0,↓aw,aJ,simprocAttr]
   refine gp (M4 _ _ _) ?_
   rw [Qt,WI]
   have bK:IntKind.i64.wrap (((a0+1:Nat):Int)+1)=((a0+2:Nat):Int):=by rw [wrap_i64 (by omega) (by omega)];omega
   by_cases bs:c=110
   · subst bs
     simp +contextual only [ag,bY,bK,f0,f1,f2,cI,Int.toNat_natCast,cx,Int.reduceToNat,z0,List.length_cons,List.length_nil,Nat.reduceAdd,Int.reduceLT,Int.cast_ofNat_Int,↓aw,aJ,simprocAttr]
     refine ⟨(mx _).set (fun _=>rfl) _,rfl,?_⟩
     simp only [di,if_true]
     refine ⟨trivial,by omega⟩
   by_cases bN:c=116
   · subst bN
     simp +contextual only [ag,bY,bK,f0,f1,f2,cI,Int.toNat_natCast,cx,Int.reduceToNat,z0,List.length_cons,List.length_nil,Nat.reduceAdd,Int.reduceLT,Int.cast_ofNat_Int,bs,↓aw,aJ,simprocAttr]
     refine ⟨(mx _).set (fun _=>rfl) _,rfl,?_⟩
     simp only [di,if_true]
     refine ⟨trivial,by omega⟩
   by_cases c3:c=34
   · subst c3
     simp +contextual only [ag,bY,bK,f0,f1,f2,cI,Int.toNat_natCast,cx,Int.reduceToNat,z0,List.length_cons,List.length_nil,Nat.reduceAdd,Int.reduceLT,Int.cast_ofNat_Int,bs,bN,↓aw,aJ,simprocAttr]
     refine ⟨(mx _).set (fun _=>rfl) _,rfl,?_⟩
     simp only [di,if_true]
     refine ⟨trivial,by omega⟩
   by_cases g':c=92
   · subst g'
     simp +contextual only [ag,bY,bK,f0,f1,f2,cI,Int.toNat_natCast,cx,Int.reduceToNat,z0,List.length_cons,List.length_nil,Nat.reduceAdd,Int.reduceLT,Int.cast_ofNat_Int,bs,bN,c3,↓aw,aJ,simprocAttr]
     refine ⟨(mx _).set (fun _=>rfl) _,rfl,?_⟩
     simp only [di,if_true]
     refine ⟨trivial,by omega⟩
   match r,cx,sA,f2,cI with
   | [],cx,sA,f2,cI=>
     simp +contextual only [ag,bY,bK,f0,f1,f2,cI,Int.toNat_natCast,cx,Int.reduceToNat,z0,List.length_cons,List.length_nil,Nat.reduceAdd,Int.reduceLT,Int.cast_ofNat_Int,bs,bN,c3,g',↓aw,aJ,simprocAttr]
     refine ⟨(mx _).set (fun _=>rfl) _,?_⟩
     simp [mT,bs,bN,c3,g',di]
   | [_],cx,sA,f2,cI=>
     simp +contextual only [ag,bY,bK,f0,f1,f2,cI,Int.toNat_natCast,cx,Int.reduceToNat,z0,List.length_cons,List.length_nil,Nat.reduceAdd,Int.reduceLT,Int.cast_ofNat_Int,bs,bN,c3,g',↓aw,aJ,simprocAttr]
     refine ⟨(mx _).set (fun _=>rfl) _,?_⟩
     simp [mT,bs,bN,c3,g',di]
   | d1::d2::bo,cx,sA,f2,cI=>
     simp only [List.length_cons] at sA
     have g3:((3:Int)≤((bo.length+3:Nat):Int))=True:=eq_true (by omega)
     have g2:((2:Int) < ((bo.length+3:Nat):Int))=True:=eq_true (by omega)
     have g1:((1:Int) < ((bo.length+3:Nat):Int))=True:=eq_true (by omega)
     have g0:((0:Int) < ((bo.length+3:Nat):Int))=True:=eq_true (by omega)
     have em:mT (c::d1::d2::bo)=if ev c∧ev d1∧ev d2∧hC [c,d1,d2]<256 then some ((hC [c,d1,d2]).toUInt8,3) else none:=by
      simp [mT,bs,bN,c3,g']
     rw [em]
     simp +contextual only [ag,bY,bK,f0,f1,g0,g1,g2,g3,cI,Int.toNat_natCast,cx,Int.reduceToNat,z0,List.length_cons,List.length_nil,Nat.reduceAdd,Int.reduceLT,Int.cast_ofNat_Int,bs,bN,c3,g',↓aw,aJ,simprocAttr]
     refine gp (ub _ _) ?_
     have dg:∀x:UInt8,lB (x.toNat:Int)=ev x:=fun _=>rfl
     simp only [dg]
     cases YB:ev c with
     | false=>
       simp +contextual only [ag,bY,bK,f0,f1,g0,g1,g2,g3,cI,Int.toNat_natCast,cx,Int.reduceToNat,z0,List.length_cons,List.length_nil,Nat.reduceAdd,Int.reduceLT,Int.cast_ofNat_Int,bs,bN,c3,g',false_and,Bool.false_eq_true,↓aw,aJ,simprocAttr]
       exact (mx _).set (fun _=>rfl) _
     | true=>
       simp +contextual only [ag,bY,bK,f0,f1,g0,g1,g2,g3,cI,Int.toNat_natCast,cx,Int.reduceToNat,z0,List.length_cons,List.length_nil,Nat.reduceAdd,Int.reduceLT,Int.cast_ofNat_Int,bs,bN,c3,g',↓aw,aJ,simprocAttr]
       refine gp (ub _ _) ?_
       simp only [dg]
       cases sk:ev d1 with
       | false=>
         simp +contextual only [ag,bY,bK,f0,f1,g0,g1,g2,g3,cI,Int.toNat_natCast,cx,Int.reduceToNat,z0,List.length_cons,List.length_nil,Nat.reduceAdd,Int.reduceLT,Int.cast_ofNat_Int,bs,bN,c3,g',false_and,and_false,Bool.false_eq_true,↓aw,aJ,simprocAttr]
         exact (mx _).set (fun _=>rfl) _
       | true=>
         simp +contextual only [ag,bY,bK,f0,f1,g0,g1,g2,g3,cI,Int.toNat_natCast,cx,Int.reduceToNat,z0,List.length_cons,List.length_nil,Nat.reduceAdd,Int.reduceLT,Int.cast_ofNat_Int,bs,bN,c3,g',↓aw,aJ,simprocAttr]
         refine gp (ub _ _) ?_
         simp only [dg]
         cases sl:ev d2 with
         | false=>
           simp +contextual only [ag,bY,bK,f0,f1,g0,g1,g2,g3,cI,Int.toNat_natCast,cx,Int.reduceToNat,z0,List.length_cons,List.length_nil,Nat.reduceAdd,Int.reduceLT,Int.cast_ofNat_Int,bs,bN,c3,g',false_and,and_false,Bool.false_eq_true,↓aw,aJ,simprocAttr]
           exact (mx _).set (fun _=>rfl) _
         | true=>
           have z3:((0:Int)≤3)=True:=eq_true (by omega)
           simp +contextual only [ag,bY,bK,f0,f1,g0,g1,g2,g3,z3,cI,Int.toNat_natCast,cx,Int.reduceToNat,z0,List.length_cons,List.length_nil,Nat.reduceAdd,Int.reduceLT,Int.cast_ofNat_Int,bs,bN,c3,g',↓aw,aJ,simprocAttr]
           refine gp (SE [c,d1,d2] _ (by simp) (SD YB sk sl) _) ?_
           have mJ:IntKind.i64.wrap (((a0+1:Nat):Int)+3)=((a0+4:Nat):Int):=by rw [wrap_i64 (by omega) (by omega)];omega
           generalize bp:hC [c,d1,d2]=v
           by_cases MP:(v:Int)<256
           · have hT:IntKind.u8.wrap (v:Int)=((v.toUInt8).toNat:Int):=by
              simp [IntKind.wrap,IntKind.bits,IntKind.signed]
             have Gt:v<256:=by omega
             simp +contextual only [ag,bY,bK,mJ,hT,f0,f1,g0,g1,g2,g3,cI,MP,Gt,Int.toNat_natCast,cx,Int.reduceToNat,z0,List.length_cons,List.length_nil,Nat.reduceAdd,Int.reduceLT,Int.cast_ofNat_Int,bs,bN,c3,g',and_self,true_and,↓aw,aJ,simprocAttr]
             refine ⟨(mx _).set (fun _=>rfl) _,?_⟩
             first | omega | (refine ⟨?_,by omega⟩;simp [di]) | skip
           · have Gt:¬v<256:=by omega
             simp +contextual only [ag,bY,bK,mJ,f0,f1,g0,g1,g2,g3,cI,MP,Gt,Int.toNat_natCast,cx,Int.reduceToNat,z0,List.length_cons,List.length_nil,Nat.reduceAdd,Int.reduceLT,Int.cast_ofNat_Int,bs,bN,c3,g',and_false,↓aw,aJ,simprocAttr]
             exact (mx _).set (fun _=>rfl) _
theorem agT (c:UInt8) (n:Nat) (aZ:n<256):((c.toNat:Int) < (n:Int))=(c<n.toUInt8):=by
 apply propext
 rw [UInt8.lt_iff_toNat_lt]
 have:(n.toUInt8).toNat=n:=by simp;omega
 rw [this]
 omega
theorem agC (s:List UInt8) (a0:Nat) (b:aO) (h:af) (ag:h.get b=en s a0 0) (ba:a0<s.length) (aQ:s.length≤100000) (fA:Old h b):
 bM Tryz.prog 107 [.ptr b 0] h (l6 s a0 b h (qc (s.drop (a0+1)))):=by
 refine Tj rfl (dt ?_)
 unfold DH
 have b3:(b=ay h.next)=False:=yc fA (Nat.le_refl _)
 have cE:(ay h.next=b)=False:=by rw [←b3];exact propext eq_comm
 have bY:IntKind.i64.wrap ((a0:Int)+1)=((a0+1:Nat):Int):=by rw [wrap_i64 (by omega) (by omega)];rfl
 unfold en at ag
 simp +contextual only [ag,b3,cE,bY,↓aw,aJ,simprocAttr]
 have vo:∀{v:V} {ab:af} {n:Nat} {us:List V},ej (h.next+1) ab 1 v n us→∀q,v.a_ q→¬(fun q=>q=b) q:=by
  intro v ab n us dP q aC he
  have aa:=dP.base aC
  rw [show q=b from he] at aa
  have ae:b8 b<h.next:=fA
  omega
 have SZ:∀{v:V} {ab:af} {n:Nat} {us:List V},ej (h.next+1) ab 1 v n us→∀i,i<h.next+1→¬v.a_ (ay i):=by
  intro v ab n us dP i az aC
  have aa:=dP.base aC
  rw [c4] at aa
  omega
 refine gS (fun r ab=>r 0=.ptr b 0∧r 2=.ptr (ay h.next) 0∧∃(a:Nat) (e:Int) (eg:List UInt8) (v:V),r 3=v∧ab.get b=.bq [.str s,.int .i64 a,.int .i64 e] 0 false∧a≤s.length∧a0+1≤a∧eg.length≤a∧
  ab.get (ay h.next)=.bq [.int .i64 0,.int .i64 0,.int .i64 0,.str []] 0 false∧Mod (fun q=>q=b) h ab∧h.next+1≤ab.next∧ej (h.next+1) ab 1 v eg.length (gP eg)∧
  ((e=0∧nH (s.drop (a0+1))=(nH (s.drop a)).map fun q=>(eg++q.1,q.2 + (a - (a0+1))))∨(e=252∧nH (s.drop (a0+1))=none)))
  (fun r ab=>(s.length - ((hd (ab.get b) 1).getD .bad).toN) + (252 - ((hd (ab.get b) 2).getD .bad).toN)) ?_ ?_
 · refine ⟨by simp only [b3,cE,↓aw,aJ,simprocAttr],by simp only [b3,cE,↓aw,aJ,simprocAttr],a0+1,0,[],.b4,by simp only [b3,cE,↓aw,aJ,simprocAttr],by simp only [b3,cE,↓aw,aJ,simprocAttr],by omega,by omega,by simp,by simp only [b3,cE,↓aw,aJ,simprocAttr],?_,?_,⟨rfl,rfl⟩,.inl ⟨rfl,?_⟩⟩
   · exact (((Ext.refl h).new _).mod (fun q=>q=b)).self _
   · rw [nx,e7];exact Nat.le_refl _
   · rw [Nat.sub_self]
     cases nH (s.drop (a0+1))<;>rfl
 · rintro r ab ⟨bO,bZ,a,e,eg,v,b6,aG,cb,oy,va,bh,hm,kr,dP,bt⟩
   unfold J4
   have Mw:Old ab b:=hm.bR fA
   have fin:∀(ae:af) (bg:Int),nH (s.drop (a0+1))=none→Mod (fun q=>q=b) h ae→ae.get b=.bq [.str s,.int .i64 bg,.int .i64 252] 0 false→
    l6 s a0 b h (qc (s.drop (a0+1))) (.agg [.int .i64 0,.int .i64 0,.int .i64 0,.str []]) (ae.set (ay h.next) (.bq [.int .i64 0,.int .i64 0,.int .i64 0,.str []] 0 false)):=by
    intro ae bg aZ lH xj
    unfold qc
    rw [aZ]
    refine ⟨lH.set (fun q=>absurd (show b8 (ay h.next)<h.next from q) (by rw [c4];omega)) _,_,_,_,rfl,by decide,bg,?_⟩
    rw [di,if_neg (by rw [cE];exact id),xj]
    rfl
   have step:∀(ae:af),Mod (fun q=>q=b) h ae→ab.next≤ae.next→ej (h.next+1) ae 1 v eg.length (gP eg)→∀(c:UInt8),∃v3 aF,lz 1 v (.slice (ay ae.next) 0 1 1) (ae.new (.bq [.int .u8 (c.toNat:Int)] 0 false))=.val v3 aF∧ej (h.next+1) aF 1 v3 (eg++[c]).length (gP (eg++[c]))∧Mod (fun q=>q=b) h aF∧h.next+1≤aF.next∧aF.get b=ae.get b∧aF.get (ay h.next)=ae.get (ay h.next):=by
    intro ae lH aib jg c
    obtain ⟨v3,aF,aq,av,aK,bD,dr⟩:=zC (cs:=[.int .u8 (c.toNat:Int)]) (by omega) jg (by omega) (by unfold top;omega) rfl rfl
    refine ⟨v3,aF,aq,by rw [List.length_append,J2];exact av,lH.agF aK (fun q aC=>Nat.le_trans (Nat.le_succ _) (jg.base aC)),by omega,?_,?_⟩
    · exact aK.get _ (lH.bR fA) (fun aC=>vo jg _ aC rfl)
    · exact aK.get _ (fh (by omega)) (SZ jg _ (by omega))
   rcases bt with ⟨rfl,bt⟩ | ⟨rfl,bt⟩
   · by_cases e2:(s.length:Int)≤(a:Int)
     · have bn:a=s.length:=by omega
       rw [bn,List.drop_length,agB] at bt
       simp +contextual only [bO,bZ,b6,aG,e2,bh,b3,cE,↓aw,aJ,simprocAttr]
       exact fin _ _ bt (hm.set (fun _=>rfl) _) (by rw [di,if_pos rfl])
     · have aP:a<s.length:=by omega
       rw [drop_cons aP,agA] at bt
       have f0:(0≤(a:Int))=True:=eq_true (by omega)
       have f1:((a:Int) < (s.length:Int))=True:=eq_true (by omega)
       have bK:IntKind.i64.wrap ((a:Int)+1)=((a+1:Nat):Int):=by rw [wrap_i64 (by omega) (by omega)];rfl
       have gD:(((s[a]).toNat:Int)=34)=(s[a]=34):=vN _ 34 (by omega)
       have EH:(((s[a]).toNat:Int)=92)=(s[a]=92):=vN _ 92 (by omega)
       have KV:(((s[a]).toNat:Int)=127)=(s[a]=127):=vN _ 127 (by omega)
       have Np:(((s[a]).toNat:Int)<32)=(s[a]<32):=agT _ 32 (by omega)
       by_cases bs:s[a]=34
       · rw [if_pos bs] at bt
         replace bs:(s[a]=34)=True:=eq_true bs
         simp only [Option.map_some,List.append_nil] at bt
         by_cases xa:(4096:Int) < (eg.length:Int)
         · have jg:∀k cB,ej (h.next+1) ((ab.set b k).set b cB) 1 v eg.length (gP eg):=fun k cB=>dP.mod (((Mod.refl (fun q=>q=b) ab).set (fun _=>rfl) _).set (fun _=>rfl) _) (vo dP)
           simp +contextual only [bO,bZ,b6,aG,e2,bh,b3,cE,f0,f1,bK,gD,bs,dP.v.len,xa,Kx (jg _ _),List.getElem?_eq_getElem aP,Int.toNat_natCast,↓aw,aJ,simprocAttr]
           refine ⟨((hm.set (fun _=>rfl) _).set (fun _=>rfl) _).set (fun q=>absurd (show b8 (ay h.next)<h.next from q) (by rw [c4];omega)) _,_,_,_,rfl,?_⟩
           unfold qc
           rw [bt]
           simp only
           rw [if_pos (by omega)]
           refine ⟨by decide,((a+1:Nat):Int),?_⟩
           simp only [en,b3,cE,↓aw,aJ,simprocAttr]
         · have jg:∀k,ej (h.next+1) (ab.set b k) 1 v eg.length (gP eg):=fun k=>dP.mod ((Mod.refl (fun q=>q=b) ab).set (fun _=>rfl) _) (vo dP)
           simp +contextual only [bO,bZ,b6,aG,e2,bh,b3,cE,f0,f1,bK,gD,bs,dP.v.len,xa,Kx (jg _),List.getElem?_eq_getElem aP,Int.toNat_natCast,↓aw,aJ,simprocAttr]
           refine ⟨(hm.set (fun _=>rfl) _).set (fun q=>absurd (show b8 (ay h.next)<h.next from q) (by rw [c4];omega)) _,_,_,_,rfl,?_⟩
           unfold qc
           rw [bt]
           simp only
           rw [if_neg (by omega)]
           refine ⟨rfl,rfl,rfl,?_,?_⟩
           · simp only [en,b3,cE,↓aw,aJ,simprocAttr]
             rw [show a0 + (1 + (a - (a0+1))+1)=a+1 from by omega]
           · simp only;omega
       rw [if_neg bs] at bt
       by_cases bN:s[a]=92
       · rw [if_pos bN] at bt
         replace bN:(s[a]=92)=True:=eq_true bN
         simp +contextual only [bO,bZ,b6,aG,e2,bh,b3,cE,f0,f1,bK,gD,EH,bs,bN,List.getElem?_eq_getElem aP,Int.toNat_natCast,↓aw,aJ,simprocAttr]
         refine cj (WJ s a b ab aG aP aQ Mw) ?_
         rintro x ae ⟨lH,ak⟩
         have jg:=dP.mod lH (vo dP)
         have ow:ae.get (ay h.next)=.bq [.int .i64 0,.int .i64 0,.int .i64 0,.str []] 0 false:=by
          rw [lH.get _ (fh (by omega)) (by rw [cE];exact id),bh]
         have s8:=lH.next
         obtain ⟨c,ao,uX⟩:∃c:UInt8,x=.int .u8 (c.toNat:Int)∧((∃n,mT (s.drop (a+1))=some (c,n)∧ae.get b=en s ((a+1+n:Nat):Int) 0∧a+1+n≤s.length)∨(mT (s.drop (a+1))=none∧ae.get b=en s ((a+1:Nat):Int) 252)):=by
          cases uJ:mT (s.drop (a+1)) with
          | none=>rw [uJ] at ak;exact ⟨0,ak.1,.inr ⟨rfl,ak.2⟩⟩
          | some q=>rw [uJ] at ak;exact ⟨q.1,ak.1,.inl ⟨q.2,rfl,ak.2⟩⟩
         subst ao
         obtain ⟨v3,aF,aq,av,aK,bD,dr,fi⟩:=step ae (hm.trans lH) s8 jg c
         have Pn:ej (h.next+1) aF 1 v3 (eg.length+1) (gP (eg++[c])):=by rw [List.length_append] at av;exact av
         have xQ:aF.get (ay h.next)=.bq [.int .i64 0,.int .i64 0,.int .i64 0,.str []] 0 false:=by rw [fi,ow]
         unfold en at uX
         rcases uX with ⟨n,uJ,xj,hle⟩ | ⟨uJ,xj⟩
         · simp +contextual only [aq,bO,bZ,aG,xj,dr,b3,cE,↓aw,aJ,simprocAttr]
           rw [uJ] at bt
           simp only at bt
           refine ⟨⟨a+1+n,0,eg++[c],rfl,hle,by omega,by simp;omega,xQ,aK,bD,av,.inl ⟨rfl,?_⟩⟩,by omega⟩
           rw [bt,List.drop_drop,Option.map_map]
           congr 1
           funext q
           simp only [Function.comp,List.append_assoc,List.singleton_append,Prod.mk.injEq,true_and]
           omega
         · simp +contextual only [aq,bO,bZ,aG,xj,dr,b3,cE,↓aw,aJ,simprocAttr]
           rw [uJ] at bt
           exact ⟨⟨a+1,252,eg++[c],rfl,by omega,by omega,by simp;omega,xQ,aK,bD,av,.inr ⟨rfl,bt⟩⟩,by omega⟩
       rw [if_neg bN] at bt
       by_cases c3:s[a]<32∨s[a]=127
       · rw [if_pos c3] at bt
         have ke:(decide (s[a]<32)||decide (s[a]=127))=true:=by simpa using c3
         simp +contextual only [bO,bZ,b6,aG,e2,bh,b3,cE,f0,f1,bK,gD,EH,KV,Np,bs,bN,ke,List.getElem?_eq_getElem aP,Int.toNat_natCast,↓aw,aJ,simprocAttr]
         exact ⟨⟨a,252,eg,rfl,cb,oy,va,hm.self _,kr,dP.mod ((Mod.refl (fun q=>q=b) ab).self _) (vo dP),.inr ⟨rfl,bt⟩⟩,by omega⟩
       · rw [if_neg c3] at bt
         have ke:(decide (s[a]<32)||decide (s[a]=127))=false:=by simpa using c3
         obtain ⟨v3,aF,aq,av,aK,bD,dr,fi⟩:=step (ab.set b (.bq [.str s,.int .i64 ((a+1:Nat):Int),.int .i64 0] 0 false)) (hm.self _) (by rw [nx];exact Nat.le_refl _) (dP.mod ((Mod.refl (fun q=>q=b) ab).self _) (vo dP)) s[a]
         simp only [nx,di,b3,cE,if_true,if_false] at aq dr fi
         simp +contextual only [aq,bO,bZ,b6,aG,e2,bh,b3,cE,f0,f1,bK,gD,EH,KV,Np,bs,bN,ke,dr,List.getElem?_eq_getElem aP,Int.toNat_natCast,↓aw,aJ,simprocAttr]
         refine ⟨⟨a+1,0,eg++[s[a]],rfl,by omega,by omega,by simp;omega,by rw [fi,bh],aK,bD,av,.inl ⟨rfl,?_⟩⟩,by omega⟩
         rw [bt,Option.map_map]
         congr 1
         funext q
         simp only [Function.comp,List.append_assoc,List.singleton_append,Prod.mk.injEq,true_and]
         omega
   · simp +contextual only [bO,bZ,b6,aG,bh,b3,cE,↓aw,aJ,simprocAttr]
     exact fin _ _ bt hm aG
def GU:List UInt8:=[32,97,110,100,32,98,101,103,105,110,32,101,108,115,101,32,101,110,100,32,101,120,99,101,112,116,105,111,110,32,102,97,108,115,101,32,102,117,110,32,105,102,32,105,110,32,108,101,116,32,109,97,116,99,104,32,109,111,100,32,111,102,32,114,97,105,115,101,32,114,101,99,32,116,104,101,110,32,116,114,117,101,32,116,114,121,32,116,121,112,101,32,119,105,116,104,32]
def qE:List (List UInt8)→List UInt8
 | []=>[32]
 | w::L=>32::(w++qE L)
theorem W9:qE GR=GU:=by decide
theorem W8 (L:List (List UInt8)):∃r,qE L=32::r:=by cases L<;>exact ⟨_,rfl⟩
theorem index_ge (sub:List UInt8):∀l:List UInt8,-1≤Lib.index l sub
 | []=>by simp only [Lib.index];split<;>decide
 | b::l=>by
   have:=index_ge sub l
   simp only [Lib.index]
   split
   · decide
   · split<;>omega
theorem M6 (sub:List UInt8) (b:UInt8) (l:List UInt8):(0≤Lib.index (b::l) sub)↔(sub.isPrefixOf (b::l)=true∨0≤Lib.index l sub):=by
 have:=index_ge sub l
 simp only [Lib.index]
 split
 · rename_i h;simp [h]
 · rename_i h
   split
   · rename_i ae
     have:Lib.index l sub=-1:=by simpa using ae
     simp [h,this]
   · rename_i ae
     have aF:¬Lib.index l sub=-1:=by simpa using ae
     simp only [h,Bool.false_eq_true,false_or]
     omega
theorem M8 (x:List UInt8) (r:List UInt8):∀w:List UInt8,(32:UInt8) ∉ w→((0≤Lib.index (w++r) (32::x))↔0≤Lib.index r (32::x))
 | [],_=>Iff.rfl
 | b::w,h=>by
   rw [List.cons_append,M6,M8 x r w (fun q=>h (List.mem_cons_of_mem _ q))]
   have ag:((32:UInt8) == b)=false:=by rw [beq_eq_false_iff_ne];rintro rfl;exact h (List.mem_cons_self ..)
   simp [List.isPrefixOf,ag]
theorem O5 (r:List UInt8):∀(t w:List UInt8),(32:UInt8) ∉ t→(32:UInt8) ∉ w→((t++[32]).isPrefixOf (w++32::r)=true↔t=w)
 | [],[],_,_=>by simp [List.isPrefixOf]
 | [],b::w,_,h=>by
   have ag:((32:UInt8) == b)=false:=by rw [beq_eq_false_iff_ne];rintro rfl;exact h (List.mem_cons_self ..)
   simp [List.isPrefixOf,ag]
 | a::t,[],h,_=>by
   have ag:(a == (32:UInt8))=false:=by rw [beq_eq_false_iff_ne];rintro rfl;exact h (List.mem_cons_self ..)
   simp [List.isPrefixOf,ag]
 | a::t,b::w,h,ab=>by
   have bf:=O5 r t w (fun q=>h (List.mem_cons_of_mem _ q)) (fun q=>ab (List.mem_cons_of_mem _ q))
   simp only [List.cons_append,List.isPrefixOf,Bool.and_eq_true,beq_iff_eq,bf,List.cons.injEq]
theorem M7 (t:List UInt8) (aD:(32:UInt8) ∉ t):∀L:List (List UInt8),(∀w ∈ L,(32:UInt8) ∉ w)→((0≤Lib.index (qE L) (32::(t++[32])))↔t ∈ L)
 | [],_=>by
   cases t<;>simp [qE,Lib.index,List.isPrefixOf]
 | w::L,h=>by
   have bf:=M7 t aD L (fun x ak=>h x (List.mem_cons_of_mem _ ak))
   have hw:=h w (List.mem_cons_self ..)
   obtain ⟨r,aH⟩:=W8 L
   simp only [qE]
   rw [M6,M8 _ _ _ hw,bf,List.mem_cons]
   have:(32::(t++[32])).isPrefixOf (32::(w++qE L))=(t++[32]).isPrefixOf (w++qE L):=by simp [List.isPrefixOf]
   rw [this,aH,O5 r t w aD hw]
theorem V5 (t:List UInt8) (aD:(32:UInt8) ∉ t):Lib.contains GU (32::(t++[32]))=pV t:=by
 have:=M7 t aD GR (by decide)
 rw [W9] at this
 unfold Lib.contains pV
 rw [Bool.eq_iff_iff,decide_eq_true_eq,this]
 simp
theorem adh {l:List UInt8}:(32:UInt8) ∉ l.takeWhile ff:=fun h=>by
 have:=Qk _ h
 revert this
 decide
theorem Bm (s:List UInt8) (a0:Nat) (k:Int) (b:aO) (h:af) (ag:h.get b=en s a0 0) (ba:a0≤s.length) (aQ:s.length≤100000) (fA:Old h b):
 bM Tryz.prog 109 [.ptr b 0,.int .i64 k] h (l6 s a0 b h (ir k (s.drop a0))):=by
 refine Tp rfl (dt ?_)
 unfold DJ
 have b3:(b=ay h.next)=False:=yc fA (Nat.le_refl _)
 have cE:(ay h.next=b)=False:=by rw [←b3];exact propext eq_comm
 simp +contextual only [ag,b3,cE,↓aw,aJ,simprocAttr]
 have ak:Ext h (h.new (.bq [.int .i64 0,.int .i64 0,.int .i64 0,.str []] 0 false)):=(Ext.refl h).new _
 refine cj (PL s a0 0 b 119 sZ _ (by rw [ak.get _ fA,ag]) ba aQ (by decide) (fun c h=>ac2 c h)) ?_
 rintro x aa ⟨rfl,hm,aG⟩
 have iF:(fun c:UInt8=>sZ (c.toNat:Int))=ff:=rfl
 rw [iF] at aG ⊢
 have sD:Mod (fun q=>q=b) h aa:=(ak.mod _).trans hm
 have g1:aa.get (ay h.next)=.bq [.int .i64 0,.int .i64 0,.int .i64 0,.str []] 0 false:=by
  rw [hm.get _ (fh (by rw [e7];omega)) (by rw [cE];exact id)]
  simp only [↓aw,aJ,simprocAttr]
 have hlen:=Ql ff s a0
 have X5:(32:UInt8) ∉ (s.drop a0).takeWhile ff:=adh
 unfold en at aG
 have pG:ir k (s.drop a0)=if k=3∧(s.drop a0).takeWhile ff=[95] then .ok (7,0,(s.drop a0).takeWhile ff,((s.drop a0).takeWhile ff).length) else if k=3∧pV ((s.drop a0).takeWhile ff) then .ok (6,0,(s.drop a0).takeWhile ff,((s.drop a0).takeWhile ff).length) else if 64 < ((s.drop a0).takeWhile ff).length then .error 255 else .ok (k,0,(s.drop a0).takeWhile ff,((s.drop a0).takeWhile ff).length):=rfl
 rw [pG]
 generalize (s.drop a0).takeWhile ff=t at *
 have By:∀(cJ:Int),l6 s a0 b h (.ok (cJ,0,t,t.length)) (.agg [.int .i64 cJ,.int .i64 0,.int .i64 0,.str t]) (aa.set (ay h.next) (.bq [.int .i64 cJ,.int .i64 0,.int .i64 0,.str t] 0 false)):=by
  intro cJ
  refine ⟨sD.fresh (Nat.le_refl _) _,_,_,_,rfl,rfl,rfl,rfl,?_,by show a0+t.length≤s.length;omega⟩
  rw [di,if_neg (by rw [cE];exact id),aG]
  rfl
 have tail:(64<t.length→l6 s a0 b h (.error 255) (.agg [.int .i64 k,.int .i64 0,.int .i64 0,.str t]) ((aa.set b (.bq [.str s,.int .i64 ((a0+t.length:Nat):Int),.int .i64 255] 0 false)).set (ay h.next) (.bq [.int .i64 k,.int .i64 0,.int .i64 0,.str t] 0 false))):=by
  intro ai
  refine ⟨(sD.self _).fresh (Nat.le_refl _) _,_,_,_,rfl,by decide,((a0+t.length:Nat):Int),?_⟩
  simp only [en,b3,cE,↓aw,aJ,simprocAttr]
 by_cases aA:k=3
 · subst aA
   by_cases hu:t=[95]
   · simp +contextual only [g1,aG,b3,cE,hu,true_and,↓aw,aJ,simprocAttr]
     subst hu
     exact By 7
   · have t1:(1+t.length≤top)=True:=eq_true (by unfold top;omega)
     have t2:(t.length+1+1≤top)=True:=eq_true (by unfold top;omega)
     simp only [top] at t1 t2
     simp +contextual only [g1,aG,b3,cE,hu,true_and,List.length_append,t1,t2,↓aw,aJ,simprocAttr]
     refine gp (V4 GU (32::(t++[32])) (by decide) _) ?_
     rw [V5 t X5]
     cases FQ:pV t with
     | true=>
       simp +contextual only [g1,aG,b3,cE,hu,true_and,and_false,FQ,List.length_append,t1,t2,↓aw,aJ,simprocAttr]
       exact By 6
     | false=>
       by_cases ai:64<t.length
       · have eD:(64:Int) < (t.length:Int):=by omega
         simp +contextual only [g1,aG,b3,cE,hu,ai,eD,true_and,and_false,FQ,List.length_append,t1,t2,Bool.false_eq_true,↓aw,aJ,simprocAttr]
         exact tail ai
       · have eD:¬(64:Int) < (t.length:Int):=by omega
         simp +contextual only [g1,aG,b3,cE,hu,ai,eD,true_and,and_false,FQ,List.length_append,t1,t2,Bool.false_eq_true,↓aw,aJ,simprocAttr]
         exact By 3
 · by_cases ai:64<t.length
   · have eD:(64:Int) < (t.length:Int):=by omega
     simp +contextual only [g1,aG,b3,cE,aA,ai,eD,false_and,↓aw,aJ,simprocAttr]
     exact tail ai
   · have eD:¬(64:Int) < (t.length:Int):=by omega
     simp +contextual only [g1,aG,b3,cE,aA,ai,eD,false_and,↓aw,aJ,simprocAttr]
     exact By k
def vI:List V:=hS.map V.str
theorem afS (h:af):bM Tryz.prog 111 [] h fun x ab=>x=.slice (ay h.next) 0 17 17∧ab=h.new (.bq vI 0 false):=by
 refine Tv rfl (dt ?_)
 unfold DM
 simp +contextual only [↓aw,aJ,simprocAttr]
 rfl
theorem afQ {i:Nat} (az:i<17):vI[i]? =some (.str (hS[i]'az)):=by
 unfold vI
 rw [List.getElem?_map,List.getElem?_eq_getElem (show i<hS.length from az)]
 rfl
theorem W5 (p:List UInt8→Bool) {i:Nat} (az:i<17):(hS.drop i).find? p=if p (hS[i]'az) then some (hS[i]'az) else (hS.drop (i+1)).find? p:=by
 rw [List.drop_eq_getElem_cons (show i<hS.length from az),List.find?_cons]
 cases p hS[i]<;>rfl
theorem l6.store {s:List UInt8} {p:Nat} {b:aO} {h:af} {z cB:bW} {res:qy} {x:V} {aa:af} (w:l6 s p b (h.new z) res x aa) (fA:Old h b):l6 s p b h res x (aa.set (ay h.next) cB):=by
 have cE:¬(ay h.next=b):=by
  intro q
  have:b8 b<h.next:=fA
  rw [←q,c4] at this
  omega
 obtain ⟨hm,k,n,t,ak,aH⟩:=w
 refine ⟨((((Ext.refl h).new z).mod _).trans hm).fresh (Nat.le_refl _) _,k,n,t,ak,?_⟩
 cases res with
 | ok q=>simpa only [di,if_neg cE] using aH
 | error e=>simpa only [di,if_neg cE] using aH
theorem adJ (s:List UInt8) (a0:Nat) (b:aO) (h:af) (ag:h.get b=en s a0 0) (ba:a0<s.length) (aQ:s.length≤100000) (fA:Old h b):
 bM Tryz.prog 95 [.ptr b 0] h (l6 s a0 b h (fN (s.drop a0))):=by
 refine Vn rfl (dt ?_)
 unfold Em
 have b3:(b=ay h.next)=False:=yc fA (Nat.le_refl _)
 have cE:(ay h.next=b)=False:=by rw [←b3];exact propext eq_comm
 have g_:=ag
 unfold en at ag
 have f0:(0≤(a0:Int))=True:=eq_true (by omega)
 have f1:((a0:Int) < (s.length:Int))=True:=eq_true (by omega)
 have ak:Ext h (h.new (.bq [.int .i64 0,.int .i64 0,.int .i64 0,.str []] 0 false)):=(Ext.refl h).new _
 have uS:Old (h.new (.bq [.int .i64 0,.int .i64 0,.int .i64 0,.str []] 0 false)) b:=ak.bR fA
 have xc:(h.new (.bq [.int .i64 0,.int .i64 0,.int .i64 0,.str []] 0 false)).get b=en s a0 0:=by rw [ak.get _ fA,g_]
 have uw:∀{res:qy} {x:V} {aa:af},l6 s a0 b (h.new (.bq [.int .i64 0,.int .i64 0,.int .i64 0,.str []] 0 false)) res x aa→aa.get (ay h.next)=.bq [.int .i64 0,.int .i64 0,.int .i64 0,.str []] 0 false:=by
  intro res x aa w
  rw [w.mod.get _ (fh (by rw [e7];omega)) (by rw [cE];exact id)]
  simp only [↓aw,aJ,simprocAttr]
 have aX:=drop_cons ba
 rw [aX]
 have dg:lB ((s[a0]).toNat:Int)=ev s[a0]:=rfl
 have gD:(((s[a0]).toNat:Int)=34)=(s[a0]=34):=vN _ 34 (by omega)
 have qC:(((s[a0]).toNat:Int)=95)=(s[a0]=95):=vN _ 95 (by omega)
 have ug:(((s[a0]).toNat:Int)=39)=(s[a0]=39):=vN _ 39 (by omega)
 simp +contextual only [ag,b3,cE,f0,f1,List.getElem?_eq_getElem ba,Int.toNat_natCast,↓aw,aJ,simprocAttr]
 refine gp (ub _ _) ?_
 rw [dg]
 cases aa:ev s[a0] with
 | true=>
   have dz:fN (s[a0]::s.drop (a0+1))=vp (s.drop a0):=by rw [aX];simp only [fN,aa,if_true]
   rw [dz]
   simp +contextual only [ag,b3,cE,f0,f1,List.getElem?_eq_getElem ba,Int.toNat_natCast,↓aw,aJ,simprocAttr]
   refine cj (adS s a0 b _ xc ba aQ uS aa) ?_
   rintro x ah w
   have g1:=uw w
   obtain ⟨k,n,t,rfl,_⟩:=w.res
   simp +contextual only [g1,ag,b3,cE,f0,f1,↓aw,aJ,simprocAttr]
   exact w.store fA
 | false=>
   by_cases ae:s[a0]=34
   · have dz:fN (s[a0]::s.drop (a0+1))=qc (s.drop (a0+1)):=by simp only [fN];rw [if_neg (by rw [aa];exact Bool.false_ne_true),if_pos ae]
     rw [dz]
     replace ae:=eq_true ae
     simp +contextual only [ag,b3,cE,f0,f1,gD,ae,List.getElem?_eq_getElem ba,Int.toNat_natCast,↓aw,aJ,simprocAttr]
     refine cj (agC s a0 b _ xc ba aQ uS) ?_
     rintro x ah w
     have g1:=uw w
     obtain ⟨k,n,t,rfl,_⟩:=w.res
     simp +contextual only [g1,ag,b3,cE,f0,f1,↓aw,aJ,simprocAttr]
     exact w.store fA
   simp +contextual only [ag,b3,cE,f0,f1,gD,ae,List.getElem?_eq_getElem ba,Int.toNat_natCast,↓aw,aJ,simprocAttr]
   refine gp (Cj _ _) ?_
   by_cases aF:(hA ((s[a0]).toNat:Int)||decide (s[a0]=95))=true
   · have dz:fN (s[a0]::s.drop (a0+1))=ir 3 (s.drop a0):=by rw [aX];simp only [fN,aa,ae,aF,Bool.false_eq_true,if_false,if_true]
     rw [dz]
     have fin:nW Tryz.prog 109 [.ptr b 0,.int .i64 3] (some 33) none [] [] (fun _=>.bad) h (fun _ _ _=>True)→True:=fun _=>trivial
     cases Gp:hA ((s[a0]).toNat:Int) with
     | true=>
       simp +contextual only [ag,b3,cE,f0,f1,gD,ae,Gp,List.getElem?_eq_getElem ba,Int.toNat_natCast,↓aw,aJ,simprocAttr]
       refine cj (Bm s a0 3 b _ xc (by omega) aQ uS) ?_
       rintro x ah w
       have g1:=uw w
       obtain ⟨k,n,t,rfl,_⟩:=w.res
       simp +contextual only [g1,ag,b3,cE,f0,f1,↓aw,aJ,simprocAttr]
       exact w.store fA
     | false=>
       rw [Gp,Bool.false_or,decide_eq_true_eq] at aF
       replace aF:=eq_true aF
       simp +contextual only [ag,b3,cE,f0,f1,gD,qC,ae,aF,Gp,List.getElem?_eq_getElem ba,Int.toNat_natCast,↓aw,aJ,simprocAttr]
       refine cj (Bm s a0 3 b _ xc (by omega) aQ uS) ?_
       rintro x ah w
       have g1:=uw w
       obtain ⟨k,n,t,rfl,_⟩:=w.res
       simp +contextual only [g1,ag,b3,cE,f0,f1,↓aw,aJ,simprocAttr]
       exact w.store fA
   · have E9:=aF
     rw [Bool.not_eq_true,Bool.or_eq_false_iff,decide_eq_false_iff_not] at E9
     obtain ⟨X7,X8⟩:=E9
     simp +contextual only [ag,b3,cE,f0,f1,gD,qC,ae,X7,X8,List.getElem?_eq_getElem ba,Int.toNat_natCast,↓aw,aJ,simprocAttr]
     refine gp (LM _ _) ?_
     cases bu:mc ((s[a0]).toNat:Int) with
     | true=>
       have dz:fN (s[a0]::s.drop (a0+1))=ir 4 (s.drop a0):=by rw [aX];simp only [fN,aa,ae,aF,bu,Bool.false_eq_true,if_false,if_true]
       rw [dz]
       simp +contextual only [ag,b3,cE,f0,f1,List.getElem?_eq_getElem ba,Int.toNat_natCast,↓aw,aJ,simprocAttr]
       refine cj (Bm s a0 4 b _ xc (by omega) aQ uS) ?_
       rintro x ah w
       have g1:=uw w
       obtain ⟨k,n,t,rfl,_⟩:=w.res
       simp +contextual only [g1,ag,b3,cE,f0,f1,↓aw,aJ,simprocAttr]
       exact w.store fA
     | false=>
       have bY:IntKind.i64.wrap ((a0:Int)+1)=((a0+1:Nat):Int):=by rw [wrap_i64 (by omega) (by omega)];rfl
       have f2:(0≤((a0+1:Nat):Int))=True:=eq_true (by omega)
       by_cases cd:s[a0]=39∧od (s.drop (a0+1))
       · have dz:fN (s[a0]::s.drop (a0+1))=(ir 5 (s.drop (a0+1))).map fun q=>(q.1,q.2.1,q.2.2.1,q.2.2.2+1):=by simp only [fN];rw [if_neg (by rw [aa];exact Bool.false_ne_true),if_neg ae,if_neg aF,if_neg (by rw [bu];exact Bool.false_ne_true),if_pos cd]
         rw [dz]
         obtain ⟨AA,AB⟩:=cd
         replace AA:=eq_true AA
         have aP:a0+1<s.length:=by
          by_cases q:a0+1<s.length
          · exact q
          · rw [List.drop_eq_nil_of_le (by omega)] at AB
            cases AB
         rw [drop_cons aP] at AB
         have f3:(((a0+1:Nat):Int) < (s.length:Int))=True:=eq_true (by omega)
         simp +contextual (maxSteps:=1000000) only [ag,b3,cE,f0,f1,f2,f3,bY,gD,qC,ug,ae,AA,List.getElem?_eq_getElem ba,List.getElem?_eq_getElem aP,Int.toNat_natCast,↓aw,aJ,simprocAttr]
         refine gp (Cj _ _) ?_
         rw [show hA ((s[a0+1]).toNat:Int)=true from AB]
         simp +contextual (maxSteps:=1000000) only [ag,b3,cE,f0,f1,f2,f3,bY,gD,qC,ug,ae,AA,List.getElem?_eq_getElem ba,List.getElem?_eq_getElem aP,Int.toNat_natCast,↓aw,aJ,simprocAttr]
         have Mr:Mod (fun q=>q=b) (h.new (.bq [.int .i64 0,.int .i64 0,.int .i64 0,.str []] 0 false)) ((h.new (.bq [.int .i64 0,.int .i64 0,.int .i64 0,.str []] 0 false)).set b (.bq [.str s,.int .i64 ((a0+1:Nat):Int),.int .i64 0] 0 false)):=(Mod.refl _ _).self _
         refine cj (Bm s (a0+1) 5 b _ (by rw [di,if_pos rfl];rfl) (by omega) aQ (Mr.bR uS)) ?_
         rintro x ah w
         have aj:l6 s a0 b (h.new (.bq [.int .i64 0,.int .i64 0,.int .i64 0,.str []] 0 false)) ((ir 5 (s.drop (a0+1))).map fun q=>(q.1,q.2.1,q.2.2.1,q.2.2.2+1)) x ah:=by
          obtain ⟨ag8,k,n,t,ahi,wr⟩:=w
          refine ⟨Mr.trans ag8,k,n,t,ahi,?_⟩
          cases aZ:ir 5 (s.drop (a0+1)) with
          | error e=>rw [aZ] at wr;exact wr
          | ok q=>
            rw [aZ] at wr
            obtain ⟨bz,bZ,b6,eX,dv⟩:=wr
            refine ⟨bz,bZ,b6,?_,?_⟩
            · rw [eX]
              show en s ((a0+1+q.2.2.2:Nat):Int) 0=en s ((a0 + (q.2.2.2+1):Nat):Int) 0
              rw [show a0+1+q.2.2.2=a0 + (q.2.2.2+1) from by omega]
            · show a0 + (q.2.2.2+1)≤s.length
              omega
         have g1:=uw aj
         obtain ⟨k,n,t,rfl,_⟩:=aj.res
         simp +contextual only [g1,ag,b3,cE,f0,f1,↓aw,aJ,simprocAttr]
         exact aj.store fA
       · have dz:fN (s[a0]::s.drop (a0+1))=vH (s.drop a0):=by rw [aX];simp only [fN];rw [if_neg (by rw [aa];exact Bool.false_ne_true),if_neg ae,if_neg aF,if_neg (by rw [bu];exact Bool.false_ne_true),if_neg cd]
         rw [dz]
         have Yw:((s[a0]=39)=False)∨(((s[a0]=39)=True)∧¬a0+1<s.length)∨(((s[a0]=39)=True)∧∃aP:a0+1<s.length,hA ((s[a0+1]).toNat:Int)=false):=by
          by_cases q:s[a0]=39
          · by_cases aP:a0+1<s.length
            · refine .inr (.inr ⟨eq_true q,aP,?_⟩)
              cases aC:hA ((s[a0+1]).toNat:Int) with
              | false=>rfl
              | true=>exact absurd ⟨q,by rw [drop_cons aP];exact aC⟩ cd
            · exact .inr (.inl ⟨eq_true q,aP⟩)
          · exact .inl (eq_false q)
         have two:∀t ∈ hS,t.length≤2:=by decide
         have pb:((17:Nat):Int)=17:=rfl
         rcases Yw with aq | ⟨aq,av⟩ | ⟨aq,aP,av⟩
         case' neg.inl=>
          simp +contextual (maxSteps:=1000000) only [ag,b3,cE,f0,f1,f2,bY,gD,qC,ug,ae,aq,List.getElem?_eq_getElem ba,Int.toNat_natCast,↓aw,aJ,simprocAttr]
         case' neg.inr.inl=>
          have f3:(((a0+1:Nat):Int) < (s.length:Int))=False:=eq_false (by omega)
          simp +contextual (maxSteps:=1000000) only [ag,b3,cE,f0,f1,f2,f3,bY,gD,qC,ug,ae,aq,List.getElem?_eq_getElem ba,Int.toNat_natCast,↓aw,aJ,simprocAttr]
         case' neg.inr.inr=>
          have f3:(((a0+1:Nat):Int) < (s.length:Int))=True:=eq_true (by omega)
          simp +contextual (maxSteps:=1000000) only [ag,b3,cE,f0,f1,f2,f3,bY,gD,qC,ug,ae,aq,List.getElem?_eq_getElem ba,List.getElem?_eq_getElem aP,Int.toNat_natCast,↓aw,aJ,simprocAttr]
          refine gp (Cj _ _) ?_
          rw [av]
          simp +contextual (maxSteps:=1000000) only [ag,b3,cE,f0,f1,f2,f3,bY,gD,qC,ug,ae,aq,List.getElem?_eq_getElem ba,List.getElem?_eq_getElem aP,Int.toNat_natCast,↓aw,aJ,simprocAttr]
         all_goals
          refine cj (afS _) ?_
          rintro x ah ⟨rfl,rfl⟩
          simp +contextual only [↓aw,aJ,simprocAttr]
          refine gS (fun r ab=>r 0=.ptr b 0∧r 2=.ptr (ay h.next) 0∧r 77=.slice (ay (h.next+1)) 0 17 17∧r 78=.int .i64 17∧∃i:Nat,i≤17∧r 79=.int .i64 i∧ab=(h.new (.bq [.int .i64 0,.int .i64 0,.int .i64 0,.str []] 0 false)).new (.bq vI 0 false)∧
           hS.find? (·.isPrefixOf (s.drop a0))=(hS.drop i).find? (·.isPrefixOf (s.drop a0))) (fun r ab=>17 - (r 79).toN) ?_ ?_
          · exact ⟨by simp only [↓aw,aJ,simprocAttr],by simp only [↓aw,aJ,simprocAttr],by simp only [↓aw,aJ,simprocAttr],by simp only [pb,↓aw,aJ,simprocAttr],0,by omega,by simp only [↓aw,aJ,simprocAttr]<;>rfl,rfl,rfl⟩
          · rintro r ab ⟨bO,bZ,B1,B2,i,az,B3,rfl,qN⟩
            unfold Kn
            have Mw:Old ((h.new (.bq [.int .i64 0,.int .i64 0,.int .i64 0,.str []] 0 false)).new (.bq vI 0 false)) b:=(ak.new _).bR fA
            have pz:((h.new (.bq [.int .i64 0,.int .i64 0,.int .i64 0,.str []] 0 false)).new (.bq vI 0 false)).get b=.bq [.str s,.int .i64 a0,.int .i64 0] 0 false:=by rw [(ak.new _).get _ fA,ag]
            have yb:(b=ay (h.next+1))=False:=yc fA (by omega)
            have zI:(ay (h.next+1)=b)=False:=by rw [←yb];exact propext eq_comm
            by_cases nh:i<17
            · have g0:((i:Int)<17)=True:=eq_true (by omega)
              have g1:(0≤(i:Int))=True:=eq_true (by omega)
              rw [W5 _ nh] at qN
              have hlen:=two _ (List.getElem_mem (h:=(show i<hS.length from nh)))
              simp +contextual only [pb,bO,bZ,B1,B2,B3,g0,g1,b3,cE,yb,zI,Int.toNat_natCast,Nat.mul_one,afQ nh,↓aw,aJ,simprocAttr]
              refine gp (Fj s _ (a0:Int) [.int .i64 0] b 0 false _ pz (by omega) (by omega)) ?_
              rw [Int.toNat_natCast]
              cases om:(hS[i]'nh).isPrefixOf (s.drop a0) with
              | true=>
                rw [om,if_pos rfl] at qN
                have jK:(hS[i]'nh).length≤s.length-a0:=by
                 rw [List.isPrefixOf_iff_prefix] at om
                 have:=om.length_le
                 rwa [List.length_drop] at this
                have mJ:IntKind.i64.wrap ((a0:Int) + ((hS[i]'nh).length:Int))=((a0 + (hS[i]'nh).length:Nat):Int):=by rw [wrap_i64 (by omega) (by omega)];rfl
                simp +contextual only [pb,bO,bZ,B1,B2,B3,g0,g1,mJ,b3,cE,yb,zI,ag,↓aw,aJ,simprocAttr]
                unfold vH
                rw [qN]
                refine ⟨(((ak.new _).mod _).self _).fresh (Nat.le_refl _) _,_,_,_,rfl,rfl,rfl,rfl,?_,by show a0 + (hS[i]'nh).length≤s.length;omega⟩
                simp only [en,b3,cE,↓aw,aJ,simprocAttr]
              | false=>
                rw [om,if_neg Bool.false_ne_true] at qN
                have mJ:IntKind.i64.wrap ((i:Int)+1)=((i+1:Nat):Int):=by rw [wrap_i64 (by omega) (by omega)];rfl
                simp +contextual only [pb,bO,bZ,B1,B2,B3,g0,g1,mJ,b3,cE,yb,zI,ag,↓aw,aJ,simprocAttr]
                exact ⟨⟨i+1,by omega,rfl,qN⟩,by omega⟩
            · obtain rfl:i=17:=by omega
              have c7:hS.find? (·.isPrefixOf (s.drop a0))=none:=by rw [qN];rfl
              have g0:((17:Int)<17)=False:=eq_false (by omega)
              simp +contextual only [pb,bO,bZ,B1,B2,B3,g0,pz,b3,cE,yb,zI,ag,↓aw,aJ,simprocAttr]
              unfold vH
              rw [c7]
              refine ⟨(((ak.new _).mod _).self _).fresh (Nat.le_refl _) _,_,_,_,rfl,by decide,(a0:Int),?_⟩
              simp only [en,b3,cE,↓aw,aJ,simprocAttr]
theorem LG (s:List UInt8) (i:Nat):(ByteArray.mk ⟨s⟩).get! i=(s[i]?).getD 0:=by
 show (Array.mk s)[i]! =_
 simp
 rfl
theorem Wg (s:List UInt8) (a:Nat):Lib.decodeGo ⟨⟨s.drop a⟩⟩=if a<s.length then decodeL s a else (65533,0):=by
 unfold Lib.decodeGo decodeL
 have bh:(ByteArray.mk ⟨s.drop a⟩).size=s.length-a:=by
  show (s.drop a).length=_
  rw [List.length_drop]
 have ow:(ByteArray.mk ⟨s⟩).size=s.length:=rfl
 by_cases bn:a<s.length
 · rw [if_pos bn,if_neg (by rw [bh];omega),Lib.decode_at,Lib.decode_at,bh,ow]
   simp only [LG,List.getElem?_drop,Nat.add_zero,Nat.sub_zero,Nat.zero_add]
 · rw [if_neg bn,if_pos (by rw [bh];omega)]
theorem adH {h:af} {b:aO} {s:List UInt8} {a:Nat} (aG:h.get b=.iter s a):
 s6 (.ptr b 0) h=if a<s.length then .val (.tuple [.bool true,.int .i64 a,.int .i32 (decodeL s a).1]) (h.set b (.iter s (a + (decodeL s a).2))) else .val (.tuple [.bool false]) h:=by
 unfold s6
 simp only [V.hQ,aG]
 rw [show Nat.beq 0 0=true from rfl]
 simp only [cond_true]
 by_cases bn:a<s.length
 · rw [if_pos bn,show Nat.blt a s.length=true from by rw [Nat.blt_eq];exact bn]
   rfl
 · rw [if_neg bn,show Nat.blt a s.length=false from by rw [←Bool.not_eq_true,Nat.blt_eq];exact bn]
   rfl
def aay (s:List UInt8):bW→Nat
 | .iter _ a=>s.length-a
 | _=>0
theorem We (s:List UInt8) (a:Nat):1≤(decodeL s a).2:=by
 unfold decodeL
 rw [Lib.decode_at]
 unfold Lib.decodeN
 repeat' split
 all_goals simp
theorem afl (s:List UInt8) (aQ:s.length≤100000) (h:af):bM Tryz.prog 91 [.str s] h fun x ab=>x=.int .i64 (rn s:Nat)∧Ext h ab:=by
 refine Vb rfl (dt ?_)
 unfold Ei
 simp +contextual only [↓aw,aJ,simprocAttr]
 refine gS (fun r ab=>r 0=.str s∧r 8=.ptr (ay h.next) 0∧Ext h ab∧∃a,ab.get (ay h.next)=.iter s a∧rn s=oK s a) (fun r ab=>aay s (ab.get (ay h.next))) ?_ ?_
 · exact ⟨by simp only [↓aw,aJ,simprocAttr],by simp only [↓aw,aJ,simprocAttr],(Ext.refl h).new _,0,by simp only [↓aw,aJ,simprocAttr],rfl⟩
 · rintro r ab ⟨bO,dE,ak,a,aG,bn⟩
   unfold Kl
   have kr:=adH aG
   by_cases aP:a<s.length
   · rw [if_pos aP] at kr
     have ah:=We s a
     by_cases ao:(decodeL s a).1=65533
     · have na:(((decodeL s a).1:Int)=65533)=True:=eq_true (by omega)
       have f0:(0≤(a:Int))=True:=eq_true (by omega)
       have f1:((a:Int)≤(s.length:Int))=True:=eq_true (by omega)
       simp +contextual only [bO,dE,kr,na,f0,f1,Int.toNat_natCast,↓aw,aJ,simprocAttr]
       refine gp (Wf _ _) ?_
       rw [Wg,if_pos aP]
       by_cases hw:(decodeL s a).2=1
       · have Gw:(((decodeL s a).2:Int)=1)=True:=eq_true (by omega)
         have sj:kQ s a=0:=by unfold kQ;rw [if_pos (Prod.ext ao hw)]
         rw [afk aP sj] at bn
         simp +contextual only [bO,dE,kr,na,Gw,f0,f1,Int.toNat_natCast,↓aw,aJ,simprocAttr]
         rw [bn]
         exact ⟨rfl,ak.set (Nat.le_refl _) _⟩
       · have Gw:(((decodeL s a).2:Int)=1)=False:=eq_false (by omega)
         have sj:kQ s a=(decodeL s a).2:=by unfold kQ;rw [if_neg (fun q=>hw (congrArg Prod.snd q))]
         rw [H3 aP (by rw [sj];omega),sj] at bn
         simp +contextual only [bO,dE,kr,na,Gw,f0,f1,Int.toNat_natCast,↓aw,aJ,simprocAttr]
         refine ⟨⟨ak.set (Nat.le_refl _) _,_,rfl,bn⟩,?_⟩
         rw [aG]
         show s.length - (a + (decodeL s a).2)<s.length-a
         omega
     · have na:(((decodeL s a).1:Int)=65533)=False:=eq_false (by omega)
       have sj:kQ s a=(decodeL s a).2:=by unfold kQ;rw [if_neg (fun q=>ao (congrArg Prod.fst q))]
       rw [H3 aP (by rw [sj];omega),sj] at bn
       simp +contextual only [bO,dE,kr,na,Int.toNat_natCast,↓aw,aJ,simprocAttr]
       refine ⟨⟨ak.set (Nat.le_refl _) _,_,rfl,bn⟩,?_⟩
       rw [aG]
       show s.length - (a + (decodeL s a).2)<s.length-a
       omega
   · rw [if_neg aP] at kr
     rw [PE (by omega)] at bn
     simp +contextual only [bO,dE,kr,Int.toNat_natCast,↓aw,aJ,simprocAttr]
     rw [bn]
     exact ⟨rfl,ak⟩
def bU.enc (w:bU):List V:=[.int .i64 w.kind,.int .i64 w.num,.int .i64 w.pos,.str w.text]
def hi:List bU→List V
 | []=>[]
 | w::ws=>w.enc++hi ws
theorem QF:∀a b:List bU,hi (a++b)=hi a++hi b
 | [],b=>rfl
 | w::a,b=>by simp only [hi,List.cons_append,QF a b,List.append_assoc]
def yy (ws:List bU):Except (Int × Nat) (List bU)→Except (Int × Nat) (List bU)
 | .ok bK=>.ok (ws++bK)
 | .error e=>.error e
theorem aeM (ws:List bU) (w:bU) (r:Except (Int × Nat) (List bU)):yy ws (wN w r)=yy (ws++[w]) r:=by
 cases r with
 | ok bK=>simp [yy,wN]
 | error e=>rfl
theorem aeN (r:Except (Int × Nat) (List bU)):yy [] r=r:=by cases r<;>rfl
def Rp (s:List UInt8) (h:af) (x:V) (ab:af):Prop:=Ext h ab∧match jq s with
 | .ok ws=>∃v,x=.tuple [v,.agg [.int .i64 0,.int .i64 0]]∧ej h.next ab 4 v ws.length (hi ws)
 | .error e=>x=.tuple [.b4,.agg [.int .i64 e.1,.int .i64 e.2]]
theorem JW (c:UInt8):(0≤Lib.indexByte [9,10,13,32] c)=(blank c=true):=by
 have ba:∀d:UInt8,(d == c)=decide (c=d):=fun d=>by
  by_cases q:c=d
  · subst q;simp
  · have dS:¬d=c:=fun e=>q e.symm
    simp [q,dS]
 simp only [Lib.indexByte,ba,blank]
 by_cases aa:c=9
 · subst aa;decide
 · by_cases ae:c=10
   · subst ae;decide
   · by_cases aF:c=13
     · subst aF;decide
     · by_cases bu:c=32
       · subst bu;decide
       · simp [aa,ae,aF,bu]
theorem NH (s:List UInt8) (h:af):bM Tryz.prog 72 [.str s] h (Rp s h):=by
 refine UY rfl (dt ?_)
 unfold Ef
 by_cases Mj:(65536:Int) < (s.length:Int)
 · simp +contextual only [Mj,↓aw,aJ,simprocAttr]
   refine ⟨((Ext.refl h).new _).set (Nat.le_refl _) _,?_⟩
   unfold jq
   rw [if_pos (by omega)]
   rfl
 simp +contextual only [Mj,↓aw,aJ,simprocAttr]
 refine cj (afl s (by omega) _) ?_
 rintro x aa ⟨rfl,Gy⟩
 have ak:Ext h (h.new (.bq [.int .i64 0,.int .i64 0] 0 false)):=(Ext.refl h).new _
 have u6:=ak.trans Gy
 have g1:aa.get (ay h.next)=.bq [.int .i64 0,.int .i64 0] 0 false:=by
  rw [Gy.get _ (fh (by rw [e7];omega))]
  simp only [↓aw,aJ,simprocAttr]
 have s7:h.next+1≤aa.next:=Gy.next
 have cp:(ay aa.next=ay h.next)=False:=by rw [p0];exact eq_false (by omega)
 have c1:(ay h.next=ay aa.next)=False:=by rw [p0];exact eq_false (by omega)
 have lQ:(aa.next=h.next)=False:=eq_false (by omega)
 have lR:(h.next=aa.next)=False:=eq_false (by omega)
 have hlen:¬65536<s.length:=by omega
 by_cases aH:rn s<s.length
 · have pJ:((rn s:Int) < (s.length:Int))=True:=eq_true (by omega)
   simp +contextual only [pJ,g1,cp,c1,lQ,lR,↓aw,aJ,simprocAttr]
   refine ⟨u6.set (Nat.le_refl _) _,?_⟩
   unfold jq
   rw [if_neg hlen,if_pos aH]
 have pJ:((rn s:Int) < (s.length:Int))=False:=eq_false (by omega)
 have jM:jq s=oC s 0:=by unfold jq;rw [if_neg hlen,if_neg aH]
 simp +contextual only [pJ,g1,cp,c1,lQ,lR,↓aw,aJ,simprocAttr]
 have Z3:Ext h (aa.new (.bq [.str s,.int .i64 0,.int .i64 0] 0 false)):=u6.new _
 refine gS (fun r ab=>r 0=.str s∧r 3=.ptr (ay h.next) 0∧r 5=.ptr (ay aa.next) 0∧∃(a:Nat) (ws:List bU) (v:V),r 6=v∧ab.get (ay aa.next)=.bq [.str s,.int .i64 a,.int .i64 0] 0 false∧a≤s.length∧ws.length≤a∧
  ab.get (ay h.next)=.bq [.int .i64 0,.int .i64 0] 0 false∧Ext h ab∧aa.next+1≤ab.next∧ej (aa.next+1) ab 4 v ws.length (hi ws)∧jq s=yy ws (oC (s.drop a) a))
  (fun r ab=>s.length - ((hd (ab.get (ay aa.next)) 1).getD .bad).toN) ?_ ?_
 · refine ⟨by simp only [↓aw,aJ,simprocAttr],by simp only [↓aw,aJ,simprocAttr],by simp only [↓aw,aJ,simprocAttr],0,[],.b4,by simp only [↓aw,aJ,simprocAttr],by simp only [↓aw,aJ,simprocAttr]<;>rfl,by omega,by simp,by simp only [g1,cp,lQ,c1,lR,↓aw,aJ,simprocAttr],Z3,?_,⟨rfl,rfl⟩,?_⟩
   · rw [e7];exact Nat.le_refl _
   · rw [jM,List.drop_zero,aeN]
 · rintro r ab ⟨bO,b6,dv,a,ws,v,dZ,aG,cb,kw,bh,A2,kr,dP,bt⟩
   unfold Ki
   have fA:Old ab (ay aa.next):=fh (by omega)
   by_cases e2:(s.length:Int)≤(a:Int)
   · have bn:a=s.length:=by omega
     have AV:jq s=.ok ws:=by
      rw [bt,bn,List.drop_length]
      show Except.ok (ws++[])=_
      rw [List.append_nil]
     simp +contextual only [bO,b6,dv,dZ,aG,bh,e2,cp,c1,lQ,lR,↓aw,aJ,simprocAttr]
     refine ⟨A2.set (Nat.le_refl _) _,?_⟩
     rw [AV]
     refine ⟨v,rfl,?_⟩
     have:=dP.mod ((Mod.refl (fun q=>q=ay h.next) ab).self (.bq [.int .i64 0,.int .i64 0] 0 false)) (fun q aC e=>by
      have ae:=dP.base aC
      rw [show q=ay h.next from e,c4] at ae
      omega)
     exact this.mono (by omega)
   · have aP:a<s.length:=by omega
     rw [drop_cons aP,NG,←drop_cons aP] at bt
     have f0:(0≤(a:Int))=True:=eq_true (by omega)
     have f1:((a:Int) < (s.length:Int))=True:=eq_true (by omega)
     have bY:IntKind.i64.wrap ((a:Int)+1)=((a+1:Nat):Int):=by rw [wrap_i64 (by omega) (by omega)];rfl
     simp +contextual only [bO,b6,dv,dZ,aG,bh,e2,cp,c1,lQ,lR,f0,f1,List.getElem?_eq_getElem aP,Int.toNat_natCast,↓aw,aJ,simprocAttr]
     refine gp (M4 _ _ _) ?_
     rw [Qt]
     by_cases AK:blank s[a]=true
     · have Fp:(0≤Lib.indexByte [9,10,13,32] s[a])=True:=by rw [JW,AK];exact eq_self _
       rw [if_pos AK] at bt
       simp +contextual only [Fp,bY,bO,b6,dv,dZ,aG,bh,e2,cp,c1,lQ,lR,f0,f1,List.getElem?_eq_getElem aP,Int.toNat_natCast,↓aw,aJ,simprocAttr]
       refine ⟨⟨a+1,ws,rfl,by omega,by omega,A2.set (by omega) _,kr,?_,bt⟩,by omega⟩
       exact dP.mod ((Mod.refl (fun q=>q=ay aa.next) ab).self _) (fun q aC e=>by
        have ae:=dP.base aC
        rw [show q=ay aa.next from e,c4] at ae
        omega)
     · have Fp:(0≤Lib.indexByte [9,10,13,32] s[a])=False:=by rw [JW];exact eq_false AK
       rw [if_neg AK] at bt
       simp +contextual only [Fp,bY,bO,b6,dv,dZ,aG,bh,e2,cp,c1,lQ,lR,f0,f1,List.getElem?_eq_getElem aP,Int.toNat_natCast,↓aw,aJ,simprocAttr]
       have xA:=Fj s [40,42] (a:Int) [.int .i64 0] (ay aa.next) 0 false ab aG (by omega) (by omega)
       rw [Int.toNat_natCast] at xA
       refine gp xA ?_
       cases om:([40,42]:List UInt8).isPrefixOf (s.drop a) with
       | true=>
         rw [om,if_pos rfl] at bt
         simp +contextual only [bY,bO,b6,dv,dZ,aG,bh,e2,cp,c1,lQ,lR,f0,f1,List.getElem?_eq_getElem aP,Int.toNat_natCast,↓aw,aJ,simprocAttr]
         refine cj (adR s a 0 (ay aa.next) ab aG cb (by omega) fA) ?_
         rintro x ae ⟨rfl,hm,aZ⟩
         have ow:ae.get (ay h.next)=.bq [.int .i64 0,.int .i64 0] 0 false:=by rw [hm.get _ (fh (by omega)) (by rw [c1];exact id),bh]
         have A0:Ext h ae:=A2.q5 hm (fun b ag=>by rw [show b=ay aa.next from ag,c4];omega)
         have s8:=hm.next
         have jg:=dP.mod hm (fun q aC e=>by
          have ae:=dP.base aC
          rw [show q=ay aa.next from e,c4] at ae
          omega)
         cases F9:gU (s.drop a) 0 with
         | some n=>
           rw [F9] at aZ bt
           obtain ⟨g2,hle⟩:=aZ
           have xz:=Bv F9
           unfold en at g2
           simp +contextual only [bY,bO,b6,dv,dZ,g2,aG,ow,e2,cp,c1,lQ,lR,f0,f1,List.getElem?_eq_getElem aP,Int.toNat_natCast,↓aw,aJ,simprocAttr]
           refine ⟨⟨a+n,ws,rfl,hle,by omega,A0,by omega,jg,?_⟩,by omega⟩
           rw [bt]
           simp only [List.drop_drop]
         | none=>
           rw [F9] at aZ bt
           unfold en at aZ
           simp +contextual only [bY,bO,b6,dv,dZ,aZ,aG,ow,e2,cp,c1,lQ,lR,f0,f1,List.getElem?_eq_getElem aP,Int.toNat_natCast,↓aw,aJ,simprocAttr]
           refine ⟨A0.set (Nat.le_refl _) _,?_⟩
           rw [bt]
           rfl
       | false=>
         rw [om,if_neg Bool.false_ne_true] at bt
         simp +contextual only [bY,bO,b6,dv,dZ,aG,bh,e2,cp,c1,lQ,lR,f0,f1,List.getElem?_eq_getElem aP,Int.toNat_natCast,↓aw,aJ,simprocAttr]
         refine cj (adJ s a (ay aa.next) ab aG aP (by omega) fA) ?_
         rintro x ae w
         obtain ⟨hm,k,n,t,rfl,uW⟩:=w
         have ow:ae.get (ay h.next)=.bq [.int .i64 0,.int .i64 0] 0 false:=by rw [hm.get _ (fh (by omega)) (by rw [c1];exact id),bh]
         have A0:Ext h ae:=A2.q5 hm (fun b ag=>by rw [show b=ay aa.next from ag,c4];omega)
         have s8:=hm.next
         have jg:=dP.mod hm (fun q aC e=>by
          have ae:=dP.base aC
          rw [show q=ay aa.next from e,c4] at ae
          omega)
         have m0:(ay ae.next=ay h.next)=False:=by rw [p0];exact eq_false (by omega)
         have m1:(ay ae.next=ay aa.next)=False:=by rw [p0];exact eq_false (by omega)
         have NT:(ae.next=h.next)=False:=eq_false (by omega)
         have NU:(ae.next=aa.next)=False:=eq_false (by omega)
         have A1:Ext ae (((ae.new (.bq [.int .i64 0,.int .i64 0,.int .i64 0,.str []] 0 false)).set (ay ae.next) (.bq [.int .i64 k,.int .i64 n,.int .i64 0,.str t] 0 false)).set (ay ae.next) (.bq [.int .i64 k,.int .i64 n,.int .i64 a,.str t] 0 false)):=(((Ext.refl ae).new _).set (Nat.le_refl _) _).set (Nat.le_refl _) _
         obtain ⟨v3,aF,aq,av,aK,bD,dr⟩:=zC (cs:=[.int .i64 k,.int .i64 n,.int .i64 a,.str t]) (by omega) (jg.ext A1) (by simp only [nx,e7];omega) (by unfold top;omega) rfl rfl
         simp only [nx,e7] at aq bD
         have MS:Ext h aF:=(A0.trans A1).q5 aK (fun b ag=>Nat.le_trans (by omega) (jg.base ag))
         have xQ:aF.get (ay h.next)=.bq [.int .i64 0,.int .i64 0] 0 false:=by
          rw [aK.get _ (fh (by simp only [nx,e7];omega)) (fun aC=>by have:=jg.base aC;rw [c4] at this;omega),A1.get _ (fh (by omega)),ow]
         have kZ:aF.get (ay aa.next)=ae.get (ay aa.next):=by
          rw [aK.get _ (fh (by simp only [nx,e7];omega)) (fun aC=>by have:=jg.base aC;rw [c4] at this;omega),A1.get _ (fh (by omega))]
         cases kr:fN (s.drop a) with
         | ok q=>
           have xz:=Hh kr
           rw [kr] at uW bt
           obtain ⟨rfl,rfl,rfl,g2,hle⟩:=uW
           unfold en at g2
           rw [g2] at kZ
           simp +contextual only [aq,m0,m1,NT,NU,bY,bO,b6,dv,dZ,g2,kZ,aG,ow,e2,cp,c1,lQ,lR,f0,f1,List.getElem?_eq_getElem aP,Int.toNat_natCast,↓aw,aJ,simprocAttr]
           refine ⟨⟨a+q.2.2.2,ws++[⟨q.1,q.2.1,a,q.2.2.1⟩],rfl,hle,by simp;omega,xQ,MS,by omega,?_,?_⟩,by omega⟩
           · rw [List.length_append,QF]
             exact av
           · rw [bt,aeM]
             simp only [List.drop_drop]
         | error e=>
           rw [kr] at uW bt
           obtain ⟨he,bg,g2⟩:=uW
           unfold en at g2
           rw [g2] at kZ
           simp +contextual only [he,aq,m0,m1,NT,NU,bY,bO,b6,dv,dZ,g2,kZ,xQ,aG,ow,e2,cp,c1,lQ,lR,f0,f1,List.getElem?_eq_getElem aP,Int.toNat_natCast,↓aw,aJ,simprocAttr]
           refine ⟨MS.set (Nat.le_refl _) _,?_⟩
           rw [bt]
           rfl
def tm (L:List (List UInt8)):List V:=L.map V.str
theorem Iq (L:List (List UInt8)):(tm L).length=L.length:=by simp [tm]
theorem ago {L:List (List UInt8)} {i:Nat} (az:i<L.length):(tm L)[i]? =some (.str L[i]):=by
 unfold tm
 rw [List.getElem?_map,List.getElem?_eq_getElem az]
 rfl
theorem Wu {t:List UInt8} {L:List (List UInt8)} {i:Nat} (az:i<L.length):(L.drop i).contains t=(decide (L[i]=t)||(L.drop (i+1)).contains t):=by
 rw [List.drop_eq_getElem_cons az,List.contains_cons]
 congr 1
 rw [Bool.eq_iff_iff]
 simp
 exact eq_comm
def Fw:List UInt8→Bool
 | d::_=>mc d.toNat
 | []=>false
def ee (k:Int) (s:List UInt8):Bool:=
 decide (s≠[])&&decide (s.length≤64)&&s.all ff&&(if k=3 then (od s||s.head? == some 95)&&!decide (s=[95])&&!pV s else if k=4 then Fw s else od s)
theorem aak (t:List UInt8) (L:List (List UInt8)) (v:V) (h:af) (H:eL h 1 v L.length (tm L)) (cV:L.length≤100000):
 bM Tryz.prog 74 [v,.str t] h fun x ab=>ab=h∧∃i:Int,x=.int .i64 i∧decide (0≤i)=L.contains t:=by
 refine U4 rfl (dt ?_)
 unfold Eh
 simp +contextual only [H.len,↓aw,aJ,simprocAttr]
 refine gS (fun r ab=>ab=h∧r 0=v∧r 1=.str t∧r 7=.int .i64 L.length∧∃i:Nat,r 8=.int .i64 i∧i≤L.length∧L.contains t=(L.drop i).contains t) (fun r ab=>L.length - (r 8).toN) ?_ ?_
 · exact ⟨rfl,by simp only [↓aw,aJ,simprocAttr],by simp only [↓aw,aJ,simprocAttr],by simp only [↓aw,aJ,simprocAttr],0,by simp only [↓aw,aJ,simprocAttr]<;>rfl,by omega,rfl⟩
 · rintro r ab ⟨rfl,bO,bz,fj,i,dE,az,bt⟩
   unfold Kj
   by_cases aP:i<L.length
   · have g0:((i:Int) < (L.length:Int))=True:=eq_true (by omega)
     obtain ⟨b7,c2,sP,mP⟩:=H.c0 (k:=.i64) aP
     have fS:=mP.fS (i:=i * 1) (by rw [Iq];omega)
     simp only [Nat.mul_one] at fS sP
     have FK:(tm L)[i]'(by rw [Iq];exact aP)=.str L[i]:=by
      have:=ago aP
      rw [List.getElem?_eq_getElem (by rw [Iq];exact aP)] at this
      exact Option.some.inj this
     rw [FK] at fS
     rw [Wu aP] at bt
     have w:IntKind.i64.wrap ((i:Int)+1)=((i+1:Nat):Int):=by rw [wrap_i64 (by omega) (by omega)];rfl
     by_cases he:t=L[i]
     · have dA:decide (t=L[i])=true:=decide_eq_true he
       simp +contextual only [bO,bz,fj,dE,g0,sP,fS,dA,↓aw,aJ,simprocAttr]
       exact ⟨i,rfl,by rw [bt,←he];simp⟩
     · have dA:decide (t=L[i])=false:=decide_eq_false he
       simp +contextual only [bO,bz,fj,dE,g0,sP,fS,dA,w,↓aw,aJ,simprocAttr]
       refine ⟨⟨i+1,rfl,aP,?_⟩,by omega⟩
       rw [bt,decide_eq_false (fun q=>he q.symm),Bool.false_or]
   · have g0:((i:Int) < (L.length:Int))=False:=eq_false (by omega)
     rw [List.drop_eq_nil_of_le (by omega)] at bt
     simp +contextual only [bO,bz,fj,dE,g0,↓aw,aJ,simprocAttr]
     exact ⟨_,rfl,by rw [bt];rfl⟩
theorem V2 (t:List UInt8) (L:List (List UInt8)) (v:V) (h:af) (H:eL h 1 v L.length (tm L)) (cV:L.length≤100000):
 eS Tryz.prog 63 [v,.str t] h (.bool (L.contains t)) h:=by
 refine oI (UU rfl (dt ?_))
 unfold Ee
 simp +contextual only [↓aw,aJ,simprocAttr]
 refine cj (aak t L v h H cV) ?_
 rintro x aa ⟨rfl,i,rfl,az⟩
 simp +contextual only [az,↓aw,aJ,simprocAttr]
theorem Sr {s:List UInt8} (h:∀c ∈ s,c.toNat<128):rn s=s.length:=by
 have ao:∀a,a<s.length→kQ s a=1:=by
  intro a bn
  have aX:decodeL s a=((s[a]).toNat,1):=by
   unfold decodeL
   rw [Lib.decode_at]
   simp only [LG,List.getElem?_eq_getElem bn,Option.getD_some]
   unfold Lib.decodeN
   rw [if_pos (h _ (List.getElem_mem bn))]
  unfold kQ
  rw [aX,if_neg (by
   have:=h _ (List.getElem_mem bn)
   simp only [Prod.mk.injEq,and_true]
   omega)]
 have:∀n a,s.length-a=n→a≤s.length→oK s a=s.length:=by
  intro n
  induction n with
  | zero=>intro a aa ae;exact PE (by omega)
  | succ n bf=>
    intro a aa ae
    have aP:a<s.length:=by omega
    rw [H3 aP (by rw [ao a aP];decide),ao a aP]
    exact bf _ (by omega) (by omega)
 exact this s.length 0 (by omega) (by omega)
theorem ac3 {s:List UInt8} (h:∀c ∈ s,c.toNat<128):jq s=if 65536<s.length then .error (3,0) else oC s 0:=by
 unfold jq
 rw [Sr h,if_neg (Nat.lt_irrefl _)]
theorem adi {c:UInt8} (h:ff c=true):blank c=false∧c≠40:=by
 constructor
 · cases ag:blank c with
   | false=>rfl
   | true=>
     unfold blank at ag
     simp only [Bool.or_eq_true,decide_eq_true_eq] at ag
     rcases ag with ((rfl | rfl) | rfl) | rfl<;>exact absurd h (by decide)
 · rintro rfl
   exact absurd h (by decide)
theorem adM {c:UInt8} (h:c≠40) (r:List UInt8):([40,42]:List UInt8).isPrefixOf (c::r)=false:=by
 have:((40:UInt8) == c)=false:=by rw [beq_eq_false_iff_ne];exact fun q=>h q.symm
 simp [List.isPrefixOf,this]
theorem P3 {c:UInt8} (h:hA c.toNat=true):ev c=false∧c≠34:=by
 unfold hA at h
 simp only [Bool.and_eq_true,decide_eq_true_eq] at h
 refine ⟨?_,by rintro rfl;exact absurd h (by decide)⟩
 unfold ev lB
 simp only [Bool.and_eq_false_iff,decide_eq_false_iff_not]
 omega
theorem XT {c:UInt8} (h:mc c.toNat=true):ev c=false∧c≠34∧hA c.toNat=false∧c≠95:=by
 unfold mc at h
 simp only [Bool.and_eq_true,decide_eq_true_eq] at h
 refine ⟨?_,by rintro rfl;exact absurd h (by decide),?_,by rintro rfl;exact absurd h (by decide)⟩
 · unfold ev lB
   simp only [Bool.and_eq_false_iff,decide_eq_false_iff_not]
   omega
 · unfold hA
   simp only [Bool.and_eq_false_iff,decide_eq_false_iff_not]
   omega
theorem Hb {k:Int} {s:List UInt8} (h:ee k s=true):s≠[]∧s.length≤64∧s.all ff=true∧(if k=3 then (od s||s.head? == some 95)&&!decide (s=[95])&&!pV s else if k=4 then Fw s else od s)=true:=by
 unfold ee at h
 rw [Bool.and_eq_true,Bool.and_eq_true,Bool.and_eq_true,decide_eq_true_eq,decide_eq_true_eq] at h
 exact ⟨h.1.1.1,h.1.1.2,h.1.2,h.2⟩
theorem adK {c:UInt8} {t:List UInt8} (h:hA c.toNat=true∨c=95):fN (c::t)=ir 3 (c::t):=by
 have aX:ev c=false:=h.elim (fun q=>(P3 q).1) (fun q=>by rw [q];decide)
 have X6:c≠34:=h.elim (fun q=>(P3 q).2) (fun q=>by rw [q];decide)
 have aQ:(hA c.toNat||decide (c=95))=true:=by simpa using h
 simp only [fN,aX,aQ,if_neg X6,Bool.false_eq_true,if_false,if_true]
theorem Sq {c:UInt8} (h:ff c=true):c.toNat<128:=by
 unfold ff sZ lB hA mc at h
 simp only [Bool.or_eq_true,Bool.and_eq_true,decide_eq_true_eq] at h
 omega
theorem Qs {p:UInt8→Bool}:∀s:List UInt8,s.all p=true→s.takeWhile p=s
 | [],_=>rfl
 | c::s,h=>by
   rw [List.all_cons,Bool.and_eq_true] at h
   rw [List.takeWhile_cons,h.1,if_pos rfl,Qs s h.2]
theorem JB (p:UInt8→Bool):∀s:List UInt8,(s.takeWhile p).all p=true
 | []=>rfl
 | c::s=>by
   rw [List.takeWhile_cons]
   split
   · rename_i h;rw [List.all_cons,h,JB p s];rfl
   · rfl
theorem Ha {k:Int} {c:UInt8} {r:List UInt8} {q:Int × Int × List UInt8 × Nat} (aA:(k=3∧(hA c.toNat=true∨c=95))∨(k=4∧mc c.toNat=true)∨(k=5∧hA c.toNat=true)) (h:ir k (c::r)=.ok q) (aC:q.1=3∨q.1=4∨q.1=5):
 q.1=k∧ee k q.2.2.1=true:=by
 have ai:ff c=true:=by
  rcases aA with ⟨_,q | q⟩ | ⟨_,q⟩ | ⟨_,q⟩
  · exact Ig q
  · exact Qw q
  · exact LL q
  · exact Ig q
 have aD:(c::r).takeWhile ff=c::r.takeWhile ff:=by rw [List.takeWhile_cons,if_pos ai]
 have bn:=JB ff (c::r)
 rw [aD] at bn
 unfold ir at h
 simp only [aD] at h
 generalize r.takeWhile ff=t at *
 split at h
 · cases h;simp at aC
 · rename_i Zq
   split at h
   · cases h;simp at aC
   · rename_i uV
     split at h
     · cases h
     · rename_i hlen
       cases h
       refine ⟨rfl,?_⟩
       have k3:(if k=3 then (od (c::t)||(c::t).head? == some 95)&&!decide (c::t=[95])&&!pV (c::t) else if k=4 then Fw (c::t) else od (c::t))=true:=by
        rcases aA with ⟨rfl,z⟩ | ⟨rfl,z⟩ | ⟨rfl,z⟩
        · rw [if_pos rfl]
          have aa:(od (c::t)||(c::t).head? == some 95)=true:=by
           rcases z with z | z
           · show (hA c.toNat||_)=true
             rw [z];rfl
           · subst z;simp
          rw [aa,decide_eq_false (fun z=>Zq ⟨rfl,z⟩),Bool.eq_false_iff.2 (fun z=>uV ⟨rfl,z⟩)]
          rfl
        · exact z
        · exact z
       show ee k (c::t)=true
       unfold ee
       rw [k3,bn,decide_eq_true (show c::t≠[] by simp),decide_eq_true (show (c::t).length≤64 by omega)]
       rfl
theorem adF {r:List UInt8} {q:Int × Int × List UInt8 × Nat} (h:fN r=.ok q) (aC:q.1=3∨q.1=4∨q.1=5):ee q.1 q.2.2.1=true:=by
 match r,h with
 | c::r,h=>
   simp only [fN] at h
   split at h
   · unfold vp at h
     simp only at h
     split at h
     · cases h
     · cases h;simp at aC
   · split at h
     · unfold qc at h
       split at h
       · cases h
       · split at h
         · cases h
         · cases h;simp at aC
     · split at h
       · rename_i aQ
         have:=Ha (.inl ⟨rfl,by simpa using aQ⟩) h aC
         rw [this.1];exact this.2
       · split at h
         · rename_i aQ
           have:=Ha (.inr (.inl ⟨rfl,aQ⟩)) h aC
           rw [this.1];exact this.2
         · split at h
           · rename_i aQ
             cases aZ:ir 5 r with
             | error e=>rw [aZ] at h;cases h
             | ok dS=>
               rw [aZ] at h
               cases h
               obtain ⟨d,t,rfl⟩:∃d t,r=d::t:=by
                cases r with
                | nil=>simp [od] at aQ
                | cons d t=>exact ⟨d,t,rfl⟩
               have:=Ha (.inr (.inr ⟨rfl,aQ.2⟩)) aZ aC
               show ee dS.1 dS.2.2.1=true
               rw [this.1];exact this.2
           · unfold vH at h
             split at h
             · cases h;simp at aC
             · cases h
theorem x6:∀(f:Nat) (r:List UInt8) (p:Nat) (ws:List bU),la f r p=.ok ws→∀w ∈ ws,w.kind=3∨w.kind=4∨w.kind=5→ee w.kind w.text=true
 | 0,r,p,ws,h,w,hw,_=>by simp only [la,Except.ok.injEq] at h;subst h;cases hw
 | f+1,[],p,ws,h,w,hw,_=>by simp only [la,Except.ok.injEq] at h;subst h;cases hw
 | f+1,c::r,p,ws,h,w,hw,aA=>by
   simp only [la] at h
   split at h
   · exact x6 f _ _ ws h w hw aA
   · split at h
     · split at h
       · cases h
       · exact x6 f _ _ ws h w hw aA
     · split at h
       · cases h
       · rename_i q aZ
         cases aH:la f ((c::r).drop q.2.2.2) (p+q.2.2.2) with
         | error aN=>rw [aH] at h;cases h
         | ok bK=>
           rw [aH] at h
           simp only [wN,Except.ok.injEq] at h
           subst h
           rcases List.mem_cons.1 hw with rfl | hw
           · exact adF aZ aA
           · exact x6 f _ _ bK aH w hw aA
theorem afc {k:Int} {s:List UInt8} (aA:k=3∨k=4∨k=5) (h:ee k s=true):jq (if k=5 then 39::s else s)=.ok [⟨k,0,0,s⟩]:=by
 obtain ⟨g1,g2,g3,g4⟩:=Hb h
 obtain ⟨c,t,rfl⟩:=List.exists_cons_of_ne_nil g1
 have Yq:∀d ∈ (if k=5 then 39::c::t else c::t),d.toNat<128:=by
  intro d aX
  have aa:∀d ∈ c::t,d.toNat<128:=fun d aX=>Sq (List.all_eq_true.1 g3 d aX)
  split at aX
  · rcases List.mem_cons.1 aX with rfl | aX
    · decide
    · exact aa d aX
  · exact aa d aX
 rw [ac3 Yq,if_neg (by split<;>simp only [List.length_cons] at g2 ⊢<;>omega)]
 have ai:ff c=true:=by rw [List.all_cons,Bool.and_eq_true] at g3;exact g3.1
 obtain ⟨b7,b_⟩:=adi ai
 have rd:∀j:Int,(j=3→c::t≠[95]∧pV (c::t)=false)→ir j (c::t)=.ok (j,0,c::t,(c::t).length):=by
  intro j bI
  unfold ir
  simp only [Qs _ g3]
  rw [if_neg (fun q=>(bI q.1).1 q.2),if_neg (fun q=>by rw [(bI q.1).2] at q;simp at q),if_neg (by omega)]
 have fin:∀(d:UInt8) (u:List UInt8) (q:Int × Int × List UInt8 × Nat),blank d=false→d≠40→fN (d::u)=.ok q→q.2.2.2=(d::u).length→oC (d::u) 0=.ok [⟨q.1,q.2.1,0,q.2.2.1⟩]:=by
  intro d u q aN aY cz gq
  rw [NG,aN,if_neg Bool.false_ne_true,adM aY,if_neg Bool.false_ne_true,cz]
  simp only [gq,List.drop_length]
  rfl
 rcases aA with rfl | rfl | rfl
 · rw [if_neg (by decide)]
   rw [if_pos rfl] at g4
   simp only [Bool.and_eq_true,Bool.not_eq_true',decide_eq_false_iff_not,Bool.or_eq_true,beq_iff_eq] at g4
   have a':hA c.toNat=true∨c=95:=g4.1.1.imp id (fun q=>Option.some.inj q)
   exact fin c t _ b7 b_ (by rw [adK a'];exact rd 3 (fun _=>⟨g4.1.2,g4.2⟩)) rfl
 · rw [if_neg (by decide)]
   rw [if_neg (by decide),if_pos rfl] at g4
   have aG:mc c.toNat=true:=g4
   obtain ⟨c1,hO,n3,n4⟩:=XT aG
   refine fin c t (4,0,c::t,(c::t).length) b7 b_ ?_ rfl
   simp only [fN,c1,n3,aG,if_neg hO,Bool.false_eq_true,if_false,if_true,Bool.false_or,decide_eq_true_eq,if_neg n4]
   exact rd 4 (fun q=>absurd q (by decide))
 · rw [if_pos rfl]
   rw [if_neg (by decide),if_neg (by decide)] at g4
   refine fin 39 (c::t) (5,0,c::t,(c::t).length+1) (by decide) (by decide) ?_ rfl
   simp only [fN]
   rw [if_neg (by decide),if_neg (by decide),if_neg (by decide),if_neg (by decide),if_pos ⟨trivial,g4⟩,rd 5 (fun q=>absurd q (by decide))]
   rfl
def qi (k:Int) (s:List UInt8):Bool:=decide (s.length≤64)&&decide (s≠[])&&(match jq (if k=5 then 39::s else s) with
 | .ok [w]=>decide (w.kind=k)&&decide (w.pos=0)&&decide (w.text≠[])&&decide ((if k=5 then 39::s else s)=(if w.kind=5 then 39::w.text else w.text))
 | _=>false)
theorem ag9 {k:Int} (aA:k=3∨k=4∨k=5) (s:List UInt8):qi k s=ee k s:=by
 rw [Bool.eq_iff_iff]
 refine ⟨fun h=>?_,fun h=>?_⟩
 · unfold qi at h
   simp only [Bool.and_eq_true,decide_eq_true_eq] at h
   obtain ⟨_,aF⟩:=h
   split at aF
   · rename_i w hw
     simp only [Bool.and_eq_true,decide_eq_true_eq] at aF
     obtain ⟨⟨⟨aN,_⟩,_⟩,gq⟩:=aF
     subst aN
     have aZ:ee w.kind w.text=true:=by
      generalize (if w.kind=5 then 39::s else s)=z at hw
      unfold jq at hw
      split at hw
      · cases hw
      · split at hw
        · cases hw
        · exact x6 _ _ _ _ hw w (by simp) aA
     have:s=w.text:=by
      split at gq
      · exact (List.cons.inj gq).2
      · exact gq
     rw [this];exact aZ
   · cases aF
 · obtain ⟨g1,g2,_,_⟩:=Hb h
   unfold qi
   rw [afc aA h]
   simp [g1,g2]
theorem aL.Nn [Lay] {F:aO→Prop} {h:af} {l:List aL} {v:V} (H:ch F h 5 (l.map aL.enc) v) {k:IntKind} {i:Nat} (az:i<l.length):
 ∃b off cH,jj 5 v (.int k i)=some (.ptr b (off+i * 5))∧b9 F h l[i].enc [.int .i64 l[i].k,.int .i64 l[i].n,.int .i64 l[i].a,.str l[i].s,cH]∧ch F h 5 (l[i].l.map aL.enc) cH∧
  (∀ab,Ext h ab→lO 5 (ab.get b) (off+i * 5)=some (.agg [.int .i64 l[i].k,.int .i64 l[i].n,.int .i64 l[i].a,.str l[i].s,cH]))∧
  (∀ab,Ext h ab→hd (ab.get b) (off+i * 5)=some (.int .i64 l[i].k))∧(∀ab,Ext h ab→hd (ab.get b) (off+i * 5+3)=some (.str l[i].s))∧(∀ab,Ext h ab→hd (ab.get b) (off+i * 5+4)=some cH):=by
 obtain ⟨b,off,u,aN,aY,cz,gq,jE⟩:=H.at (k:=k) (i:=i) (by rw [List.length_map];exact az)
 rw [List.getElem_map] at aY
 obtain ⟨cH,rfl,L,_⟩:=aL.open aY
 exact ⟨b,off,cH,aN,aY,L,gq,fun ab e=>by simpa using jE ab e 0 (by omega),fun ab e=>by simpa using jE ab e 3 (by omega),fun ab e=>by simpa using jE ab e 4 (by omega)⟩
theorem aeO {l:List aL} {i:Nat} (az:i<l.length):dD l[i].l<dD l:=by
 have aa:=tc (List.getElem_mem az)
 have ae:=size_eq l[i]
 omega
set_option maxHeartbeats 1000000 in
theorem OK:∀(N:Nat) (l:List aL),dD l<N→∀(m:Int) (v:V) (h:af),ch Any h 5 (l.map aL.enc) v→bM Tryz.prog 33 [v,.int .i64 m] h fun x ab=>(∃n,x=.int .i64 n)∧ab=h
 | 0,l,aQ,_,_,_,_=>by omega
 | N+1,l,aQ,m,v,h,L=>by
   have ai:=L.len
   have hle:=L.le
   rw [List.length_map] at ai hle
   refine Uc rfl (dt ?_)
   unfold D2
   simp +contextual only [↓aw,aJ,simprocAttr]
   refine gS (fun r g=>r 0=v∧r 1=.int .i64 m∧g=h∧∃(i:Nat) (n:Int),r 5=.int .i64 n∧r 6=.int .i64 i∧i≤l.length) (fun r g=>l.length - (r 6).toN) ?_ ?_
   · exact ⟨by simp only [↓aw,bw,simprocAttr],by simp only [↓aw,bw,simprocAttr],rfl,0,0,by simp only [↓aw,bw,simprocAttr],by simp only [↓aw,bw,simprocAttr]<;>rfl,by omega⟩
   rintro r g ⟨bO,bz,rfl,i,n,dv,dZ,az⟩
   unfold Ka
   by_cases aP:i<l.length
   · have g0:((i:Int) < (l.length:Int))=True:=eq_true (by omega)
     by_cases aZ:n≤m
     · have F3:=eq_true aZ
       obtain ⟨b,off,wl,c0,X,gY,ld,vc,acO,acP⟩:=aL.Nn L (k:=.i64) aP
       have d3:=acO g (Ext.refl g)
       have d4:=acP g (Ext.refl g)
       have eR:=kF aP (by unfold top at hle;omega)
       have e8:l[i].s.length≤top:=by obtain ⟨_,_,_,q⟩:=aL.open X;exact q
       have ae2:=ae3 (P:=Tryz.prog) (n:=l[i].s.length) (by unfold top at e8;omega)
       simp +contextual only [bO,bz,dv,dZ,ai,g0,F3,c0,d3,d4,ae2,↓aw,aJ,simprocAttr]
       refine cj (OK N l[i].l (by have:=aeO aP;omega) _ wl g gY) ?_
       rintro x g2 ⟨⟨y,rfl⟩,rfl⟩
       simp +contextual only [bO,bz,dv,dZ,eR,↓aw,aJ,simprocAttr]
       exact ⟨⟨i+1,_,rfl,rfl,aP⟩,by omega⟩
     · have F3:=eq_false aZ
       simp +contextual only [bO,bz,dv,dZ,ai,g0,F3,↓aw,aJ,simprocAttr]
       exact ⟨_,rfl⟩
   · have g0:((i:Int) < (l.length:Int))=False:=eq_false (by omega)
     simp +contextual only [bO,bz,dv,dZ,ai,g0,↓aw,aJ,simprocAttr]
     exact ⟨_,rfl⟩
theorem acA (l:List aL) (m:Int) (v:V) (h:af) (L:ch Any h 5 (l.map aL.enc) v):bM Tryz.prog 8 [v,.int .i64 m] h fun x ab=>(∃b,x=.bool b)∧ab=h:=by
 refine U' rfl (dt ?_)
 unfold tZ
 simp +contextual only [↓aw,aJ,simprocAttr]
 refine cj (OK _ l (Nat.lt_succ_self _) m v h L) ?_
 rintro x g2 ⟨⟨y,rfl⟩,rfl⟩
 simp +contextual only [↓aw,aJ,simprocAttr]
 exact ⟨_,rfl⟩
set_option maxHeartbeats 2000000 in
theorem PU:∀(N:Nat),(∀(t:aL),2 * t.size<N→∀(ad ws:List V) (h:af),b9 Any h t.enc ad→b9 Any h t.enc ws→bM Tryz.prog 20 [.agg ad,.agg ws] h fun x ab=>x=.bool true∧Ext h ab)∧
 (∀(l:List aL),2 * dD l+1<N→∀(v w:V) (h:af),ch Any h 5 (l.map aL.enc) v→ch Any h 5 (l.map aL.enc) w→bM Tryz.prog 17 [v,w] h fun x ab=>x=.bool true∧Ext h ab)
 | 0=>⟨fun t q=>by omega,fun l q=>by omega⟩
 | N+1=>by
   obtain ⟨A5,xS⟩:=PU N
   refine ⟨fun t aQ ad ws h H cG=>?_,fun l aQ v w h L nO=>?_⟩
   · obtain ⟨cH,rfl,L,_⟩:=aL.open H
     obtain ⟨wl,rfl,nO,_⟩:=aL.open cG
     have b5:=size_eq t
     have ol:=L.one
     have eF:=nO.one
     refine TZ rfl (dt ?_)
     unfold DV
     obtain ⟨aa,aq,aN,dw⟩:=gO h [.int .i64 t.k,.int .i64 t.n,.int .i64 t.a,.str t.s,cH]
     obtain ⟨ae,av,aY,cS⟩:=gO aa [.int .i64 t.k,.int .i64 t.n,.int .i64 t.a,.str t.s,wl]
     have QU:=dw.ext aY
     simp +contextual only [ol.1,ol.2.1,eF.1,eF.2.1,aq,av,QU.g,cS.g,decide_true,↓aw,aJ,simprocAttr]
     refine cj (xS t.l (by omega) cH wl ae (L.ext (aN.trans aY)) (nO.ext (aN.trans aY))) ?_
     rintro x aF ⟨rfl,cz⟩
     simp +contextual only [↓aw,aJ,simprocAttr]
     exact (aN.trans aY).trans cz
   · have ai:=L.len
     have jK:=nO.len
     have hle:=L.le
     rw [List.length_map] at ai hle jK
     refine TT rfl (dt ?_)
     unfold pb
     simp +contextual only [ai,jK,↓aw,aJ,simprocAttr]
     refine gS (fun r g=>r 0=v∧r 1=w∧∃i:Nat,r 5=.int .i64 i∧i≤l.length∧Ext h g) (fun r g=>l.length - (r 5).toN) ?_ ?_
     · exact ⟨by simp only [↓aw,bw,simprocAttr],by simp only [↓aw,bw,simprocAttr],0,by simp only [↓aw,bw,simprocAttr]<;>rfl,by omega,Ext.refl h⟩
     rintro r g ⟨bO,bz,i,dv,az,E⟩
     unfold J9
     by_cases aP:i<l.length
     · have g0:((i:Int) < (l.length:Int))=True:=eq_true (by omega)
       obtain ⟨b,off,ul,c0,X,gY,ld⟩:=aL.k9 (L.ext E) (k:=.i64) aP
       obtain ⟨b_,yf,aiR,mj,zv,ahC,mo⟩:=aL.k9 (nO.ext E) (k:=.i64) aP
       have d1:=ld g (Ext.refl g)
       have d2:=mo g (Ext.refl g)
       have eR:=kF aP (by unfold top at hle;omega)
       have b5:=tc (List.getElem_mem aP)
       simp +contextual only [bO,bz,dv,ai,g0,c0,mj,d1,d2,↓aw,aJ,simprocAttr]
       refine cj (A5 l[i] (by omega) _ _ g X zv) ?_
       rintro x g2 ⟨rfl,aY⟩
       have d3:=ld g2 aY
       have d4:=mo g2 aY
       simp +contextual only [bO,bz,dv,eR,d1,d2,d3,d4,↓aw,aJ,simprocAttr]
       exact ⟨⟨i+1,rfl,aP,E.trans aY⟩,by omega⟩
     · have g0:((i:Int) < (l.length:Int))=False:=eq_false (by omega)
       simp +contextual only [bO,bz,dv,ai,g0,↓aw,aJ,simprocAttr]
       exact E
theorem PT (t:aL) (ad ws:List V) (h:af) (H:b9 Any h t.enc ad) (cG:b9 Any h t.enc ws):bM Tryz.prog 20 [.agg ad,.agg ws] h fun x ab=>x=.bool true∧Ext h ab:=(PU _).1 t (Nat.lt_succ_self _) ad ws h H cG
theorem P_ (k n a:Int) (t z:List UInt8) (h:af) (aD:t.length≤100000):bM Tryz.prog 73 [.agg [.int .i64 k,.int .i64 n,.int .i64 a,.str t],.str z] h fun x ab=>x=.bool (decide (z=(if k=5 then 39::t else t)))∧Ext h ab:=by
 refine U1 rfl (dt ?_)
 unfold Eg
 obtain ⟨aa,aq,aN,dw⟩:=gO h [.int .i64 k,.int .i64 n,.int .i64 a,.str t]
 by_cases aA:k=5
 · have ai:(1+t.length≤17179869184)=True:=eq_true (by omega)
   simp +contextual only [aq,dw.g,eq_true aA,ai,if_true,List.cons_append,List.nil_append,↓aw,aJ,simprocAttr]
   exact aN
 · simp +contextual only [aq,dw.g,eq_false aA,if_false,↓aw,aJ,simprocAttr]
   exact aN
theorem NF:∀(f:Nat) (r:List UInt8) (p:Nat) (ws:List bU),la f r p=.ok ws→∀w ∈ ws,w.kind=3∨w.kind=4∨w.kind=5→w.text.length≤64:=fun f r p ws h w hw aA=>by
 obtain ⟨_,g,_⟩:=Hb (x6 f r p ws h w hw aA)
 exact g
set_option maxHeartbeats 2000000 in
theorem IE (k:Int) (aA:k=3∨k=4∨k=5) (s:List UInt8) (h:af):bM Tryz.prog 62 [.int .i64 k,.str s] h fun x ab=>x=.bool (ee k s)∧Ext h ab:=by
 rw [←ag9 aA]
 refine UR rfl (dt ?_)
 unfold Ed
 by_cases E_:(64:Int) < (s.length:Int)
 · have hw:qi k s=false:=by unfold qi;rw [decide_eq_false (show ¬s.length≤64 by omega)];simp
   simp +contextual only [eq_true E_,hw,↓aw,aJ,simprocAttr]
   exact Ext.refl _
 by_cases uQ:s=[]
 · have hw:qi k s=false:=by unfold qi;rw [uQ];simp
   simp +contextual only [eq_false E_,eq_true uQ,hw,↓aw,aJ,simprocAttr]
   exact Ext.refl _
 have f64:=eq_false E_
 have Lp:=eq_false uQ
 have hw:qi k s=(match jq (if k=5 then 39::s else s) with
  | .ok [w]=>decide (w.kind=k)&&decide (w.pos=0)&&decide (w.text≠[])&&decide ((if k=5 then 39::s else s)=(if w.kind=5 then 39::w.text else w.text))
  | _=>false):=by
  unfold qi
  rw [decide_eq_true (show s.length≤64 by omega),decide_eq_true uQ]
  rfl
 rw [hw]
 clear hw
 have FX:(1+s.length≤17179869184)=True:=eq_true (by omega)
 generalize bh:(if k=5 then 39::s else s)=z
 have cd:(k=5∧z=39::s)∨(¬k=5∧z=s):=by
  by_cases cd:k=5
  · exact .inl ⟨cd,by rw [←bh,if_pos cd]⟩
  · exact .inr ⟨cd,by rw [←bh,if_neg cd]⟩
 clear bh
 rcases cd with ⟨cd,bh⟩ | ⟨cd,bh⟩
 · simp +contextual only [f64,Lp,eq_true cd,FX,List.cons_append,List.nil_append,↓aw,aJ,simprocAttr]
   rw [←bh]
   clear bh
   refine cj (NH z h) ?_
   rintro x aa ⟨aN,ak⟩
   cases cV:jq z with
   | error e=>
     rw [cV] at ak
     simp only at ak
     subst ak
     obtain ⟨ae,av,aY,cS⟩:=gZ aa [.int .i64 0,.int .i64 0] [.int .i64 e.1,.int .i64 e.2]
     by_cases he:e.1=0
     · simp +contextual only [av,cS.g,eq_true he,↓aw,aJ,simprocAttr]
       exact aN.trans aY
     · simp +contextual only [av,cS.g,eq_false he,↓aw,aJ,simprocAttr]
       exact aN.trans aY
   | ok ws=>
     rw [cV] at ak
     simp only at ak
     obtain ⟨v,rfl,S⟩:=ak
     obtain ⟨ae,av,aY,cS⟩:=gZ aa [.int .i64 0,.int .i64 0] [.int .i64 0,.int .i64 0]
     have j_:=(S.ext aY).v
     have ai:=j_.len
     have cL:=j_.one
     match ws,cV,j_,ai with
     | [],_,j_,ai=>
       have eD:jo v=some (.int .i64 0):=ai
       simp +contextual only [av,cS.g,eD,cL.1,cL.2.1,↓aw,aJ,simprocAttr]
       exact aN.trans aY
     | [w],cV,j_,ai=>
       have eD:jo v=some (.int .i64 1):=ai
       obtain ⟨b7,c2,sP,mP⟩:=j_.c0 (k:=.i64) (i:=0) (by simp)
       have pP:jj 4 v (.int .i64 0)=some (.ptr b7 c2):=by simpa using sP
       have d0:hd (ae.get b7) c2=some (.int .i64 w.kind):=by have:=mP.fS (i:=0) (by simp [hi,bU.enc]);simpa [hi,bU.enc] using this
       have d2:hd (ae.get b7) (c2+2)=some (.int .i64 w.pos):=by have:=mP.fS (i:=2) (by simp [hi,bU.enc]);simpa [hi,bU.enc] using this
       have d3:hd (ae.get b7) (c2+3)=some (.str w.text):=by have:=mP.fS (i:=3) (by simp [hi,bU.enc]);simpa [hi,bU.enc] using this
       have ih:lO 4 (ae.get b7) c2=some (.agg [.int .i64 w.kind,.int .i64 w.num,.int .i64 w.pos,.str w.text]):=by have:=mP.im (i:=0) (n:=4) (by simp [hi,bU.enc]);simpa [hi,bU.enc] using this
       by_cases bs:w.kind=k
       · by_cases bN:(w.pos:Int)=0
         · by_cases c3:w.text=[]
           · have ke:((0:Int) < (w.text.length:Int))=False:=by rw [c3];simp
             simp +contextual only [av,cS.g,eD,cL.1,cL.2.1,pP,d0,d2,d3,ih,eq_true bs,eq_true bN,ke,↓aw,aJ,simprocAttr]
             exact ⟨by rw [c3];simp,aN.trans aY⟩
           · have ke:((0:Int) < (w.text.length:Int))=True:=eq_true (by have:=List.length_pos_iff.2 c3;omega)
             have aD:w.text.length≤64:=by
              have hm:w.kind=3∨w.kind=4∨w.kind=5:=by rw [bs];exact aA
              unfold jq at cV
              split at cV
              · cases cV
              · split at cV
                · cases cV
                · exact NF _ _ _ _ cV w (by simp) hm
             simp +contextual only [av,cS.g,eD,cL.1,cL.2.1,pP,d0,d2,d3,ih,eq_true bs,eq_true bN,ke,↓aw,aJ,simprocAttr]
             refine cj (P_ _ _ _ w.text z ae (by omega)) ?_
             rintro x aF ⟨rfl,cz⟩
             simp +contextual only [↓aw,aJ,simprocAttr]
             refine ⟨?_,(aN.trans aY).trans cz⟩
             have wK:w.pos=0:=by omega
             simp [bs,wK,c3]
         · simp +contextual only [av,cS.g,eD,cL.1,cL.2.1,pP,d0,d2,d3,ih,eq_true bs,eq_false bN,↓aw,aJ,simprocAttr]
           exact ⟨by have:¬w.pos=0:=by omega
                     simp [this],aN.trans aY⟩
       · simp +contextual only [av,cS.g,eD,cL.1,cL.2.1,pP,d0,d2,d3,ih,eq_false bs,↓aw,aJ,simprocAttr]
         first | exact aN.trans aY | exact ⟨by simp [bs],aN.trans aY⟩
     | w::bK::ws,_,j_,ai=>
       have eD:(((ws.length+2:Nat):Int)=1)=False:=eq_false (by omega)
       have FR:jo v=some (.int .i64 ((ws.length+2:Nat):Int)):=ai
       simp +contextual only [av,cS.g,FR,eD,cL.1,cL.2.1,↓aw,aJ,simprocAttr]
       exact aN.trans aY
 · simp +contextual only [f64,Lp,eq_false cd,↓aw,aJ,simprocAttr]
   rw [←bh]
   clear bh
   refine cj (NH z h) ?_
   rintro x aa ⟨aN,ak⟩
   cases cV:jq z with
   | error e=>
     rw [cV] at ak
     simp only at ak
     subst ak
     obtain ⟨ae,av,aY,cS⟩:=gZ aa [.int .i64 0,.int .i64 0] [.int .i64 e.1,.int .i64 e.2]
     by_cases he:e.1=0
     · simp +contextual only [av,cS.g,eq_true he,↓aw,aJ,simprocAttr]
       exact aN.trans aY
     · simp +contextual only [av,cS.g,eq_false he,↓aw,aJ,simprocAttr]
       exact aN.trans aY
   | ok ws=>
     rw [cV] at ak
     simp only at ak
     obtain ⟨v,rfl,S⟩:=ak
     obtain ⟨ae,av,aY,cS⟩:=gZ aa [.int .i64 0,.int .i64 0] [.int .i64 0,.int .i64 0]
     have j_:=(S.ext aY).v
     have ai:=j_.len
     have cL:=j_.one
     match ws,cV,j_,ai with
     | [],_,j_,ai=>
       have eD:jo v=some (.int .i64 0):=ai
       simp +contextual only [av,cS.g,eD,cL.1,cL.2.1,↓aw,aJ,simprocAttr]
       exact aN.trans aY
     | [w],cV,j_,ai=>
       have eD:jo v=some (.int .i64 1):=ai
       obtain ⟨b7,c2,sP,mP⟩:=j_.c0 (k:=.i64) (i:=0) (by simp)
       have pP:jj 4 v (.int .i64 0)=some (.ptr b7 c2):=by simpa using sP
       have d0:hd (ae.get b7) c2=some (.int .i64 w.kind):=by have:=mP.fS (i:=0) (by simp [hi,bU.enc]);simpa [hi,bU.enc] using this
       have d2:hd (ae.get b7) (c2+2)=some (.int .i64 w.pos):=by have:=mP.fS (i:=2) (by simp [hi,bU.enc]);simpa [hi,bU.enc] using this
       have d3:hd (ae.get b7) (c2+3)=some (.str w.text):=by have:=mP.fS (i:=3) (by simp [hi,bU.enc]);simpa [hi,bU.enc] using this
       have ih:lO 4 (ae.get b7) c2=some (.agg [.int .i64 w.kind,.int .i64 w.num,.int .i64 w.pos,.str w.text]):=by have:=mP.im (i:=0) (n:=4) (by simp [hi,bU.enc]);simpa [hi,bU.enc] using this
       by_cases bs:w.kind=k
       · by_cases bN:(w.pos:Int)=0
         · by_cases c3:w.text=[]
           · have ke:((0:Int) < (w.text.length:Int))=False:=by rw [c3];simp
             simp +contextual only [av,cS.g,eD,cL.1,cL.2.1,pP,d0,d2,d3,ih,eq_true bs,eq_true bN,ke,↓aw,aJ,simprocAttr]
             exact ⟨by rw [c3];simp,aN.trans aY⟩
           · have ke:((0:Int) < (w.text.length:Int))=True:=eq_true (by have:=List.length_pos_iff.2 c3;omega)
             have aD:w.text.length≤64:=by
              have hm:w.kind=3∨w.kind=4∨w.kind=5:=by rw [bs];exact aA
              unfold jq at cV
              split at cV
              · cases cV
              · split at cV
                · cases cV
                · exact NF _ _ _ _ cV w (by simp) hm
             simp +contextual only [av,cS.g,eD,cL.1,cL.2.1,pP,d0,d2,d3,ih,eq_true bs,eq_true bN,ke,↓aw,aJ,simprocAttr]
             refine cj (P_ _ _ _ w.text z ae (by omega)) ?_
             rintro x aF ⟨rfl,cz⟩
             simp +contextual only [↓aw,aJ,simprocAttr]
             refine ⟨?_,(aN.trans aY).trans cz⟩
             have wK:w.pos=0:=by omega
             simp [bs,wK,c3]
         · simp +contextual only [av,cS.g,eD,cL.1,cL.2.1,pP,d0,d2,d3,ih,eq_true bs,eq_false bN,↓aw,aJ,simprocAttr]
           exact ⟨by have:¬w.pos=0:=by omega
                     simp [this],aN.trans aY⟩
       · simp +contextual only [av,cS.g,eD,cL.1,cL.2.1,pP,d0,d2,d3,ih,eq_false bs,↓aw,aJ,simprocAttr]
         first | exact aN.trans aY | exact ⟨by simp [bs],aN.trans aY⟩
     | w::bK::ws,_,j_,ai=>
       have eD:(((ws.length+2:Nat):Int)=1)=False:=eq_false (by omega)
       have FR:jo v=some (.int .i64 ((ws.length+2:Nat):Int)):=ai
       simp +contextual only [av,cS.g,FR,eD,cL.1,cL.2.1,↓aw,aJ,simprocAttr]
       exact aN.trans aY
abbrev hV [Lay] (B:Nat) (h:af) (l:List Nm) (v:V):Prop:=ej B h 1 v l.length (l.map V.str)∧∀s ∈ l,s.length≤top
theorem aen:∀l:List Nm,ed (l.map V.str)=true
 | []=>rfl
 | s::l=>by rw [List.map_cons];simp only [ed,Hv,aen l,Bool.and_self]
theorem Ln:∀l:List Nm,(l.map fun s=>[V.str s]).flatten=l.map V.str
 | []=>rfl
 | s::l=>by rw [List.map_cons,List.flatten_cons,Ln l];rfl
section
variable [Lay] {B:Nat} {h ab:af} {l:List Nm} {v:V}
theorem eL.N_ {F:aO→Prop} (H:eL h 1 v l.length (l.map V.str)) (aH:vC v) (ai:l.length≤top) (aQ:∀s ∈ l,s.length≤top) (ax:∀b,v.a_ b→F b):ch F h 1 (l.map aS.encS) v:=
 ⟨aH,by rw [List.length_map];exact ai,⟨l.map fun s=>[V.str s],by rw [List.length_map,Ln];exact H,by simp,fun u hu=>by
   obtain ⟨i,_,rfl⟩:=List.mem_map.1 hu
   rfl,fun i e u aq av=>by
   rw [List.getElem?_map] at aq av
   cases az:l[i]? with
   | none=>rw [az] at aq;cases aq
   | some y=>
     rw [az] at aq av
     simp only [Option.map_some,Option.some.injEq] at aq av
     subst aq av
     exact .s (aQ y (List.mem_of_getElem? az)) .nil⟩,ax⟩
theorem hV.e8 {F:aO→Prop} (H:hV B h l v) (ai:l.length≤top) (kV:∀b,B≤b8 b→F b):ch F h 1 (l.map aS.encS) v:=eL.N_ H.1.v H.1.room ai H.2 fun b q=>kV b (H.1.base q)
theorem hV.nil (B:Nat) (h:af):hV B h [] .b4:=⟨⟨rfl,rfl⟩,fun s aQ=>by cases aQ⟩
theorem hV.ext (H:hV B h l v) (e:Ext h ab):hV B ab l v:=⟨H.1.ext e,H.2⟩
theorem hV.mod {M:aO→Prop} (H:hV B h l v) (m:Mod M h ab) (hm:∀b,v.a_ b→¬M b):hV B ab l v:=⟨H.1.mod m hm,H.2⟩
theorem hV.add (H:hV B h l v) (cN:B≤h.next) (hlen:l.length+1≤top) {s:Nm} (aQ:s.length≤top):
 ∃eh ab,lz 1 v (.slice (ay h.next) 0 1 1) (h.new (.bq [.str s] 0 false))=.val eh ab∧hV B ab (l++[s]) eh∧Mod v.a_ h ab∧h.next+1≤ab.next∧eh.one=true∧eh.cells=[eh]∧∀b,eh.a_ b→v.a_ b∨h.next<b8 b:=by
 obtain ⟨eh,ab,aq,av,aK,bD,dr⟩:=zC (cs:=[.str s]) (Nat.le_refl _) H.1 cN (by omega) rfl rfl
 refine ⟨eh,ab,aq,⟨by simpa using av,fun x ak=>?_⟩,aK,bD,av.v.one.1,av.v.one.2.1,dr⟩
 rcases List.mem_append.1 ak with ak | ak
 · exact H.2 x ak
 · rw [List.mem_singleton] at ak;subst ak;exact aQ
end
end Go.Proofs.YtkehcalakofigaaGreatDoor
namespace Go.Proofs.YtkehcalakofigaaGreatDoor
open Go aS
structure CL (fE:Nat) (h8:aO) (I:List aL→(aO→Prop)→af→Prop):Prop where
 ext:∀{d:List aL} {X:aO→Prop} {h ab:af},I d X h→Ext h ab→I d X ab
 wZ:∀{d:List aL} {X:aO→Prop} {h:af} (p:aL) {ad:List V},I d X h→d.length+1≤1000000000→b9 (fun b=>b8 b<fE) h p.enc ad→wx Tryz.prog [.agg ad] h8 h fun x ab=>x=.bool true∧∃gM,I (d++[p]) gM ab∧Mod X h ab∧∀b,gM b→X b∨h.next≤b8 b
 bR:∀{d:List aL} {X:aO→Prop} {h:af},I d X h→∀b,X b→Old h b
 bG:∀{d:List aL} {X:aO→Prop} {h:af},I d X h→∀b,X b→fE≤b8 b
theorem Az {X gM:aO→Prop} {h:af} {n:Nat} (cQ:∀b,gM b→X b∨h.next≤b8 b) (aZ:n<h.next) (ba:¬X (ay n)):¬gM (ay n):=fun q=>by
 rcases cQ _ q with q | q
 · exact ba q
 · rw [c4] at q;omega
theorem adv {X gM:aO→Prop} {h ab kj:af} (a:Mod X h ab) (c:Mod gM ab kj) (g:∀b,gM b→X b∨h.next≤b8 b):Mod X h kj:=
 ⟨Nat.le_trans a.next c.next,fun b ag q=>(c.get b (a.bR ag) fun z=>by
   rcases g b z with z | z
   · exact q z
   · unfold Old at ag;omega).trans (a.get b ag q)⟩
set_option maxHeartbeats 1000000 in
theorem M_ {fE:Nat} {h8:aO} {I:List aL→(aO→Prop)→af→Prop} (E:CL fE h8 I) {j4 jR:Nat}:∀(N:Nat) (p:aL),p.size≤N→∀(d:List aL) (X:aO→Prop) (ad:List V) (h:af),d.length+p.size≤1000000000→¬X (ay j4)→¬X (ay jR)→b9 (fun b=>b8 b<fE) h p.enc ad→
 Has h j4 [.func 4294967296 [.ptr h8 0]]→Has h jR [.func 53 [.ptr (ay j4) 0,.ptr (ay jR) 0]]→I d X h→bM Tryz.prog 53 [.agg ad,.ptr (ay j4) 0,.ptr (ay jR) 0] h fun x ab=>x=.bool true∧∃gM,I (d++p.pre) gM ab∧Mod X h ab∧∀b,gM b→X b∨h.next≤b8 b
 | 0,p,aQ,_,_,_,_,_,_,_,_,_,_,_=>by have:=ri p;omega
 | N+1,p,aQ,d,X,ad,h,sn,a6,az,H,Y,B,J=>by
   have aie:=size_eq p
   obtain ⟨cH,rfl,L,_⟩:=aL.open H
   have ol:=L.one
   have ai:=L.len
   have hle:=L.le
   rw [List.length_map] at ai hle
   refine Kf rfl (dt ?_)
   unfold zV
   obtain ⟨aa,aq,aN,dw⟩:=gO h [.int .i64 p.k,.int .i64 p.n,.int .i64 p.a,.str p.s,cH]
   have pG:¬X (ay h.next):=fun q=>vn (Nat.le_refl _) (E.bR J _ q)
   have s7:=aN.next
   have nU:=Y.ext aN
   simp +contextual only [ol.1,ol.2.1,aq,dw.g,nU.g,l9,List.cons_append,List.nil_append,if_true,↓aw,aJ,simprocAttr]
   refine QQ (b':=[_]) (E.wZ p (E.ext J aN) (by omega) (H.ext aN)) ?_
   rintro x ae ⟨rfl,zv,da,m2,s2⟩
   have fW:=Az s2 nU.lt a6
   have i2:=Az s2 (B.ext aN).lt az
   have afB:∀b,zv b→X b∨h.next≤b8 b:=fun b q=>by
    rcases s2 b q with q | q
    · exact .inl q
    · exact .inr (by omega)
   have cS:=dw.mod m2 pG
   have Dc:=nU.mod m2 a6
   have eo:=(B.ext aN).mod m2 az
   have G2:Mod X h ae:=(aN.mod X).trans m2
   simp +contextual only [cS.g,ai,↓aw,aJ,simprocAttr]
   refine gS (fun r g=>r 1=.ptr (ay j4) 0∧r 2=.ptr (ay jR) 0∧r 12=cH∧r 13=.int .i64 p.l.length∧∃i:Nat,r 14=.int .i64 i∧i≤p.l.length∧Has g j4 [.func 4294967296 [.ptr h8 0]]∧Has g jR [.func 53 [.ptr (ay j4) 0,.ptr (ay jR) 0]]∧
    ∃gM,I (d++[p]++gk (p.l.take i)) gM g∧Mod X h g∧(∀b,gM b→X b∨h.next≤b8 b)∧¬gM (ay j4)∧¬gM (ay jR)) (fun r g=>p.l.length - (r 14).toN) ?_ ?_
   · exact ⟨by simp only [↓aw,bw,simprocAttr],by simp only [↓aw,bw,simprocAttr],by simp only [↓aw,bw,simprocAttr],by simp only [↓aw,bw,simprocAttr],0,by simp only [↓aw,bw,simprocAttr]<;>rfl,by omega,Dc,eo,zv,by rw [List.take_zero,gk,List.append_nil];exact da,G2,afB,fW,i2⟩
   rintro r g ⟨bz,bZ,td,te,i,nF,YY,Dd,CE,gM,rQ,q4,Ic,IH,GG⟩
   unfold Ea
   have j':=L.mod (dx:=fun b=>b8 b<fE) q4 fun b q _=>⟨fun z=>by have:=E.bG J b z;omega,q⟩
   by_cases aP:i<p.l.length
   · have g0:((i:Int) < (p.l.length:Int))=True:=eq_true (by omega)
     obtain ⟨b,off,wl,c0,RZ,gY,ld⟩:=aL.k9 j' (k:=.i64) aP
     have vc:=ld g (Ext.refl g)
     have eF:=gY.one
     have eR:=kF aP (by unfold top at hle;omega)
     have b5:=rh (t:=p) (List.getElem_mem aP)
     obtain ⟨g1,dH,bm,Z⟩:=gZ g [.int .i64 0,.int .i64 0,.int .i64 0,.str [],.b4] [.int .i64 p.l[i].k,.int .i64 p.l[i].n,.int .i64 p.l[i].a,.str p.l[i].s,wl]
     have qm:=CE.ext bm
     have tO:=Dd.ext bm
     simp +contextual only [bz,bZ,td,te,nF,g0,c0,vc,dH,Z.g,qm.g,eF.1,eF.2.1,l9,List.cons_append,List.nil_append,show (53=4294967296)=False from by simp,if_false,↓aw,aJ,simprocAttr]
     have aik:=aeP (l:=p.l) aP
     have ail:=Pa p.l (i+1)
     refine cj (M_ E N p.l[i] (by omega) _ gM _ g1 (by rw [List.length_append,List.length_append,List.length_singleton,HN];omega) IH GG (RZ.ext bm) tO qm (E.ext rQ bm)) ?_
     rintro x g2 ⟨rfl,zw,dd,m3,ll⟩
     have s8:=bm.next
     have Oc:=q4.next
     have afC:∀b,zw b→X b∨h.next≤b8 b:=fun b q=>by
      rcases ll b q with q | q
      · exact Ic b q
      · exact .inr (by omega)
     simp +contextual only [bz,bZ,td,te,nF,eR,↓aw,aJ,simprocAttr]
     exact ⟨⟨i+1,rfl,aP,tO.mod m3 IH,qm.mod m3 GG,zw,by rw [take_one aP,HM,gk,gk,List.append_nil,←List.append_assoc];exact dd,adv q4 ((bm.mod gM).trans m3) Ic,afC,Az ll tO.lt IH,Az ll qm.lt GG⟩,by omega⟩
   · have g0:((i:Int) < (p.l.length:Int))=False:=eq_false (by omega)
     rw [List.take_of_length_le (by omega)] at rQ
     simp +contextual only [bz,bZ,td,te,nF,g0,↓aw,aJ,simprocAttr]
     exact ⟨gM,by rw [HK,←List.singleton_append,←List.append_assoc];exact rQ,q4,Ic⟩
set_option maxHeartbeats 1000000 in
theorem ag5 {fE:Nat} {h8:aO} {I:List aL→(aO→Prop)→af→Prop} (E:CL fE h8 I) {iP:Nat} (p:aL) (ah:p.size≤1000000000) (X:aO→Prop) (ad:List V) (h:af) (H:b9 (fun b=>b8 b<fE) h p.enc ad) (CF:Has h iP ad) (J:I [] X h):
 bM Tryz.prog 52 [.func 4294967296 [.ptr h8 0],.ptr (ay iP) 0] h fun x ab=>∃gM,I p.pre gM ab∧Mod X h ab∧∀b,gM b→X b∨h.next≤b8 b:=by
 obtain ⟨cH,rfl,L,_⟩:=aL.open H
 refine Ke rfl (dt ?_)
 unfold zU
 obtain ⟨aa,aq,aN,nU⟩:=gO h [.func 4294967296 [.ptr h8 0]]
 obtain ⟨ae,av,aY,eo⟩:=gZ aa [.iu] [.func 53 [.ptr (ay h.next) 0,.ptr (ay aa.next) 0]]
 have fa:=aN.trans aY
 have nR:=CF.ext fa
 have c1:¬X (ay h.next):=fun q=>vn (Nat.le_refl _) (E.bR J _ q)
 have hO:¬X (ay aa.next):=fun q=>vn (Nat.le_refl _) (E.bR (E.ext J aN) _ q)
 have ol:=L.one
 simp +contextual only [aq,av,eo.g,nR.g,ol.1,ol.2.1,l9,List.cons_append,List.nil_append,show (53=4294967296)=False from by simp,if_false,↓aw,aJ,simprocAttr]
 refine cj (M_ E p.size p (Nat.le_refl _) [] X _ ae (by simpa using ah) c1 hO (H.ext fa) (nU.ext aY) eo (E.ext J fa)) ?_
 rintro x aF ⟨rfl,zw,dd,m3,ll⟩
 have Bw:=fa.next
 simp +contextual only [↓aw,aJ,simprocAttr]
 exact ⟨zw,dd,(fa.mod X).trans m3,fun b q=>by
  rcases ll b q with q | q
  · exact .inl q
  · exact .inr (by omega)⟩
structure I' (B b3 hF m:Nat) (l:lu) (d:List aL) (X:aO→Prop) (h:af):Prop where
 ex:∃v,Has h b3 [v]∧hV B h ((d.filter fun p=>decide (p.k=11)).map aL.s) v∧(∀b,X b↔b=ay b3∨b=ay m∨v.a_ b)
 bG:m<h.next
 l:h.get (ay m)=.cY l
 pg:hF<h.next
 d:h.get (ay hF)=.eu
 B:B≤h.next
theorem H6 (v:V) (r:aT):mD [7] [v] r 3=r 3:=by simp [mD,aT.rb,aT.set,dX]
theorem afp (v:V) (r:aT):mD [7] [v] r 7=v:=by simp [mD,aT.rb,aT.set,dX]
set_option maxHeartbeats 4000000 in
theorem XV {fE B b3 hF m:Nat} {l:lu} {r:aT} (cN:fE≤b3) (po:fE≤m) (cZ:m≠b3) (xe:hF≠b3) (sn:hF≠m) (b7:b3<B) (b_:m<B) (gN:hF<B) (F:wk Tryz.prog l 17 r [7] DZ D0) (ba:l.st=0) (ah:l.dK=none) (aH:r 3=.ptr (ay b3) 0):
 CL fE (ay m) (fun d X h=>I' B b3 hF m l d X h) where
 ext:=fun {d X h ab} J e=>by
  obtain ⟨v,bH,a2,a3⟩:=J.ex
  exact ⟨⟨v,bH.ext e,a2.ext e,a3⟩,Nat.lt_of_lt_of_le J.bG e.next,(e.get _ (fh J.bG)).trans J.l,Nat.lt_of_lt_of_le J.pg e.next,(e.get _ (fh J.pg)).trans J.d,Nat.le_trans J.B e.next⟩
 bR:=fun {d X h} J b ag=>by
  obtain ⟨v,bH,a2,a3⟩:=J.ex
  rcases (a3 b).1 ag with rfl | rfl | ag
  · exact fh bH.lt
  · exact fh J.bG
  · exact a2.1.v.bR ag
 bG:=fun {d X h} J b ag=>by
  obtain ⟨v,bH,a2,a3⟩:=J.ex
  rcases (a3 b).1 ag with rfl | rfl | ag
  · rw [c4];exact cN
  · rw [c4];exact po
  · have:=a2.1.base ag;omega
 wZ:=fun {d X h} p ad J aX H=>by
  obtain ⟨v,bH,a2,a3⟩:=J.ex
  obtain ⟨cH,rfl,L,k6⟩:=aL.open H
  have ol:=L.one
  refine QR (by decide) follows dq F J.l ba rfl ?_
  obtain ⟨aa,aq,aN,dw⟩:=gZ h [.int .i64 0,.int .i64 0,.int .i64 0,.str [],.b4] [.int .i64 p.k,.int .i64 p.n,.int .i64 p.a,.str p.s,cH]
  have bT:aa.get (ay m)=.cY l:=(aN.get _ (fh J.bG)).trans J.l
  have bG:=J.bG
  have pg:=J.pg
  have ahF:=bH.lt
  have ah4:=J.B
  refine dt ?_
  unfold DZ
  simp +contextual only [H6,afp,aq,ol.1,ol.2.1,↓aw,aJ,simprocAttr]
  refine ⟨bT,dt ?_⟩
  have cS:=dw.set (m:=m) (by omega) (.cY (l.go 1 l.dK))
  have o0:=(bH.ext aN).set (m:=m) (fun q=>cZ q.symm) (.cY (l.go 1 l.dK))
  have xM:∀k:Nat,k<B→¬v.a_ (ay k):=fun k aA q=>by have:=a2.1.base q;rw [c4] at this;omega
  have m1:Mod (fun b=>b=ay m) aa (aa.set (ay m) (.cY (l.go 1 l.dK))):=(Mod.refl (fun b=>b=ay m) aa).set (fun _=>rfl) _
  have Jq:=(a2.ext aN).mod m1 fun b q z=>xM m b_ (by rw [←show b=ay m from z];exact q)
  have aia:(aa.set (ay m) (.cY (l.go 1 l.dK))).next=aa.next:=rfl
  have s7:=aN.next
  have dQ:l.go 0 none=l:=by obtain ⟨st,dK,_,_,_,_,_,_⟩:=l;simp only at ba ah;subst ba ah;rfl
  have LI:(aa.set (ay m) (.cY (l.go 1 l.dK))).get (ay m)=.cY (l.go 1 l.dK):=by rw [di,if_pos rfl]
  have qF:(aa.set (ay m) (.cY (l.go 1 l.dK))).get (ay hF)=.eu:=by rw [di,if_neg (fun q=>sn (fB q).symm)];exact (aN.get _ (fh J.pg)).trans J.d
  generalize Yb:aa.set (ay m) (.cY (l.go 1 l.dK))=ae at *
  have M2:Mod X h ae:=by rw [←Yb];exact (aN.mod X).set (fun _=>(a3 _).2 (.inr (.inl rfl))) _
  unfold D0
  by_cases c:p.k=11
  · have ha:((d++[p]).filter fun p=>decide (p.k=11)).map aL.s=(d.filter fun p=>decide (p.k=11)).map aL.s++[p.s]:=by
     rw [List.filter_append,List.map_append];congr 1;rw [List.filter_cons,if_pos (decide_eq_true c)];rfl
    obtain ⟨eh,aF,b2,zu,dR,ju,gi,l8,dh⟩:=Jq.add (by omega) (by rw [List.length_map];have:=List.length_filter_le (fun p:aL=>decide (p.k=11)) d;unfold top;omega) k6
    have Jh:=o0.mod dR (xM b3 b7)
    have MO:∀k:Nat,k<B→¬eh.a_ (ay k):=fun k aA q=>by have:=zu.1.base q;rw [c4] at this;omega
    have XB:aF.get (ay m)=.cY (l.go 1 l.dK):=(dR.get _ (fh (by omega)) (xM m b_)).trans LI
    have Xw:aF.get (ay hF)=.eu:=(dR.get _ (fh (by omega)) (xM hF gN)).trans qF
    simp +contextual only [aH,H6,cS.g,eq_true c,o0.g,b2,gi,l8,Jh.g,↓aw,aJ,simprocAttr]
    refine ⟨by rw [if_neg (fun q=>cZ q.symm)];exact XB,fun b=>b=ay b3∨b=ay m∨eh.a_ b,⟨⟨eh,?_,?_,fun b=>Iff.rfl⟩,?_,?_,?_,?_,?_⟩,?_,?_⟩
    · exact (Jh.put _).set (fun q=>cZ q.symm) _
    · rw [ha]
      refine (zu.mod ((Mod.refl (fun b=>b=ay b3) aF).set (fun _=>rfl) _) fun b q z=>MO b3 b7 (by rw [←show b=ay b3 from z];exact q)).mod ((Mod.refl (fun b=>b=ay m) _).set (fun _=>rfl) _) fun b q z=>MO m b_ (by rw [←show b=ay m from z];exact q)
    · show m<aF.next;omega
    · rw [di,if_pos rfl,dQ]
    · show hF<aF.next;omega
    · rw [di,if_neg (fun q=>sn (fB q).symm),di,if_neg (fun q=>xe (fB q).symm)];exact Xw
    · show B≤aF.next;omega
    · exact ((M2.trans (dR.mono fun b _ q=>(a3 b).2 (.inr (.inr q)))).set (fun _=>(a3 _).2 (.inl rfl)) _).set (fun _=>(a3 _).2 (.inr (.inl rfl))) _
    · intro b q
      rcases q with q | q | q
      · exact .inl ((a3 b).2 (.inl q))
      · exact .inl ((a3 b).2 (.inr (.inl q)))
      · by_cases z:v.a_ b
        · exact .inl ((a3 b).2 (.inr (.inr z)))
        · rcases dh b q with z2 | z2
          · exact absurd z2 z
          · exact .inr (by omega)
  · have ha:((d++[p]).filter fun p=>decide (p.k=11)).map aL.s=(d.filter fun p=>decide (p.k=11)).map aL.s:=by
     rw [List.filter_append,List.map_append,List.filter_cons,if_neg (by simpa using c)];simp
    simp +contextual only [aH,H6,cS.g,eq_false c,o0.g,↓aw,aJ,simprocAttr]
    refine ⟨LI,X,⟨⟨v,o0.set (fun q=>cZ q.symm) _,?_,a3⟩,?_,?_,?_,?_,?_⟩,?_,fun b q=>.inl q⟩
    · rw [ha]
      exact Jq.mod ((Mod.refl (fun b=>b=ay m) _).set (fun _=>rfl) _) fun b q z=>xM m b_ (by rw [←show b=ay m from z];exact q)
    · show m<ae.next;omega
    · rw [di,if_pos rfl,dQ]
    · show hF<ae.next;omega
    · rw [di,if_neg (fun q=>sn (fB q).symm)];exact qF
    · show B≤ae.next;omega
    · exact M2.set (fun _=>(a3 _).2 (.inr (.inl rfl))) _
set_option maxHeartbeats 4000000 in
theorem ya (p:aL) (aQ:p.size≤1000000000) (ad:List V) (h:af) (H:b9 Any h p.enc ad):bM Tryz.prog 25 [.agg ad] h fun x ab=>hV h.next ab p.names x∧Ext h ab:=by
 have hU:=H.Ht
 have aR:=H.ed
 obtain ⟨cH,cI,L,_⟩:=aL.open H
 have pO:ad.length≤top:=by rw [cI];simp [top]
 have cd:ad.length=5:=by rw [cI];rfl
 have Gv:(ad.length≤17179869184)=True:=eq_true pO
 refine T8 rfl (dt ?_)
 unfold DY
 obtain ⟨aa,aq,aN,dw⟩:=gO h ad
 obtain ⟨ae,av,aY,qw⟩:=gO aa [.b4]
 have cS:=dw.ext aY
 have g5:lO 5 (bW.bq ad 0 false) 0=some (.agg ad):=by rw [Bf,if_pos (by omega),List.drop_zero,List.take_of_length_le (by omega)]
 simp +contextual only [aq,av,aR,Gv,cS.g,g5,↓aw,aJ,simprocAttr]
 refine cj (QE ad ae aR pO) ?_
 rintro x aF ⟨n,rfl,rS,cz⟩
 simp +contextual only [↓aw,aJ,simprocAttr]
 refine Pq (g:=52) (cs:=[.ptr (ay n) 0]) (by simp only [↓aw,bw,simprocAttr]) (by decide) ⟨_,Tryz.func52,by kernel_rfl⟩ ?_
 intro l F ba ah
 have EF:Ext h aF:=aN.trans (aY.trans cz)
 have gD:Ext aF ((aF.new .eu).new (.cY l)):=((Ext.refl aF).new _).new _
 have wS:=EF.trans gD
 have e6:=aN.next
 have ht:=aY.next
 have x1:=cz.next
 have gv:=qw.lt
 have C7:Has ((aF.new .eu).new (.cY l)) aa.next [.b4]:=(qw.ext cz).ext gD
 have E:=XV (fE:=h.next) (B:=aF.next+2) (b3:=aa.next) (hF:=aF.next) (m:=aF.next+1) (by omega) (by omega) (by omega) (by omega) (by omega) (by omega) (by omega) (by omega) F ba ah (by simp only [↓aw,bw,simprocAttr])
 have al:I' (aF.next+2) aa.next aF.next (aF.next+1) l [] (fun b=>b=ay aa.next∨b=ay (aF.next+1)) ((aF.new .eu).new (.cY l)):=by
  refine ⟨⟨.b4,C7,hV.nil _ _,fun b=>?_⟩,by rw [e7,e7];omega,mV _,by rw [e7,e7];omega,?_,by rw [e7,e7];omega⟩
  · simp [V.a_]
  · rw [gE,if_neg (fun q=>by have:=fB q;rw [e7] at this;omega),mV]
 refine (ag5 E p aQ _ ad _ (hU.ext wS) (rS.ext gD) al).mono ?_
 rintro x cd ⟨ahB,dy,m5,aiJ⟩
 obtain ⟨v5,a5,Da,aiX⟩:=dy.ex
 refine ⟨l,dy.l,by rw [ba];decide,?_⟩
 rw [ah]
 have Mv:∀k:Nat,k<aF.next+2→¬v5.a_ (ay k):=fun k aA q=>by have:=Da.1.base q;rw [c4] at this;omega
 have zr:=a5.set (m:=aF.next+1) (by omega) .dead
 have md:aS.Mod (fun b=>b=ay (aF.next+1)) cd (cd.set (ay (aF.next+1)) .dead):=(Mod.refl (fun b=>b=ay (aF.next+1)) cd).set (fun _=>rfl) _
 have Jr:=Da.mod md fun b q z=>Mv (aF.next+1) (by omega) (by rw [←show b=ay (aF.next+1) from z];exact q)
 have qF:(cd.set (ay (aF.next+1)) .dead).get (ay aF.next)=.eu:=by rw [di,if_neg (fun q=>by have:=fB q;omega)];exact dy.d
 have Oe:=Da.1.v.one
 have EJ:Ext h (cd.set (ay (aF.next+1)) .dead):=by
  refine (wS.q5 m5 fun b ag=>?_).set (by omega) _
  rcases ag with rfl | rfl
  · rw [c4];omega
  · rw [c4];omega
 simp +contextual only [Option.getD_none,zr.g,dX,V.list,aT.bq,oB,qF,Oe.1,Oe.2.1,↓aw,aJ,simprocAttr]
 refine ⟨⟨(Jr.mod ((Mod.refl (fun b=>b=ay aF.next) _).set (fun _=>rfl) _) fun b q z=>Mv aF.next (by omega) (by rw [←show b=ay aF.next from z];exact q)).1.mono (by omega),Jr.2⟩,EJ.set (by omega) _⟩
end Go.Proofs.YtkehcalakofigaaGreatDoor
