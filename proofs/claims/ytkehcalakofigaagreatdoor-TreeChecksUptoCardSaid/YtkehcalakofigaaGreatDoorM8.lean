/- The chapter's functions, walked by the abstract machine: plain lemmas, no condition. Printed by a program from longer texts: names made short. -/
import Derived.Test.YtkehcalakofigaaGreatDoorM6
import Derived.Test.YtkehcalakofigaaGreatDoorM7
import Derived.Shelf.Unicode.Decode
import Derived.Shelf.Unicode.DecodeSlow
import Derived.Shelf.Unicode.DecodeAny
import Derived.Shelf.Strconv.Atoi
import Derived.Shelf.Pu.ParseUintPublic10
import Derived.Lib.LaidU8T
set_option linter.unusedSectionVars false
set_option linter.unusedSimpArgs false
set_option linter.unusedVariables false
namespace Go.Proofs.YtkehcalakofigaaGreatDoor
open Go a1
theorem Tf:Extern.findNext Tryz.f114=none:=by kernel_rfl
theorem Te:(Extern.find Tryz.f114)=some Extern.BytealgIndexByte.indexByte:=by kernel_rfl
theorem Wl (s:List UInt8) (c:Int) (h:ae):eo Tryz.prog 114 [.str s,.int .u8 c] h (.int .i64 (Lib.indexByte s c.toNat.toUInt8)) h:=
 Wo (by decide) Tryz.func114 (by kernel_rfl) (by kernel_rfl) Tf Te s c h
theorem Wk (s:List UInt8) (c:Int) (h:ae):eo Tryz.prog 103 [.str s,.int .u8 c] h (.int .i64 (Lib.indexByte s c.toNat.toUInt8)) h:=by
 refine k5 (OX rfl (db ?_))
 unfold Bi
 simp +contextual only [↓ak,au,simprocAttr]
 refine eR (Wl _ _ _) ?_
 simp +contextual only [↓ak,au,simprocAttr]
theorem J4 (s:List UInt8) (c:Int) (h:ae):eo Tryz.prog 92 [.str s,.int .u8 c] h (.int .i64 (Lib.indexByte s c.toNat.toUInt8)) h:=by
 refine k5 (Rr rfl (db ?_))
 unfold B3
 simp +contextual only [↓ak,au,simprocAttr]
 refine eR (Wk _ _ _) ?_
 simp +contextual only [↓ak,au,simprocAttr]
end Go.Proofs.YtkehcalakofigaaGreatDoor
namespace Go.Proofs.YtkehcalakofigaaGreatDoor
open Go Go.Shelf
def Tryz.YH:Go.Shelf.Ren:=⟨fun | 197=>102 | 260=>113 | n=>n,fun | 9=>9 | 21=>21 | 3=>3 | 4=>4 | 5=>5 | 105=>128 | 119=>141 | 0=>0 | 46=>80 | 139=>144 | 138=>143 | n=>n,fun | 3=>0 | 4=>1 | n=>n⟩
theorem Tryz.YG:Go.Proofs.Lays.n197 Tryz.prog Tryz.YH:={
 mixed:=by kernel_rfl,
 f197:=Tryz.func102.trans (congrArg some (by kernel_rfl)),
 f260:=Tryz.func113.trans (congrArg some (by kernel_rfl)),
 t0:=Tryz.underlying0,
 a0:=Tryz.isAgg0,
 z0:=Tryz.sizeOf0,
 v0:=Tryz.zeroValue0,
 t3:=Tryz.underlying3,
 a3:=Tryz.isAgg3,
 z3:=Tryz.sizeOf3,
 v3:=Tryz.zeroValue3,
 t4:=Tryz.underlying4,
 a4:=Tryz.isAgg4,
 z4:=Tryz.sizeOf4,
 v4:=Tryz.zeroValue4,
 t5:=Tryz.underlying5,
 a5:=Tryz.isAgg5,
 z5:=Tryz.sizeOf5,
 v5:=Tryz.zeroValue5,
 t9:=Tryz.underlying9,
 a9:=Tryz.isAgg9,
 z9:=Tryz.sizeOf9,
 v9:=Tryz.zeroValue9,
 t21:=Tryz.underlying21,
 a21:=Tryz.isAgg21,
 z21:=Tryz.sizeOf21,
 v21:=Tryz.zeroValue21,
 t46:=Tryz.underlying80,
 a46:=Tryz.isAgg80,
 z46:=Tryz.sizeOf80,
 v46:=Tryz.zeroValue80,
 t105:=Tryz.underlying128,
 a105:=Tryz.isAgg128,
 z105:=Tryz.sizeOf128,
 v105:=Tryz.zeroValue128,
 t119:=Tryz.underlying141,
 a119:=Tryz.isAgg141,
 z119:=Tryz.sizeOf141,
 t138:=Tryz.underlying143,
 a138:=Tryz.isAgg143,
 z138:=Tryz.sizeOf143,
 v138:=Tryz.zeroValue143,
 t139:=Tryz.underlying144,
 a139:=Tryz.isAgg144,
 z139:=Tryz.sizeOf144,
 v139:=Tryz.zeroValue144,
 g3:=by kernel_rfl,
 g4:=by kernel_rfl}
def Tryz.YF:Go.Shelf.Ren:=⟨fun | 172=>123 | 244=>131 | 245=>122 | 247=>136 | 279=>127 | 280=>128 | 281=>129 | 282=>130 | 287=>121 | 316=>133 | 171=>135 | 205=>134 | 321=>125 | 322=>126 | 243=>140 | 246=>142 | 283=>143 | 284=>144 | 285=>145 | 286=>146 | 129=>90 | 317=>147 | 318=>148 | 319=>149 | 320=>150 | 337=>151 | 338=>152 | n=>n,fun | 9=>9 | 3=>3 | 75=>135 | 76=>146 | 4=>4 | 5=>5 | 167=>149 | 37=>139 | 0=>0 | 85=>159 | 2=>2 | 168=>151 | 53=>100 | 175=>136 | 46=>80 | 210=>156 | 127=>161 | 145=>164 | 143=>162 | 21=>21 | 171=>167 | 173=>169 | 212=>172 | 51=>97 | 20=>20 | 213=>173 | 232=>175 | 233=>176 | 80=>177 | n=>n,fun | 15=>3 | 16=>4 | 17=>5 | 18=>6 | 19=>7 | n=>n⟩
theorem Tryz.YE:Go.Proofs.Lays.n172 Tryz.prog Tryz.YF:={
 mixed:=by kernel_rfl,
 f129:=Tryz.func90.trans (congrArg some (by kernel_rfl)),
 f171:=Tryz.func135.trans (congrArg some (by kernel_rfl)),
 f172:=Tryz.func123.trans (congrArg some (by kernel_rfl)),
 f205:=Tryz.func134.trans (congrArg some (by kernel_rfl)),
 f243:=Tryz.func140.trans (congrArg some (by kernel_rfl)),
 f244:=Tryz.func131.trans (congrArg some (by kernel_rfl)),
 f245:=Tryz.func122.trans (congrArg some (by kernel_rfl)),
 f246:=Tryz.func142.trans (congrArg some (by kernel_rfl)),
 f247:=Tryz.func136.trans (congrArg some (by kernel_rfl)),
 f279:=Tryz.func127.trans (congrArg some (by kernel_rfl)),
 f280:=Tryz.func128.trans (congrArg some (by kernel_rfl)),
 f281:=Tryz.func129.trans (congrArg some (by kernel_rfl)),
 f282:=Tryz.func130.trans (congrArg some (by kernel_rfl)),
 f283:=Tryz.func143.trans (congrArg some (by kernel_rfl)),
 f284:=Tryz.func144.trans (congrArg some (by kernel_rfl)),
 f285:=Tryz.func145.trans (congrArg some (by kernel_rfl)),
 f286:=Tryz.func146.trans (congrArg some (by kernel_rfl)),
 f287:=Tryz.func121.trans (congrArg some (by kernel_rfl)),
 f316:=Tryz.func133.trans (congrArg some (by kernel_rfl)),
 f317:=Tryz.func147.trans (congrArg some (by kernel_rfl)),
 f318:=Tryz.func148.trans (congrArg some (by kernel_rfl)),
 f319:=Tryz.func149.trans (congrArg some (by kernel_rfl)),
 f320:=Tryz.func150.trans (congrArg some (by kernel_rfl)),
 f321:=Tryz.func125.trans (congrArg some (by kernel_rfl)),
 f322:=Tryz.func126.trans (congrArg some (by kernel_rfl)),
 f337:=Tryz.func151.trans (congrArg some (by kernel_rfl)),
 f338:=Tryz.func152.trans (congrArg some (by kernel_rfl)),
 t0:=Tryz.underlying0,
 a0:=Tryz.isAgg0,
 z0:=Tryz.sizeOf0,
 v0:=Tryz.zeroValue0,
 t2:=Tryz.underlying2,
 a2:=Tryz.isAgg2,
 z2:=Tryz.sizeOf2,
 v2:=Tryz.zeroValue2,
 t3:=Tryz.underlying3,
 a3:=Tryz.isAgg3,
 z3:=Tryz.sizeOf3,
 v3:=Tryz.zeroValue3,
 t4:=Tryz.underlying4,
 a4:=Tryz.isAgg4,
 z4:=Tryz.sizeOf4,
 v4:=Tryz.zeroValue4,
 t5:=Tryz.underlying5,
 a5:=Tryz.isAgg5,
 z5:=Tryz.sizeOf5,
 v5:=Tryz.zeroValue5,
 t9:=Tryz.underlying9,
 a9:=Tryz.isAgg9,
 z9:=Tryz.sizeOf9,
 v9:=Tryz.zeroValue9,
 t20:=Tryz.underlying20,
 a20:=Tryz.isAgg20,
 z20:=Tryz.sizeOf20,
 v20:=Tryz.zeroValue20,
 t21:=Tryz.underlying21,
 a21:=Tryz.isAgg21,
 z21:=Tryz.sizeOf21,
 v21:=Tryz.zeroValue21,
 t37:=Tryz.underlying139,
 a37:=Tryz.isAgg139,
 z37:=Tryz.sizeOf139,
 v37:=Tryz.zeroValue139,
 t46:=Tryz.underlying80,
 a46:=Tryz.isAgg80,
 z46:=Tryz.sizeOf80,
 v46:=Tryz.zeroValue80,
 t51:=Tryz.underlying97,
 a51:=Tryz.isAgg97,
 z51:=Tryz.sizeOf97,
 v51:=Tryz.zeroValue97,
 t53:=Tryz.underlying100,
 a53:=Tryz.isAgg100,
 z53:=Tryz.sizeOf100,
 v53:=Tryz.zeroValue100,
 t75:=Tryz.underlying135,
 a75:=Tryz.isAgg135,
 z75:=Tryz.sizeOf135,
 v75:=Tryz.zeroValue135,
 t76:=Tryz.underlying146,
 a76:=Tryz.isAgg146,
 z76:=Tryz.sizeOf146,
 v76:=Tryz.zeroValue146,
 t85:=Tryz.underlying159,
 a85:=Tryz.isAgg159,
 z85:=Tryz.sizeOf159,
 v85:=Tryz.zeroValue159,
 t127:=Tryz.underlying161,
 a127:=Tryz.isAgg161,
 z127:=Tryz.sizeOf161,
 v127:=Tryz.zeroValue161,
 t143:=Tryz.underlying162,
 a143:=Tryz.isAgg162,
 z143:=Tryz.sizeOf162,
 v143:=Tryz.zeroValue162,
 t145:=Tryz.underlying164,
 a145:=Tryz.isAgg164,
 z145:=Tryz.sizeOf164,
 v145:=Tryz.zeroValue164,
 t167:=Tryz.underlying149,
 a167:=Tryz.isAgg149,
 z167:=Tryz.sizeOf149,
 v167:=Tryz.zeroValue149,
 t168:=Tryz.underlying151,
 a168:=Tryz.isAgg151,
 z168:=Tryz.sizeOf151,
 v168:=Tryz.zeroValue151,
 t171:=Tryz.underlying167,
 a171:=Tryz.isAgg167,
 z171:=Tryz.sizeOf167,
 v171:=Tryz.zeroValue167,
 t173:=Tryz.underlying169,
 a173:=Tryz.isAgg169,
 z173:=Tryz.sizeOf169,
 v173:=Tryz.zeroValue169,
 t175:=Tryz.underlying136,
 a175:=Tryz.isAgg136,
 z175:=Tryz.sizeOf136,
 v175:=Tryz.zeroValue136,
 t210:=Tryz.underlying156,
 a210:=Tryz.isAgg156,
 z210:=Tryz.sizeOf156,
 v210:=Tryz.zeroValue156,
 t212:=Tryz.underlying172,
 a212:=Tryz.isAgg172,
 z212:=Tryz.sizeOf172,
 v212:=Tryz.zeroValue172,
 t213:=Tryz.underlying173,
 a213:=Tryz.isAgg173,
 z213:=Tryz.sizeOf173,
 t232:=Tryz.underlying175,
 a232:=Tryz.isAgg175,
 z232:=Tryz.sizeOf175,
 v232:=Tryz.zeroValue175,
 t233:=Tryz.underlying176,
 a233:=Tryz.isAgg176,
 z233:=Tryz.sizeOf176,
 v233:=Tryz.zeroValue176,
 g15:=by kernel_rfl,
 g16:=by kernel_rfl,
 g17:=by kernel_rfl,
 g18:=by kernel_rfl,
 g19:=by kernel_rfl}
def Tryz.El:Go.Shelf.Ren:=⟨fun | 14=>116 | 16=>121 | 17=>122 | 19=>125 | 20=>126 | 21=>127 | 22=>128 | 23=>129 | 24=>130 | 25=>133 | 27=>135 | 26=>134 | 28=>140 | 29=>142 | 30=>143 | 31=>144 | 32=>145 | 33=>146 | 35=>90 | 34=>147 | 36=>148 | 37=>149 | 38=>150 | 39=>151 | 40=>152 | n=>n,fun | 9=>9 | 3=>3 | 22=>100 | 24=>135 | 25=>136 | 4=>4 | 34=>149 | 5=>5 | 36=>80 | 37=>139 | 0=>0 | 39=>151 | 21=>21 | 44=>156 | 47=>161 | 50=>164 | 48=>162 | 2=>2 | 52=>167 | 55=>169 | 59=>172 | 60=>97 | 20=>20 | 61=>173 | 65=>175 | 66=>176 | 67=>177 | n=>n,fun | 0=>3 | 1=>4 | 2=>5 | 3=>6 | 4=>7 | n=>n⟩
theorem Tryz.Kk:Go.Proofs.LaysPu.n14 Tryz.prog Tryz.El:={
 mixed:=by kernel_rfl,
 f14:=Tryz.func116.trans (congrArg some (by kernel_rfl)),
 f16:=Tryz.func121.trans (congrArg some (by kernel_rfl)),
 f17:=Tryz.func122.trans (congrArg some (by kernel_rfl)),
 f19:=Tryz.func125.trans (congrArg some (by kernel_rfl)),
 f20:=Tryz.func126.trans (congrArg some (by kernel_rfl)),
 f21:=Tryz.func127.trans (congrArg some (by kernel_rfl)),
 f22:=Tryz.func128.trans (congrArg some (by kernel_rfl)),
 f23:=Tryz.func129.trans (congrArg some (by kernel_rfl)),
 f24:=Tryz.func130.trans (congrArg some (by kernel_rfl)),
 f25:=Tryz.func133.trans (congrArg some (by kernel_rfl)),
 f26:=Tryz.func134.trans (congrArg some (by kernel_rfl)),
 f27:=Tryz.func135.trans (congrArg some (by kernel_rfl)),
 f28:=Tryz.func140.trans (congrArg some (by kernel_rfl)),
 f29:=Tryz.func142.trans (congrArg some (by kernel_rfl)),
 f30:=Tryz.func143.trans (congrArg some (by kernel_rfl)),
 f31:=Tryz.func144.trans (congrArg some (by kernel_rfl)),
 f32:=Tryz.func145.trans (congrArg some (by kernel_rfl)),
 f33:=Tryz.func146.trans (congrArg some (by kernel_rfl)),
 f34:=Tryz.func147.trans (congrArg some (by kernel_rfl)),
 f35:=Tryz.func90.trans (congrArg some (by kernel_rfl)),
 f36:=Tryz.func148.trans (congrArg some (by kernel_rfl)),
 f37:=Tryz.func149.trans (congrArg some (by kernel_rfl)),
 f38:=Tryz.func150.trans (congrArg some (by kernel_rfl)),
 f39:=Tryz.func151.trans (congrArg some (by kernel_rfl)),
 f40:=Tryz.func152.trans (congrArg some (by kernel_rfl)),
 t0:=Tryz.underlying0,
 a0:=Tryz.isAgg0,
 z0:=Tryz.sizeOf0,
 v0:=Tryz.zeroValue0,
 i0:=by kernel_rfl,
 t2:=Tryz.underlying2,
 a2:=Tryz.isAgg2,
 z2:=Tryz.sizeOf2,
 v2:=Tryz.zeroValue2,
 i2:=by kernel_rfl,
 t3:=Tryz.underlying3,
 a3:=Tryz.isAgg3,
 z3:=Tryz.sizeOf3,
 v3:=Tryz.zeroValue3,
 i3:=by kernel_rfl,
 t4:=Tryz.underlying4,
 a4:=Tryz.isAgg4,
 z4:=Tryz.sizeOf4,
 v4:=Tryz.zeroValue4,
 i4:=by kernel_rfl,
 t5:=Tryz.underlying5,
 a5:=Tryz.isAgg5,
 z5:=Tryz.sizeOf5,
 v5:=Tryz.zeroValue5,
 i5:=by kernel_rfl,
 t9:=Tryz.underlying9,
 a9:=Tryz.isAgg9,
 z9:=Tryz.sizeOf9,
 v9:=Tryz.zeroValue9,
 i9:=by kernel_rfl,
 t20:=Tryz.underlying20,
 a20:=Tryz.isAgg20,
 z20:=Tryz.sizeOf20,
 v20:=Tryz.zeroValue20,
 i20:=by kernel_rfl,
 t21:=Tryz.underlying21,
 a21:=Tryz.isAgg21,
 z21:=Tryz.sizeOf21,
 v21:=Tryz.zeroValue21,
 i21:=by kernel_rfl,
 t22:=Tryz.underlying100,
 a22:=Tryz.isAgg100,
 z22:=Tryz.sizeOf100,
 v22:=Tryz.zeroValue100,
 i22:=by kernel_rfl,
 t24:=Tryz.underlying135,
 a24:=Tryz.isAgg135,
 z24:=Tryz.sizeOf135,
 v24:=Tryz.zeroValue135,
 i24:=by kernel_rfl,
 t25:=Tryz.underlying136,
 a25:=Tryz.isAgg136,
 z25:=Tryz.sizeOf136,
 v25:=Tryz.zeroValue136,
 i25:=by kernel_rfl,
 t34:=Tryz.underlying149,
 a34:=Tryz.isAgg149,
 z34:=Tryz.sizeOf149,
 v34:=Tryz.zeroValue149,
 i34:=by kernel_rfl,
 c34:=by kernel_rfl,
 t36:=Tryz.underlying80,
 a36:=Tryz.isAgg80,
 z36:=Tryz.sizeOf80,
 v36:=Tryz.zeroValue80,
 i36:=by kernel_rfl,
 t37:=Tryz.underlying139,
 a37:=Tryz.isAgg139,
 z37:=Tryz.sizeOf139,
 v37:=Tryz.zeroValue139,
 i37:=by kernel_rfl,
 t39:=Tryz.underlying151,
 a39:=Tryz.isAgg151,
 z39:=Tryz.sizeOf151,
 v39:=Tryz.zeroValue151,
 i39:=by kernel_rfl,
 t44:=Tryz.underlying156,
 a44:=Tryz.isAgg156,
 z44:=Tryz.sizeOf156,
 v44:=Tryz.zeroValue156,
 i44:=by kernel_rfl,
 t47:=Tryz.underlying161,
 a47:=Tryz.isAgg161,
 z47:=Tryz.sizeOf161,
 v47:=Tryz.zeroValue161,
 i47:=by kernel_rfl,
 t48:=Tryz.underlying162,
 a48:=Tryz.isAgg162,
 z48:=Tryz.sizeOf162,
 v48:=Tryz.zeroValue162,
 i48:=by kernel_rfl,
 t50:=Tryz.underlying164,
 a50:=Tryz.isAgg164,
 z50:=Tryz.sizeOf164,
 v50:=Tryz.zeroValue164,
 i50:=by kernel_rfl,
 t52:=Tryz.underlying167,
 a52:=Tryz.isAgg167,
 z52:=Tryz.sizeOf167,
 v52:=Tryz.zeroValue167,
 i52:=by kernel_rfl,
 t55:=Tryz.underlying169,
 a55:=Tryz.isAgg169,
 z55:=Tryz.sizeOf169,
 v55:=Tryz.zeroValue169,
 i55:=by kernel_rfl,
 t59:=Tryz.underlying172,
 a59:=Tryz.isAgg172,
 z59:=Tryz.sizeOf172,
 v59:=Tryz.zeroValue172,
 i59:=by kernel_rfl,
 t60:=Tryz.underlying97,
 a60:=Tryz.isAgg97,
 z60:=Tryz.sizeOf97,
 v60:=Tryz.zeroValue97,
 i60:=by kernel_rfl,
 t61:=Tryz.underlying173,
 a61:=Tryz.isAgg173,
 z61:=Tryz.sizeOf173,
 t65:=Tryz.underlying175,
 a65:=Tryz.isAgg175,
 z65:=Tryz.sizeOf175,
 v65:=Tryz.zeroValue175,
 i65:=by kernel_rfl,
 t66:=Tryz.underlying176,
 a66:=Tryz.isAgg176,
 z66:=Tryz.sizeOf176,
 v66:=Tryz.zeroValue176,
 i66:=by kernel_rfl,
 t67:=Tryz.underlying177,
 a67:=Tryz.isAgg177,
 z67:=Tryz.sizeOf177,
 v67:=Tryz.zeroValue177,
 i67:=by kernel_rfl,
 g0:=by kernel_rfl,
 m0:=by kernel_rfl,
 g1:=by kernel_rfl,
 m1:=by kernel_rfl,
 g2:=by kernel_rfl,
 m2:=by kernel_rfl,
 g3:=by kernel_rfl,
 m3:=by kernel_rfl,
 g4:=by kernel_rfl,
 m4:=by kernel_rfl}
def Tryz.v8:Go.Shelf.Ren:=⟨fun | 260=>113 | n=>n,fun | 9=>9 | 21=>21 | 3=>3 | 4=>4 | 5=>5 | 119=>141 | 0=>0 | 46=>80 | 139=>144 | 138=>143 | n=>n,fun | 3=>0 | 4=>1 | n=>n⟩
theorem Tryz.YI:Go.Proofs.Lays.n260 Tryz.prog Tryz.v8:={
 mixed:=by kernel_rfl,
 f260:=Tryz.func113.trans (congrArg some (by kernel_rfl)),
 t0:=Tryz.underlying0,
 a0:=Tryz.isAgg0,
 z0:=Tryz.sizeOf0,
 v0:=Tryz.zeroValue0,
 t3:=Tryz.underlying3,
 a3:=Tryz.isAgg3,
 z3:=Tryz.sizeOf3,
 v3:=Tryz.zeroValue3,
 t4:=Tryz.underlying4,
 a4:=Tryz.isAgg4,
 z4:=Tryz.sizeOf4,
 v4:=Tryz.zeroValue4,
 t5:=Tryz.underlying5,
 a5:=Tryz.isAgg5,
 z5:=Tryz.sizeOf5,
 v5:=Tryz.zeroValue5,
 t9:=Tryz.underlying9,
 a9:=Tryz.isAgg9,
 z9:=Tryz.sizeOf9,
 v9:=Tryz.zeroValue9,
 t21:=Tryz.underlying21,
 a21:=Tryz.isAgg21,
 z21:=Tryz.sizeOf21,
 v21:=Tryz.zeroValue21,
 t46:=Tryz.underlying80,
 a46:=Tryz.isAgg80,
 z46:=Tryz.sizeOf80,
 v46:=Tryz.zeroValue80,
 t119:=Tryz.underlying141,
 a119:=Tryz.isAgg141,
 z119:=Tryz.sizeOf141,
 t138:=Tryz.underlying143,
 a138:=Tryz.isAgg143,
 z138:=Tryz.sizeOf143,
 v138:=Tryz.zeroValue143,
 t139:=Tryz.underlying144,
 a139:=Tryz.isAgg144,
 z139:=Tryz.sizeOf144,
 v139:=Tryz.zeroValue144,
 g3:=by kernel_rfl,
 g4:=by kernel_rfl}
end Go.Proofs.YtkehcalakofigaaGreatDoor
namespace Go.Proofs.YtkehcalakofigaaGreatDoor
open Go a1 Go.RowKit
section
open Go.Shelf
theorem Sy (s:ByteArray) (w:World) (dz:Lib.Utf8Tabs 0 1 w):
 Calls Tryz.prog 102 #[.string s] w fun e al=>e=.returned (.tuple #[.int .i32 (Lib.decodeGo s).1,.int .i64 (Lib.decodeGo s).2])∧Below w.heap.size w al:=Any.utf8_DecodeRuneInString Tryz.YG s w dz
theorem Oy (s:ByteArray) (n:Int) (ai:s.size≤18) (h:Lib.atoi s.data.toList=some n) (w:World):
 Calls Tryz.prog 123 #[.string s] w fun e al=>e=.returned (.tuple #[.int .i64 n,.nilIface])∧Below w.heap.size w al:=(Any.strconv_Atoi Tryz.YE s n ai h w).mono fun e al q=>⟨q.1,by obtain ⟨t,rfl⟩:=q.2;exact Lib.bytesWorld_below _ _ _⟩
theorem aat (s:ByteArray) (tc:s.size≤9223372036854775806) (u:Nat) (h:Lib.parseUintB 64 s.data.toList=.ok u) (w:World):
 Calls Tryz.prog 116 #[.string s,.int .i64 10,.int .i64 64] w fun e al=>e=.returned (.tuple #[.int .u64 u,.nilIface])∧Below w.heap.size w al:=(Any.strconv_ParseUint_10_at64_ok Tryz.Kk s tc u h w).mono fun e al q=>⟨q.1,by
  rcases q.2 with rfl | rfl
  · exact Below.refl _ _
  · exact Lib.bytesWorld_below _ _ _⟩
theorem aav (s:ByteArray) (rj:s.size≤281474976710656) (h:Lib.parseUintB 64 s.data.toList=.range) (w:World) (he:sd w 4):
 Calls Tryz.prog 116 #[.string s,.int .i64 10,.int .i64 64] w fun e al=>(∃p,e=.returned (.tuple #[.int .u64 18446744073709551615,.iface (Tryz.El.t 39) p]))∧Below w.heap.size w al:=by
 obtain ⟨aU,U,ad⟩:=he
 refine (Any.strconv_ParseUint_10_at64_range Tryz.Kk s rj h aU w U ad).mono fun e al q=>?_
 obtain ⟨N,aI,_,_,f'⟩:=q
 exact ⟨⟨_,aI⟩,f'⟩
end
theorem vY {f:FuncId} (aZ:Nat.beq f cM=false) {args:List V} {v:V} {h:ae} (gq:∃fn,Tryz.prog.funcs[f]? =some fn∧fn.body.isSome=true) (H:∀E xs w,AT w→aY E args xs→Calls Tryz.prog f xs.toArray w fun e al=>∃x,e=.returned x∧Rel E v x∧Below w.heap.size w al):eo Tryz.prog f args h v h:=by
 refine ⟨fun e=>by subst e;simp at aZ,.inl ⟨gq,fun aw E w xs ao s=>?_⟩⟩
 refine (H E xs w (Lay.fc s.laid s.frame) ao).mono fun e al q=>?_
 obtain ⟨x,rfl,bx,af⟩:=q
 exact ⟨E,x,rfl,fun _ _ q=>q,bx,s.below af⟩
theorem Sw (s:List UInt8) (h:ae):eo Tryz.prog 102 [.str s] h (.tuple [.int .i32 (Lib.decodeGo ⟨⟨s⟩⟩).1,.int .i64 (Lib.decodeGo ⟨⟨s⟩⟩).2]) h:=by
 refine vY (by decide) ⟨_,Tryz.func102,by kernel_rfl⟩ fun E xs w ai ao=>?_
 obtain ⟨y,b2,rfl,aj,rfl⟩:=ao
 simp only [Rel] at aj
 subst aj
 refine (Sy ⟨⟨s⟩⟩ w ai.MY).mono fun e al q=>?_
 obtain ⟨rfl,af⟩:=q
 refine ⟨_,rfl,?_,af⟩
 simp only [Rel]
 exact ⟨_,rfl,_,_,rfl,rfl,_,_,rfl,rfl,rfl⟩
theorem Sh (s sub:List UInt8) (aQ:s.length≤100000) (h:ae):eo Tryz.prog 120 [.str s,.str sub] h (.bool (Lib.contains s sub)) h:=by
 refine vY (by decide) ⟨_,Tryz.func120,by kernel_rfl⟩ fun E xs w ai ao=>?_
 obtain ⟨y,b2,rfl,aj,z,iv,rfl,ay,rfl⟩:=ao
 simp only [Rel] at aj ay
 subst aj ay
 obtain ⟨m,hm⟩:=ai.maxLen
 refine (Hx ⟨⟨s⟩⟩ ⟨⟨sub⟩⟩ m w (by show s.length<4294967281;omega) hm).mono fun e al q=>?_
 obtain ⟨rfl,rfl⟩:=q
 refine ⟨_,rfl,?_,Below.refl _ _⟩
 simp only [Rel]
theorem Ox (s:List UInt8) (n:Int) (ai:s.length≤18) (h:Lib.atoi s=some n) (ah:ae):eo Tryz.prog 123 [.str s] ah (.tuple [.int .i64 n,.nilIface]) ah:=by
 refine vY (by decide) ⟨_,Tryz.func123,by kernel_rfl⟩ fun E xs w ri ao=>?_
 obtain ⟨y,b2,rfl,aj,rfl⟩:=ao
 simp only [Rel] at aj
 subst aj
 refine (Oy ⟨⟨s⟩⟩ n ai h w).mono fun e al q=>?_
 obtain ⟨rfl,af⟩:=q
 refine ⟨_,rfl,?_,af⟩
 simp only [Rel]
 exact ⟨_,rfl,_,_,rfl,rfl,_,_,rfl,rfl,rfl⟩
theorem aas (s:List UInt8) (u:Nat) (ai:s.length≤100000) (h:Lib.parseUintB 64 s=.ok u) (ah:ae):eo Tryz.prog 116 [.str s,.int .i64 10,.int .i64 64] ah (.tuple [.int .u64 u,.nilIface]) ah:=by
 refine vY (by decide) ⟨_,Tryz.func116,by kernel_rfl⟩ fun E xs w ri ao=>?_
 obtain ⟨y,b2,rfl,aj,z,iv,rfl,ay,t,cc,rfl,aK,rfl⟩:=ao
 simp only [Rel] at aj ay aK
 subst aj ay aK
 refine (aat ⟨⟨s⟩⟩ (by show s.length≤9223372036854775806;omega) u h w).mono fun e al q=>?_
 obtain ⟨rfl,af⟩:=q
 refine ⟨_,rfl,?_,af⟩
 simp only [Rel]
 exact ⟨_,rfl,_,_,rfl,rfl,_,_,rfl,rfl,rfl⟩
def SX:TypeId:=Tryz.El.t 39
theorem aau (s:List UInt8) (ai:s.length≤100000) (h:Lib.parseUintB 64 s=.range) (ah:ae):eo Tryz.prog 116 [.str s,.int .i64 10,.int .i64 64] ah (.tuple [.int .u64 18446744073709551615,.iface SX .bad]) ah:=by
 refine vY (by decide) ⟨_,Tryz.func116,by kernel_rfl⟩ fun E xs w ri ao=>?_
 obtain ⟨y,b2,rfl,aj,z,iv,rfl,ay,t,cc,rfl,aK,rfl⟩:=ao
 simp only [Rel] at aj ay aK
 subst aj ay aK
 refine (aav ⟨⟨s⟩⟩ (by show s.length≤281474976710656;omega) h w ri.Ib).mono fun e al q=>?_
 obtain ⟨⟨p,rfl⟩,af⟩:=q
 refine ⟨_,rfl,?_,af⟩
 simp only [Rel]
 exact ⟨_,rfl,_,_,rfl,rfl,_,_,rfl,⟨p,rfl,trivial⟩,rfl⟩
end Go.Proofs.YtkehcalakofigaaGreatDoor
namespace Go.Proofs.YtkehcalakofigaaGreatDoor
open Go a1
def ka (s:List UInt8) (i:Nat):Nat:=if decodeL s i=(65533,1) then 0 else (decodeL s i).2
def oT:Nat→List UInt8→Nat→Nat
 | 0,s,_=>s.length
 | f+1,s,a=>if a<s.length then (if ka s a=0 then a else oT f s (a+ka s a)) else s.length
def nE (s:List UInt8) (a:Nat):Nat:=oT (s.length-a) s a
def qb (s:List UInt8):Nat:=nE s 0
theorem L9 (s:List UInt8):∀(f g a:Nat),s.length-a≤f→s.length-a≤g→oT f s a=oT g s a
 | 0,g,a,U,ad=>by
   cases g with
   | zero=>rfl
   | succ g=>simp only [oT];rw [if_neg (by omega)]
 | f+1,0,a,U,ad=>by simp only [oT];rw [if_neg (by omega)]
 | f+1,g+1,a,U,ad=>by
   simp only [oT]
   by_cases bm:a<s.length
   · rw [if_pos bm,if_pos bm]
     by_cases ar:ka s a=0
     · rw [if_pos ar,if_pos ar]
     · rw [if_neg ar,if_neg ar]
       exact L9 s f g _ (by omega) (by omega)
   · rw [if_neg bm,if_neg bm]
theorem L8 {s:List UInt8} {a:Nat} (h:s.length≤a):nE s a=s.length:=by
 unfold nE
 rw [show s.length-a=0 from by omega]
 rfl
theorem aa6 {s:List UInt8} {a:Nat} (h:a<s.length) (ar:ka s a=0):nE s a=a:=by
 unfold nE
 rw [show s.length-a=s.length-a-1+1 from by omega,oT,if_pos h,if_pos ar]
theorem Fs {s:List UInt8} {a:Nat} (h:a<s.length) (ar:ka s a≠0):nE s a=nE s (a+ka s a):=by
 unfold nE
 rw [show s.length-a=s.length-a-1+1 from by omega,oT,if_pos h,if_neg ar]
 exact L9 s _ _ _ (by omega) (by omega)
def eh (c:UInt8):Bool:=kb c.toNat
def ej (c:UInt8):Bool:=pW c.toNat
def hi (l:List UInt8):Nat:=l.foldl (fun n c=>10 * n + (c.toNat-48)) 0
abbrev pn:=Except Int (Int × Int × List UInt8 × Nat)
def tO (r:List UInt8):pn:=
 let t:=r.takeWhile eh
 if 2147483647<hi t then .error 254 else .ok (1,(if 1073741823 < (hi t:Int) then (hi t:Int)-2147483648 else hi t),[],t.length)
def l8:List UInt8→Option (UInt8 × Nat)
 | []=>none
 | c::r=>if c=110 then some (10,1) else if c=116 then some (9,1) else if c=34 then some (34,1) else if c=92 then some (92,1) else
   if 2≤r.length∧eh c∧eh (r[0]?.getD 0)∧eh (r[1]?.getD 0)∧hi (c::r.take 2)<256 then some ((hi (c::r.take 2)).toUInt8,3) else none
def r6:Nat→List UInt8→Option (List UInt8 × Nat)
 | 0,_=>none
 | _+1,[]=>none
 | f+1,c::r=>if c=34 then some ([],1) else if c=92 then (match l8 r with
    | none=>none
    | some (b,n)=>(r6 f (r.drop n)).map fun q=>(b::q.1,q.2+n+1))
   else if c<32∨c=127 then none else (r6 f r).map fun q=>(c::q.1,q.2+1)
def mM (r:List UInt8):Option (List UInt8 × Nat):=r6 r.length r
def o1 (r:List UInt8):pn:=
 match mM r with
 | none=>.error 252
 | some (b,n)=>if 4096<b.length then .error 255 else .ok (2,0,b,n+1)
def pU:List (List UInt8):=[[97,110,100],[98,101,103,105,110],[101,108,115,101],[101,110,100],[101,120,99,101,112,116,105,111,110],[102,97,108,115,101],[102,117,110],[105,102],[105,110],[108,101,116],[109,97,116,99,104],[109,111,100],[111,102],[114,97,105,115,101],[114,101,99],[116,104,101,110],[116,114,117,101],[116,114,121],[116,121,112,101],[119,105,116,104]]
def hy:List (List UInt8):=[[59,59],[58,61],[45,62],[60,61],[59],[40],[41],[44],[61],[60],[43],[45],[42],[47],[124],[33],[95]]
def lF (t:List UInt8):Bool:=pU.contains t
def hZ (kind:Int) (r:List UInt8):pn:=
 let t:=r.takeWhile ej
 if kind=3∧t=[95] then .ok (7,0,t,t.length) else if kind=3∧lF t then .ok (6,0,t,t.length) else if 64<t.length then .error 255 else .ok (kind,0,t,t.length)
def uf (r:List UInt8):pn:=
 match hy.find? (·.isPrefixOf r) with
 | some t=>.ok (7,0,t,t.length)
 | none=>.error 251
def jJ:List UInt8→Bool
 | d::_=>fx d.toNat
 | []=>false
def fw:List UInt8→pn
 | []=>.error 0
 | c::r=>if eh c then tO (c::r) else if c=34 then o1 r else if fx c.toNat||c=95 then hZ 3 (c::r) else if kf c.toNat then hZ 4 (c::r) else
   if c=39∧jJ r then (hZ 5 r).map fun q=>(q.1,q.2.1,q.2.2.1,q.2.2.2+1) else uf (c::r)
structure bS where
 kind:Int
 num:Int
 pos:Nat
 text:List UInt8
deriving DecidableEq
def blank (c:UInt8):Bool:=c=9||c=10||c=13||c=32
def u5 (w:bS):Except (Int × Nat) (List bS)→Except (Int × Nat) (List bS)
 | .ok ws=>.ok (w::ws)
 | .error e=>.error e
def kq:Nat→List UInt8→Nat→Except (Int × Nat) (List bS)
 | 0,_,_=>.ok []
 | _+1,[],_=>.ok []
 | f+1,c::r,p=>if blank c then kq f r (p+1) else if ([40,42]:List UInt8).isPrefixOf (c::r) then (match gI (c::r) 0 with
    | none=>.error (253,p)
    | some n=>kq f ((c::r).drop n) (p+n))
   else match fw (c::r) with
    | .error e=>.error (e,p)
    | .ok q=>u5 ⟨q.1,q.2.1,p,q.2.2.1⟩ (kq f ((c::r).drop q.2.2.2) (p+q.2.2.2))
def nw (r:List UInt8) (p:Nat):Except (Int × Nat) (List bS):=kq r.length r p
def iP (s:List UInt8):Except (Int × Nat) (List bS):=
 if 65536<s.length then .error (3,0) else if qb s<s.length then .error (250,qb s) else nw s 0
theorem FL {p:UInt8→Bool} {c:UInt8} {r:List UInt8} (h:p c=true):1≤((c::r).takeWhile p).length:=by
 simp only [List.takeWhile_cons,h,if_true,List.length_cons]
 omega
theorem abD {t:List UInt8} (h:t ∈ hy):1≤t.length:=by
 revert t
 decide
theorem FB {c:UInt8} (h:fx c.toNat=true):ej c=true:=by unfold ej pW;rw [h];simp
theorem IF {c:UInt8} (h:kf c.toNat=true):ej c=true:=by unfold ej pW;rw [h];simp
theorem MT {c:UInt8} (h:c=95):ej c=true:=by subst h;decide
theorem KV {k:Int} {r:List UInt8} {q:Int × Int × List UInt8 × Nat} (h:hZ k r=.ok q):q.2.2.2=(r.takeWhile ej).length:=by
 unfold hZ at h
 simp only at h
 split at h
 · cases h;rfl
 · split at h
   · cases h;rfl
   · split at h
     · cases h
     · cases h;rfl
theorem EG {r:List UInt8} {q:Int × Int × List UInt8 × Nat} (h:fw r=.ok q):1≤q.2.2.2:=by
 match r,h with
 | c::r,h=>
   simp only [fw] at h
   split at h
   · rename_i aV
     unfold tO at h
     simp only at h
     split at h
     · cases h
     · cases h
       exact FL aV
   · split at h
     · unfold o1 at h
       split at h
       · cases h
       · split at h
         · cases h
         · cases h;simp only;omega
     · split at h
       · rename_i aQ
         rw [KV h]
         simp only [Bool.or_eq_true,decide_eq_true_eq] at aQ
         exact FL (aQ.elim FB MT)
       · split at h
         · rename_i aQ
           rw [KV h]
           exact FL (IF aQ)
         · split at h
           · cases a7:hZ 5 r with
             | error e=>rw [a7] at h;cases h
             | ok dK=>rw [a7] at h;cases h;simp only;omega
           · unfold uf at h
             split at h
             · rename_i t aC
               cases h
               exact abD (List.mem_of_find?_eq_some aC)
             · cases h
theorem zl:∀{r:List UInt8} {d:Int} {n:Nat},gI r d=some n→2≤n
 | [],d,n,h=>by simp [gI] at h
 | [_],d,n,h=>by simp [gI] at h
 | x::y::r,d,n,h=>by
   rw [gI] at h
   split at h
   · cases aF:gI r (d+1) with
     | none=>rw [aF] at h;cases h
     | some m=>rw [aF] at h;cases h;simp only;omega
   · split at h
     · split at h
       · cases h;omega
       · cases aF:gI r (d-1) with
         | none=>rw [aF] at h;cases h
         | some m=>rw [aF] at h;cases h;simp only;omega
     · cases aF:gI (y::r) d with
       | none=>rw [aF] at h;cases h
       | some m=>rw [aF] at h;cases h;have:=zl aF;simp only;omega
theorem wa:∀(f g:Nat) (r:List UInt8) (p:Nat),r.length≤f→r.length≤g→kq f r p=kq g r p
 | 0,g,r,p,U,ad=>by
   have:r=[]:=List.length_eq_zero_iff.1 (by omega)
   subst this
   cases g<;>rfl
 | f+1,0,r,p,U,ad=>by
   have:r=[]:=List.length_eq_zero_iff.1 (by omega)
   subst this
   rfl
 | f+1,g+1,[],p,U,ad=>rfl
 | f+1,g+1,c::r,p,U,ad=>by
   simp only [List.length_cons] at U ad
   simp only [kq]
   split
   · exact wa f g _ _ (by omega) (by omega)
   · split
     · split
       · rfl
       · rename_i n a7
         have:=zl a7
         exact wa f g _ _ (by rw [List.length_drop,List.length_cons];omega) (by rw [List.length_drop,List.length_cons];omega)
     · split
       · rfl
       · rename_i q aF
         have:=EG aF
         rw [wa f g _ _ (by rw [List.length_drop,List.length_cons];omega) (by rw [List.length_drop,List.length_cons];omega)]
theorem KC (c:UInt8) (r:List UInt8) (p:Nat):nw (c::r) p=if blank c then nw r (p+1) else if ([40,42]:List UInt8).isPrefixOf (c::r) then (match gI (c::r) 0 with
 | none=>.error (253,p)
 | some n=>nw ((c::r).drop n) (p+n))
 else match fw (c::r) with
  | .error e=>.error (e,p)
  | .ok q=>u5 ⟨q.1,q.2.1,p,q.2.2.1⟩ (nw ((c::r).drop q.2.2.2) (p+q.2.2.2)):=by
 unfold nw
 simp only [List.length_cons,kq]
 split
 · rfl
 · split
   · split
     · rfl
     · rename_i n a7
       have:=zl a7
       exact wa _ _ _ _ (by rw [List.length_drop,List.length_cons];omega) (Nat.le_refl _)
   · split
     · rfl
     · rename_i q aF
       have:=EG aF
       rw [wa _ _ _ _ (by rw [List.length_drop,List.length_cons];omega) (Nat.le_refl _)]
theorem FN:∀(f g:Nat) (r:List UInt8),r.length≤f→r.length≤g→r6 f r=r6 g r
 | 0,g,r,U,ad=>by
   have:r=[]:=List.length_eq_zero_iff.1 (by omega)
   subst this
   cases g<;>rfl
 | f+1,0,r,U,ad=>by
   have:r=[]:=List.length_eq_zero_iff.1 (by omega)
   subst this
   rfl
 | f+1,g+1,[],U,ad=>rfl
 | f+1,g+1,c::r,U,ad=>by
   simp only [List.length_cons] at U ad
   simp only [r6]
   split
   · rfl
   · split
     · split
       · rfl
       · rw [FN f g _ (by rw [List.length_drop];omega) (by rw [List.length_drop];omega)]
     · split
       · rfl
       · rw [FN f g _ (by omega) (by omega)]
theorem aci:mM []=none:=rfl
theorem ach (c:UInt8) (r:List UInt8):mM (c::r)=if c=34 then some ([],1) else if c=92 then (match l8 r with
 | none=>none
 | some (b,n)=>(mM (r.drop n)).map fun q=>(b::q.1,q.2+n+1))
 else if c<32∨c=127 then none else (mM r).map fun q=>(c::q.1,q.2+1):=by
 unfold mM
 simp only [List.length_cons,r6]
 split
 · rfl
 · split
   · split
     · rfl
     · rw [FN _ _ _ (by rw [List.length_drop];omega) (Nat.le_refl _)]
   · rfl
theorem Ix:∀(l:List UInt8) (a:Nat),a≤l.foldl (fun n c=>10 * n + (c.toNat-48)) a
 | [],a=>Nat.le_refl _
 | c::l,a=>by
   simp only [List.foldl_cons]
   exact Nat.le_trans (by omega) (Ix l _)
def iE (a:Nat) (l:List UInt8):Nat:=l.foldl (fun n c=>10 * n + (c.toNat-48)) a
theorem Tr (a:Nat) (c:UInt8) (l:List UInt8):iE a (c::l)=iE (10 * a + (c.toNat-48)) l:=by unfold iE;rw [List.foldl_cons]
theorem aar (M:Nat) (cR:M<18446744073709551620) (l:List UInt8):∀(a:Nat),(∀c ∈ l,eh c=true)→(iE a l≤M→Lib.parseUintM M a l=.ok (iE a l))∧(a≤M→¬iE a l≤M→Lib.parseUintM M a l=.range):=by
 induction l with
 | nil=>
   intro a _
   refine ⟨fun _=>?_,fun U ad=>absurd U ad⟩
   simp only [Lib.parseUintM,iE,List.foldl_nil]
 | cons c l Wf=>
   intro a h
   have ar:=h c (List.mem_cons_self ..)
   simp only [eh,kb,Bool.and_eq_true,decide_eq_true_eq] at ar
   have Ux:48≤c.toNat∧c.toNat≤57:=by omega
   have bh:=Wf (10 * a + (c.toNat-48)) (fun x ao=>h x (List.mem_cons_of_mem _ ao))
   have hm:10 * a + (c.toNat-48)≤iE (10 * a + (c.toNat-48)) l:=Ix l (10 * a + (c.toNat-48))
   simp only [Lib.parseUintM,Ux,and_self,if_true]
   rw [Nat.mul_comm a 10,Tr]
   have kO:10 * a≤10 * a + (c.toNat-48):=Nat.le_add_right _ _
   generalize 10 * a + (c.toNat-48)=A at bh hm kO ⊢
   refine ⟨fun aN=>?_,fun bm hE=>?_⟩
   · rw [if_neg (by omega),if_neg (by omega)]
     exact bh.1 aN
   · by_cases U:1844674407370955162≤a
     · rw [if_pos U]
     · rw [if_neg U]
       by_cases ad:M<A
       · rw [if_pos ad]
       · rw [if_neg ad]
         exact bh.2 (by omega) hE
theorem aaq (l:List UInt8) (h:∀c ∈ l,eh c=true) (ai:l≠[]):(hi l≤18446744073709551615→Lib.parseUintB 64 l=.ok (hi l))∧(¬hi l≤18446744073709551615→Lib.parseUintB 64 l=.range):=by
 unfold Lib.parseUintB
 rw [if_neg ai,show (2 ^ 64-1:Nat)=18446744073709551615 from by decide]
 have:=aar 18446744073709551615 (by omega) l 0 h
 exact ⟨this.1,this.2 (Nat.zero_le _)⟩
structure lh (s:List UInt8) (p:Nat) (b:aO) (h:ae) (res:pn) (x:V) (aa:ae):Prop where
 mod:Mod (fun q=>q=b) h aa
 res:∃k n t,x=.agg [.int .i64 k,.int .i64 n,.int .i64 0,.str t]∧match res with
  | .ok q=>k=q.1∧n=q.2.1∧t=q.2.2.1∧aa.get b=ec s ((p+q.2.2.2:Nat):Int) 0∧p+q.2.2.2≤s.length
  | .error e=>e≠0∧∃bf:Int,aa.get b=ec s bf e
theorem ED {P:Program}:(dV.iD true 5).run P .nilIface .nilIface=some (.bool false):=rfl
theorem Zq {P:Program} (T:TypeId) (x:V):(dV.iD true 5).run P (.iface T x) .nilIface=some (.bool true):=rfl
theorem MI {p:UInt8→Bool} {l:List UInt8}:∀c ∈ l.takeWhile p,p c=true:=fun c ar=>by
 induction l with
 | nil=>simp at ar
 | cons x l bh=>
   simp only [List.takeWhile_cons] at ar
   split at ar
   · rename_i ao
     rcases List.mem_cons.1 ar with rfl | ar
     · exact ao
     · exact bh ar
   · simp at ar
theorem MJ (p:UInt8→Bool) (s:List UInt8) (a:Nat):((s.drop a).takeWhile p).length≤s.length-a:=by
 have:=MK p (s.drop a)
 rwa [List.length_drop] at this
theorem ZE (s:List UInt8) (a0:Nat) (b:aO) (h:ae) (af:h.get b=ec s a0 0) (bb:a0<s.length) (aQ:s.length≤100000) (fh:Old h b) (aV:eh s[a0]=true):
 bF Tryz.prog 106 [.ptr b 0] h (lh s a0 b h (tO (s.drop a0))):=by
 refine O6 rfl (db ?_)
 unfold Bl
 have ck:(b=aH h.next)=False:=wj fh (Nat.le_refl _)
 have cx:(aH h.next=b)=False:=by rw [←ck];exact propext eq_comm
 simp +contextual only [af,ck,cx,↓ak,au,simprocAttr]
 have ao:Ext h (h.new (.bk [.int .i64 0,.int .i64 0,.int .i64 0,.str []] 0 false)):=(Ext.refl h).new _
 refine bT (Mc s a0 0 b 105 kb _ (by rw [ao.get _ fh,af]) (by omega) aQ (by decide) (fun c h=>sH c h)) ?_
 rintro x U ⟨rfl,hm,aD⟩
 have h6:(fun c:UInt8=>kb (c.toNat:Int))=eh:=rfl
 rw [h6] at aD ⊢
 have rk:Mod (fun q=>q=b) h U:=(ao.mod _).trans hm
 have g1:U.get (aH h.next)=.bk [.int .i64 0,.int .i64 0,.int .i64 0,.str []] 0 false:=by
  rw [hm.get _ (gS (by rw [gw];omega)) (by rw [cx];exact id)]
  simp only [↓ak,au,simprocAttr]
 have c8:(s.drop a0).takeWhile eh≠[]:=by
  rw [drop_cons bb,List.takeWhile_cons,aV]
  simp
 have hlen:=MJ eh s a0
 have ah:=aaq ((s.drop a0).takeWhile eh) MI c8
 unfold ec at aD
 have rm:tO (s.drop a0)=if 2147483647<hi ((s.drop a0).takeWhile eh) then .error 254 else .ok (1,(if 1073741823 < (hi ((s.drop a0).takeWhile eh):Int) then (hi ((s.drop a0).takeWhile eh):Int)-2147483648 else hi ((s.drop a0).takeWhile eh)),[],((s.drop a0).takeWhile eh).length):=rfl
 rw [rm]
 generalize (s.drop a0).takeWhile eh=t at *
 simp +contextual only [↓ak,au,simprocAttr]
 by_cases vh:hi t≤18446744073709551615
 · refine eR (aas t (hi t) (by omega) (ah.1 vh) U) ?_
   generalize hi t=u at *
   by_cases CI:(2147483647:Int) < (u:Int)
   · have sX:2147483647<u:=by omega
     simp +contextual only [ED,CI,g1,aD,ck,cx,↓ak,au,simprocAttr]
     refine ⟨(rk.set (fun _=>rfl) _).set (fun q=>absurd (show cr (aH h.next)<h.next from q) (by rw [dR];omega)) _,?_⟩
     rw [if_pos sX]
     refine ⟨_,_,_,rfl,by decide,((a0+t.length:Nat):Int),?_⟩
     simp only [ec,ck,cx,↓ak,au,simprocAttr]
   · have sX:¬2147483647<u:=by omega
     have bM:IntKind.i64.wrap (u:Int)=(u:Int):=wrap_i64 (by omega) (by omega)
     have bI:IntKind.i64.wrap ((u:Int)-2147483648)=(u:Int)-2147483648:=wrap_i64 (by omega) (by omega)
     by_cases IN:(1073741823:Int) < (u:Int)
     · simp +contextual only [ED,CI,sX,IN,g1,aD,ck,cx,bM,bI,↓ak,au,simprocAttr]
       refine ⟨(rk.set (fun q=>absurd (show cr (aH h.next)<h.next from q) (by rw [dR];omega)) _),?_⟩
       refine ⟨_,_,_,rfl,rfl,rfl,rfl,?_,by show a0+t.length≤s.length;omega⟩
       simp only [ec,aD,ck,cx,↓ak,au,simprocAttr]
     · simp +contextual only [ED,CI,sX,IN,g1,aD,ck,cx,bM,bI,↓ak,au,simprocAttr]
       refine ⟨(rk.set (fun q=>absurd (show cr (aH h.next)<h.next from q) (by rw [dR];omega)) _),?_⟩
       refine ⟨_,_,_,rfl,rfl,rfl,rfl,?_,by show a0+t.length≤s.length;omega⟩
       simp only [ec,aD,ck,cx,↓ak,au,simprocAttr]
 · refine eR (aau t (by omega) (ah.2 vh) U) ?_
   have sX:2147483647<hi t:=by omega
   rw [if_pos sX]
   simp +contextual only [Zq,g1,aD,ck,cx,↓ak,au,simprocAttr]
   refine ⟨(rk.set (fun _=>rfl) _).set (fun q=>absurd (show cr (aH h.next)<h.next from q) (by rw [dR];omega)) _,?_⟩
   refine ⟨_,_,_,rfl,by decide,((a0+t.length:Nat):Int),?_⟩
   simp only [ec,ck,cx,↓ak,au,simprocAttr]
theorem MQ (c:UInt8):((c.toNat:Int)).toNat.toUInt8=c:=by
 rw [Int.toNat_natCast]
 simp
theorem r8 (c:UInt8) (n:Nat) (a7:n<256):((c.toNat:Int)=(n:Int))=(c=n.toUInt8):=by
 apply propext
 constructor
 · intro q
   have:c.toNat=n:=by omega
   rw [←UInt8.toNat_inj,this]
   simp
   omega
 · intro q
   subst q
   simp
   omega
theorem S0 (c:UInt8):Lib.indexByte [110,116,34,92] c=if c=110 then 0 else if c=116 then 1 else if c=34 then 2 else if c=92 then 3 else -1:=by
 simp only [Lib.indexByte,beq_iff_eq]
 by_cases U:c=110
 · subst U;decide
 · by_cases ad:c=116
   · subst ad;decide
   · by_cases aI:c=34
     · subst aI;decide
     · by_cases br:c=92
       · subst br;decide
       · have aE:¬(110:UInt8)=c:=fun q=>U q.symm
         have aM:¬(116:UInt8)=c:=fun q=>ad q.symm
         have b9:¬(34:UInt8)=c:=fun q=>aI q.symm
         have gD:¬(92:UInt8)=c:=fun q=>br q.symm
         simp only [U,ad,aI,br,aE,aM,b9,gD,if_false]
         rfl
theorem Cf {c:UInt8} (h:eh c=true):Lib.digitVal c=some (c.toNat-48):=by
 unfold Lib.digitVal
 unfold eh kb at h
 simp only [Bool.and_eq_true,decide_eq_true_eq] at h
 rw [if_pos (by omega)]
theorem Ow {a b c:UInt8} (U:eh a=true) (ad:eh b=true) (aI:eh c=true):Lib.atoi [a,b,c]=some ((hi [a,b,c]:Nat):Int):=by
 have bm:=U
 unfold eh kb at bm
 simp only [Bool.and_eq_true,decide_eq_true_eq] at bm
 have da:(a == 45)=false:=by rw [beq_eq_false_iff_ne];rintro rfl;revert bm;decide
 have jX:(a == 43)=false:=by rw [beq_eq_false_iff_ne];rintro rfl;revert bm;decide
 simp [Lib.atoi,da,jX,Lib.decNat,Lib.decFrom,Cf U,Cf ad,Cf aI,hi]
 omega
theorem S1 (s:List UInt8) (a0:Nat) (b:aO) (h:ae) (af:h.get b=ec s a0 0) (bb:a0<s.length) (aQ:s.length≤100000) (fh:Old h b):
 bF Tryz.prog 118 [.ptr b 0] h fun x aa=>Mod (fun q=>q=b) h aa∧match l8 (s.drop (a0+1)) with
  | some (c,n)=>x=.int .u8 (c.toNat:Int)∧aa.get b=ec s ((a0+1+n:Nat):Int) 0∧a0+1+n≤s.length
  | none=>x=.int .u8 0∧aa.get b=ec s ((a0+1:Nat):Int) 252:=by
 refine Px rfl (db ?_)
 unfold Bu
 unfold ec at af ⊢
 have bM:IntKind.i64.wrap ((a0:Int)+1)=((a0+1:Nat):Int):=by rw [wrap_i64 (by omega) (by omega)];rfl
 have f0:(0≤((a0+1:Nat):Int))=True:=eq_true (by omega)
 have f1:(((a0+1:Nat):Int)≤(s.length:Int))=True:=eq_true (by omega)
 have rh:(s.drop (a0+1)).length=s.length - (a0+1):=List.length_drop
 have z0:((0:Int)≤0)=True:=eq_true (by omega)
 have lK:∀v,a1.Mod (fun q=>q=b) h ((h.set b v)):=fun v=>(Mod.refl (fun q=>q=b) h).set (fun _=>rfl) _
 cases cl:s.drop (a0+1) with
 | nil=>
   simp +contextual only [af,bM,f0,f1,Int.toNat_natCast,cl,List.length_nil,Int.natCast_zero,↓ak,au,simprocAttr]
   refine ⟨(lK _).set (fun _=>rfl) _,?_⟩
   simp only [l8,dG,if_true,true_and]
 | cons c r=>
   rw [cl] at rh
   rw [List.length_cons] at rh
   have cC:(c::r=[])=False:=eq_false (by simp)
   have f2:((0:Int) < ((r.length+1:Nat):Int))=True:=eq_true (by omega)
   simp +contextual only [af,bM,f0,f1,f2,cC,Int.toNat_natCast,cl,Int.reduceToNat,z0,↓ak,au,simprocAttr]
   refine eR (J4 _ _ _) ?_
   rw [MQ,S0]
   have bI:IntKind.i64.wrap (((a0+1:Nat):Int)+1)=((a0+2:Nat):Int):=by rw [wrap_i64 (by omega) (by omega)];omega
   by_cases bC:c=110
   · subst bC
     simp +contextual only [af,bM,bI,f0,f1,f2,cC,Int.toNat_natCast,cl,Int.reduceToNat,z0,List.length_cons,List.length_nil,Nat.reduceAdd,Int.reduceLT,Int.cast_ofNat_Int,↓ak,au,simprocAttr]
     refine ⟨(lK _).set (fun _=>rfl) _,rfl,?_⟩
     simp only [dG,if_true]
     refine ⟨trivial,by omega⟩
   by_cases bY:c=116
   · subst bY
     simp +contextual only [af,bM,bI,f0,f1,f2,cC,Int.toNat_natCast,cl,Int.reduceToNat,z0,List.length_cons,List.length_nil,Nat.reduceAdd,Int.reduceLT,Int.cast_ofNat_Int,bC,↓ak,au,simprocAttr]
     refine ⟨(lK _).set (fun _=>rfl) _,rfl,?_⟩
     simp only [dG,if_true]
     refine ⟨trivial,by omega⟩
   by_cases c3:c=34
   · subst c3
     simp +contextual only [af,bM,bI,f0,f1,f2,cC,Int.toNat_natCast,cl,Int.reduceToNat,z0,List.length_cons,List.length_nil,Nat.reduceAdd,Int.reduceLT,Int.cast_ofNat_Int,bC,bY,↓ak,au,simprocAttr]
     refine ⟨(lK _).set (fun _=>rfl) _,rfl,?_⟩
     simp only [dG,if_true]
     refine ⟨trivial,by omega⟩
   by_cases fZ:c=92
   · subst fZ
     simp +contextual only [af,bM,bI,f0,f1,f2,cC,Int.toNat_natCast,cl,Int.reduceToNat,z0,List.length_cons,List.length_nil,Nat.reduceAdd,Int.reduceLT,Int.cast_ofNat_Int,bC,bY,c3,↓ak,au,simprocAttr]
     refine ⟨(lK _).set (fun _=>rfl) _,rfl,?_⟩
     simp only [dG,if_true]
     refine ⟨trivial,by omega⟩
   match r,cl,rh,f2,cC with
   | [],cl,rh,f2,cC=>
     simp +contextual only [af,bM,bI,f0,f1,f2,cC,Int.toNat_natCast,cl,Int.reduceToNat,z0,List.length_cons,List.length_nil,Nat.reduceAdd,Int.reduceLT,Int.cast_ofNat_Int,bC,bY,c3,fZ,↓ak,au,simprocAttr]
     refine ⟨(lK _).set (fun _=>rfl) _,?_⟩
     simp [l8,bC,bY,c3,fZ,dG]
   | [_],cl,rh,f2,cC=>
     simp +contextual only [af,bM,bI,f0,f1,f2,cC,Int.toNat_natCast,cl,Int.reduceToNat,z0,List.length_cons,List.length_nil,Nat.reduceAdd,Int.reduceLT,Int.cast_ofNat_Int,bC,bY,c3,fZ,↓ak,au,simprocAttr]
     refine ⟨(lK _).set (fun _=>rfl) _,?_⟩
     simp [l8,bC,bY,c3,fZ,dG]
   | d1::d2::bn,cl,rh,f2,cC=>
     simp only [List.length_cons] at rh
     have g3:((3:Int)≤((bn.length+3:Nat):Int))=True:=eq_true (by omega)
     have g2:((2:Int) < ((bn.length+3:Nat):Int))=True:=eq_true (by omega)
     have g1:((1:Int) < ((bn.length+3:Nat):Int))=True:=eq_true (by omega)
     have g0:((0:Int) < ((bn.length+3:Nat):Int))=True:=eq_true (by omega)
     have em:l8 (c::d1::d2::bn)=if eh c∧eh d1∧eh d2∧hi [c,d1,d2]<256 then some ((hi [c,d1,d2]).toUInt8,3) else none:=by
      simp [l8,bC,bY,c3,fZ]
     rw [em]
     simp +contextual only [af,bM,bI,f0,f1,g0,g1,g2,g3,cC,Int.toNat_natCast,cl,Int.reduceToNat,z0,List.length_cons,List.length_nil,Nat.reduceAdd,Int.reduceLT,Int.cast_ofNat_Int,bC,bY,c3,fZ,↓ak,au,simprocAttr]
     refine eR (sH _ _) ?_
     have dg:∀x:UInt8,kb (x.toNat:Int)=eh x:=fun _=>rfl
     simp only [dg]
     cases UE:eh c with
     | false=>
       simp +contextual only [af,bM,bI,f0,f1,g0,g1,g2,g3,cC,Int.toNat_natCast,cl,Int.reduceToNat,z0,List.length_cons,List.length_nil,Nat.reduceAdd,Int.reduceLT,Int.cast_ofNat_Int,bC,bY,c3,fZ,false_and,Bool.false_eq_true,↓ak,au,simprocAttr]
       exact (lK _).set (fun _=>rfl) _
     | true=>
       simp +contextual only [af,bM,bI,f0,f1,g0,g1,g2,g3,cC,Int.toNat_natCast,cl,Int.reduceToNat,z0,List.length_cons,List.length_nil,Nat.reduceAdd,Int.reduceLT,Int.cast_ofNat_Int,bC,bY,c3,fZ,↓ak,au,simprocAttr]
       refine eR (sH _ _) ?_
       simp only [dg]
       cases yv:eh d1 with
       | false=>
         simp +contextual only [af,bM,bI,f0,f1,g0,g1,g2,g3,cC,Int.toNat_natCast,cl,Int.reduceToNat,z0,List.length_cons,List.length_nil,Nat.reduceAdd,Int.reduceLT,Int.cast_ofNat_Int,bC,bY,c3,fZ,false_and,and_false,Bool.false_eq_true,↓ak,au,simprocAttr]
         exact (lK _).set (fun _=>rfl) _
       | true=>
         simp +contextual only [af,bM,bI,f0,f1,g0,g1,g2,g3,cC,Int.toNat_natCast,cl,Int.reduceToNat,z0,List.length_cons,List.length_nil,Nat.reduceAdd,Int.reduceLT,Int.cast_ofNat_Int,bC,bY,c3,fZ,↓ak,au,simprocAttr]
         refine eR (sH _ _) ?_
         simp only [dg]
         cases yw:eh d2 with
         | false=>
           simp +contextual only [af,bM,bI,f0,f1,g0,g1,g2,g3,cC,Int.toNat_natCast,cl,Int.reduceToNat,z0,List.length_cons,List.length_nil,Nat.reduceAdd,Int.reduceLT,Int.cast_ofNat_Int,bC,bY,c3,fZ,false_and,and_false,Bool.false_eq_true,↓ak,au,simprocAttr]
           exact (lK _).set (fun _=>rfl) _
         | true=>
           have z3:((0:Int)≤3)=True:=eq_true (by omega)
           simp +contextual only [af,bM,bI,f0,f1,g0,g1,g2,g3,z3,cC,Int.toNat_natCast,cl,Int.reduceToNat,z0,List.length_cons,List.length_nil,Nat.reduceAdd,Int.reduceLT,Int.cast_ofNat_Int,bC,bY,c3,fZ,↓ak,au,simprocAttr]
           refine eR (Ox [c,d1,d2] _ (by simp) (Ow UE yv yw) _) ?_
           have lV:IntKind.i64.wrap (((a0+1:Nat):Int)+3)=((a0+4:Nat):Int):=by rw [wrap_i64 (by omega) (by omega)];omega
           generalize bx:hi [c,d1,d2]=v
           by_cases JN:(v:Int)<256
           · have hz:IntKind.u8.wrap (v:Int)=((v.toUInt8).toNat:Int):=by
              simp [IntKind.wrap,IntKind.bits,IntKind.signed]
             have DZ:v<256:=by omega
             simp +contextual only [af,bM,bI,lV,hz,f0,f1,g0,g1,g2,g3,cC,JN,DZ,Int.toNat_natCast,cl,Int.reduceToNat,z0,List.length_cons,List.length_nil,Nat.reduceAdd,Int.reduceLT,Int.cast_ofNat_Int,bC,bY,c3,fZ,and_self,true_and,↓ak,au,simprocAttr]
             refine ⟨(lK _).set (fun _=>rfl) _,?_⟩
             first | omega | (refine ⟨?_,by omega⟩;simp [dG]) | skip
           · have DZ:¬v<256:=by omega
             simp +contextual only [af,bM,bI,lV,f0,f1,g0,g1,g2,g3,cC,JN,DZ,Int.toNat_natCast,cl,Int.reduceToNat,z0,List.length_cons,List.length_nil,Nat.reduceAdd,Int.reduceLT,Int.cast_ofNat_Int,bC,bY,c3,fZ,and_false,↓ak,au,simprocAttr]
             exact (lK _).set (fun _=>rfl) _
theorem acC (c:UInt8) (n:Nat) (a7:n<256):((c.toNat:Int) < (n:Int))=(c<n.toUInt8):=by
 apply propext
 rw [UInt8.lt_iff_toNat_lt]
 have:(n.toUInt8).toNat=n:=by simp;omega
 rw [this]
 omega
theorem acj (s:List UInt8) (a0:Nat) (b:aO) (h:ae) (af:h.get b=ec s a0 0) (bb:a0<s.length) (aQ:s.length≤100000) (fh:Old h b):
 bF Tryz.prog 107 [.ptr b 0] h (lh s a0 b h (o1 (s.drop (a0+1)))):=by
 refine O9 rfl (db ?_)
 unfold Bm
 have ck:(b=aH h.next)=False:=wj fh (Nat.le_refl _)
 have cx:(aH h.next=b)=False:=by rw [←ck];exact propext eq_comm
 have bM:IntKind.i64.wrap ((a0:Int)+1)=((a0+1:Nat):Int):=by rw [wrap_i64 (by omega) (by omega)];rfl
 unfold ec at af
 simp +contextual only [af,ck,cx,bM,↓ak,au,simprocAttr]
 have tN:∀{v:V} {aa:ae} {n:Nat} {us:List V},dy (h.next+1) aa 1 v n us→∀q,v.bd q→¬(fun q=>q=b) q:=by
  intro v aa n us fr q aF he
  have U:=fr.base aF
  rw [show q=b from he] at U
  have ad:cr b<h.next:=fh
  omega
 have ON:∀{v:V} {aa:ae} {n:Nat} {us:List V},dy (h.next+1) aa 1 v n us→∀i,i<h.next+1→¬v.bd (aH i):=by
  intro v aa n us fr i aB aF
  have U:=fr.base aF
  rw [dR] at U
  omega
 refine gu (fun r aa=>r 0=.ptr b 0∧r 2=.ptr (aH h.next) 0∧∃(a:Nat) (e:Int) (dY:List UInt8) (v:V),r 3=v∧aa.get b=.bk [.str s,.int .i64 a,.int .i64 e] 0 false∧a≤s.length∧a0+1≤a∧dY.length≤a∧
  aa.get (aH h.next)=.bk [.int .i64 0,.int .i64 0,.int .i64 0,.str []] 0 false∧Mod (fun q=>q=b) h aa∧h.next+1≤aa.next∧dy (h.next+1) aa 1 v dY.length (gC dY)∧
  ((e=0∧mM (s.drop (a0+1))=(mM (s.drop a)).map fun q=>(dY++q.1,q.2 + (a - (a0+1))))∨(e=252∧mM (s.drop (a0+1))=none)))
  (fun r aa=>(s.length - ((hc (aa.get b) 1).getD .bad).toN) + (252 - ((hc (aa.get b) 2).getD .bad).toN)) ?_ ?_
 · refine ⟨by simp only [ck,cx,↓ak,au,simprocAttr],by simp only [ck,cx,↓ak,au,simprocAttr],a0+1,0,[],.cq,by simp only [ck,cx,↓ak,au,simprocAttr],by simp only [ck,cx,↓ak,au,simprocAttr],by omega,by omega,by simp,by simp only [ck,cx,↓ak,au,simprocAttr],?_,?_,⟨rfl,rfl⟩,.inl ⟨rfl,?_⟩⟩
   · exact (((Ext.refl h).new _).mod (fun q=>q=b)).self _
   · rw [lL,gw];exact Nat.le_refl _
   · rw [Nat.sub_self]
     cases mM (s.drop (a0+1))<;>rfl
 · rintro r aa ⟨bp,cW,a,e,dY,v,bQ,aD,b_,ns,tC,bq,hm,jN,fr,bg⟩
   unfold G3
   have Jv:Old aa b:=hm.b0 fh
   have fin:∀(ad:ae) (bf:Int),mM (s.drop (a0+1))=none→Mod (fun q=>q=b) h ad→ad.get b=.bk [.str s,.int .i64 bf,.int .i64 252] 0 false→
    lh s a0 b h (o1 (s.drop (a0+1))) (.agg [.int .i64 0,.int .i64 0,.int .i64 0,.str []]) (ad.set (aH h.next) (.bk [.int .i64 0,.int .i64 0,.int .i64 0,.str []] 0 false)):=by
    intro ad bf a7 kU q8
    unfold o1
    rw [a7]
    refine ⟨kU.set (fun q=>absurd (show cr (aH h.next)<h.next from q) (by rw [dR];omega)) _,_,_,_,rfl,by decide,bf,?_⟩
    rw [dG,if_neg (by rw [cx];exact id),q8]
    rfl
   have step:∀(ad:ae),Mod (fun q=>q=b) h ad→aa.next≤ad.next→dy (h.next+1) ad 1 v dY.length (gC dY)→∀(c:UInt8),∃v3 aI,lk 1 v (.slice (aH ad.next) 0 1 1) (ad.new (.bk [.int .u8 (c.toNat:Int)] 0 false))=.val v3 aI∧dy (h.next+1) aI 1 v3 (dY++[c]).length (gC (dY++[c]))∧Mod (fun q=>q=b) h aI∧h.next+1≤aI.next∧aI.get b=ad.get b∧aI.get (aH h.next)=ad.get (aH h.next):=by
    intro ad kU adU iG c
    obtain ⟨v3,aI,aj,ay,aK,bE,dh⟩:=uN (cs:=[.int .u8 (c.toNat:Int)]) (by omega) iG (by omega) (by unfold top;omega) rfl rfl
    refine ⟨v3,aI,aj,by rw [List.length_append,G1];exact ay,kU.acn aK (fun q aF=>Nat.le_trans (Nat.le_succ _) (iG.base aF)),by omega,?_,?_⟩
    · exact aK.get _ (kU.b0 fh) (fun aF=>tN iG _ aF rfl)
    · exact aK.get _ (gS (by omega)) (ON iG _ (by omega))
   rcases bg with ⟨rfl,bg⟩ | ⟨rfl,bg⟩
   · by_cases eT:(s.length:Int)≤(a:Int)
     · have bm:a=s.length:=by omega
       rw [bm,List.drop_length,aci] at bg
       simp +contextual only [bp,cW,bQ,aD,eT,bq,ck,cx,↓ak,au,simprocAttr]
       exact fin _ _ bg (hm.set (fun _=>rfl) _) (by rw [dG,if_pos rfl])
     · have aN:a<s.length:=by omega
       rw [drop_cons aN,ach] at bg
       have f0:(0≤(a:Int))=True:=eq_true (by omega)
       have f1:((a:Int) < (s.length:Int))=True:=eq_true (by omega)
       have bI:IntKind.i64.wrap ((a:Int)+1)=((a+1:Nat):Int):=by rw [wrap_i64 (by omega) (by omega)];rfl
       have hk:(((s[a]).toNat:Int)=34)=(s[a]=34):=r8 _ 34 (by omega)
       have Cl:(((s[a]).toNat:Int)=92)=(s[a]=92):=r8 _ 92 (by omega)
       have HY:(((s[a]).toNat:Int)=127)=(s[a]=127):=r8 _ 127 (by omega)
       have Kj:(((s[a]).toNat:Int)<32)=(s[a]<32):=acC _ 32 (by omega)
       by_cases bC:s[a]=34
       · rw [if_pos bC] at bg
         replace bC:(s[a]=34)=True:=eq_true bC
         simp only [Option.map_some,List.append_nil] at bg
         by_cases vh:(4096:Int) < (dY.length:Int)
         · have iG:∀k cA,dy (h.next+1) ((aa.set b k).set b cA) 1 v dY.length (gC dY):=fun k cA=>fr.mod (((Mod.refl (fun q=>q=b) aa).set (fun _=>rfl) _).set (fun _=>rfl) _) (tN fr)
           simp +contextual only [bp,cW,bQ,aD,eT,bq,ck,cx,f0,f1,bI,hk,bC,fr.v.len,vh,Hy (iG _ _),List.getElem?_eq_getElem aN,Int.toNat_natCast,↓ak,au,simprocAttr]
           refine ⟨((hm.set (fun _=>rfl) _).set (fun _=>rfl) _).set (fun q=>absurd (show cr (aH h.next)<h.next from q) (by rw [dR];omega)) _,_,_,_,rfl,?_⟩
           unfold o1
           rw [bg]
           simp only
           rw [if_pos (by omega)]
           refine ⟨by decide,((a+1:Nat):Int),?_⟩
           simp only [ec,ck,cx,↓ak,au,simprocAttr]
         · have iG:∀k,dy (h.next+1) (aa.set b k) 1 v dY.length (gC dY):=fun k=>fr.mod ((Mod.refl (fun q=>q=b) aa).set (fun _=>rfl) _) (tN fr)
           simp +contextual only [bp,cW,bQ,aD,eT,bq,ck,cx,f0,f1,bI,hk,bC,fr.v.len,vh,Hy (iG _),List.getElem?_eq_getElem aN,Int.toNat_natCast,↓ak,au,simprocAttr]
           refine ⟨(hm.set (fun _=>rfl) _).set (fun q=>absurd (show cr (aH h.next)<h.next from q) (by rw [dR];omega)) _,_,_,_,rfl,?_⟩
           unfold o1
           rw [bg]
           simp only
           rw [if_neg (by omega)]
           refine ⟨rfl,rfl,rfl,?_,?_⟩
           · simp only [ec,ck,cx,↓ak,au,simprocAttr]
             rw [show a0 + (1 + (a - (a0+1))+1)=a+1 from by omega]
           · simp only;omega
       rw [if_neg bC] at bg
       by_cases bY:s[a]=92
       · rw [if_pos bY] at bg
         replace bY:(s[a]=92)=True:=eq_true bY
         simp +contextual only [bp,cW,bQ,aD,eT,bq,ck,cx,f0,f1,bI,hk,Cl,bC,bY,List.getElem?_eq_getElem aN,Int.toNat_natCast,↓ak,au,simprocAttr]
         refine bT (S1 s a b aa aD aN aQ Jv) ?_
         rintro x ad ⟨kU,ao⟩
         have iG:=fr.mod kU (tN fr)
         have nq:ad.get (aH h.next)=.bk [.int .i64 0,.int .i64 0,.int .i64 0,.str []] 0 false:=by
          rw [kU.get _ (gS (by omega)) (by rw [cx];exact id),bq]
         have wm:=kU.next
         obtain ⟨c,ar,tl⟩:∃c:UInt8,x=.int .u8 (c.toNat:Int)∧((∃n,l8 (s.drop (a+1))=some (c,n)∧ad.get b=ec s ((a+1+n:Nat):Int) 0∧a+1+n≤s.length)∨(l8 (s.drop (a+1))=none∧ad.get b=ec s ((a+1:Nat):Int) 252)):=by
          cases s_:l8 (s.drop (a+1)) with
          | none=>rw [s_] at ao;exact ⟨0,ao.1,.inr ⟨rfl,ao.2⟩⟩
          | some q=>rw [s_] at ao;exact ⟨q.1,ao.1,.inl ⟨q.2,rfl,ao.2⟩⟩
         subst ar
         obtain ⟨v3,aI,aj,ay,aK,bE,dh,eW⟩:=step ad (hm.trans kU) wm iG c
         have LS:dy (h.next+1) aI 1 v3 (dY.length+1) (gC (dY++[c])):=by rw [List.length_append] at ay;exact ay
         have vP:aI.get (aH h.next)=.bk [.int .i64 0,.int .i64 0,.int .i64 0,.str []] 0 false:=by rw [eW,nq]
         unfold ec at tl
         rcases tl with ⟨n,s_,q8,hle⟩ | ⟨s_,q8⟩
         · simp +contextual only [aj,bp,cW,aD,q8,dh,ck,cx,↓ak,au,simprocAttr]
           rw [s_] at bg
           simp only at bg
           refine ⟨⟨a+1+n,0,dY++[c],rfl,hle,by omega,by simp;omega,vP,aK,bE,ay,.inl ⟨rfl,?_⟩⟩,by omega⟩
           rw [bg,List.drop_drop,Option.map_map]
           congr 1
           funext q
           simp only [Function.comp,List.append_assoc,List.singleton_append,Prod.mk.injEq,true_and]
           omega
         · simp +contextual only [aj,bp,cW,aD,q8,dh,ck,cx,↓ak,au,simprocAttr]
           rw [s_] at bg
           exact ⟨⟨a+1,252,dY++[c],rfl,by omega,by omega,by simp;omega,vP,aK,bE,ay,.inr ⟨rfl,bg⟩⟩,by omega⟩
       rw [if_neg bY] at bg
       by_cases c3:s[a]<32∨s[a]=127
       · rw [if_pos c3] at bg
         have l4:(decide (s[a]<32)||decide (s[a]=127))=true:=by simpa using c3
         simp +contextual only [bp,cW,bQ,aD,eT,bq,ck,cx,f0,f1,bI,hk,Cl,HY,Kj,bC,bY,l4,List.getElem?_eq_getElem aN,Int.toNat_natCast,↓ak,au,simprocAttr]
         exact ⟨⟨a,252,dY,rfl,b_,ns,tC,hm.self _,jN,fr.mod ((Mod.refl (fun q=>q=b) aa).self _) (tN fr),.inr ⟨rfl,bg⟩⟩,by omega⟩
       · rw [if_neg c3] at bg
         have l4:(decide (s[a]<32)||decide (s[a]=127))=false:=by simpa using c3
         obtain ⟨v3,aI,aj,ay,aK,bE,dh,eW⟩:=step (aa.set b (.bk [.str s,.int .i64 ((a+1:Nat):Int),.int .i64 0] 0 false)) (hm.self _) (by rw [lL];exact Nat.le_refl _) (fr.mod ((Mod.refl (fun q=>q=b) aa).self _) (tN fr)) s[a]
         simp only [lL,dG,ck,cx,if_true,if_false] at aj dh eW
         simp +contextual only [aj,bp,cW,bQ,aD,eT,bq,ck,cx,f0,f1,bI,hk,Cl,HY,Kj,bC,bY,l4,dh,List.getElem?_eq_getElem aN,Int.toNat_natCast,↓ak,au,simprocAttr]
         refine ⟨⟨a+1,0,dY++[s[a]],rfl,by omega,by omega,by simp;omega,by rw [eW,bq],aK,bE,ay,.inl ⟨rfl,?_⟩⟩,by omega⟩
         rw [bg,Option.map_map]
         congr 1
         funext q
         simp only [Function.comp,List.append_assoc,List.singleton_append,Prod.mk.injEq,true_and]
         omega
   · simp +contextual only [bp,cW,bQ,aD,bq,ck,cx,↓ak,au,simprocAttr]
     exact fin _ _ bg hm aD
def Ek:List UInt8:=[32,97,110,100,32,98,101,103,105,110,32,101,108,115,101,32,101,110,100,32,101,120,99,101,112,116,105,111,110,32,102,97,108,115,101,32,102,117,110,32,105,102,32,105,110,32,108,101,116,32,109,97,116,99,104,32,109,111,100,32,111,102,32,114,97,105,115,101,32,114,101,99,32,116,104,101,110,32,116,114,117,101,32,116,114,121,32,116,121,112,101,32,119,105,116,104,32]
def pv:List (List UInt8)→List UInt8
 | []=>[32]
 | w::L=>32::(w++pv L)
theorem Tl:pv pU=Ek:=by decide
theorem Tk (L:List (List UInt8)):∃r,pv L=32::r:=by cases L<;>exact ⟨_,rfl⟩
theorem index_ge (sub:List UInt8):∀l:List UInt8,-1≤Lib.index l sub
 | []=>by simp only [Lib.index];split<;>decide
 | b::l=>by
   have:=index_ge sub l
   simp only [Lib.index]
   split
   · decide
   · split<;>omega
theorem J6 (sub:List UInt8) (b:UInt8) (l:List UInt8):(0≤Lib.index (b::l) sub)↔(sub.isPrefixOf (b::l)=true∨0≤Lib.index l sub):=by
 have:=index_ge sub l
 simp only [Lib.index]
 split
 · rename_i h;simp [h]
 · rename_i h
   split
   · rename_i ad
     have:Lib.index l sub=-1:=by simpa using ad
     simp [h,this]
   · rename_i ad
     have aI:¬Lib.index l sub=-1:=by simpa using ad
     simp only [h,Bool.false_eq_true,false_or]
     omega
theorem J8 (x:List UInt8) (r:List UInt8):∀w:List UInt8,(32:UInt8) ∉ w→((0≤Lib.index (w++r) (32::x))↔0≤Lib.index r (32::x))
 | [],_=>Iff.rfl
 | b::w,h=>by
   rw [List.cons_append,J6,J8 x r w (fun q=>h (List.mem_cons_of_mem _ q))]
   have af:((32:UInt8) == b)=false:=by rw [beq_eq_false_iff_ne];rintro rfl;exact h (List.mem_cons_self ..)
   simp [List.isPrefixOf,af]
theorem LD (r:List UInt8):∀(t w:List UInt8),(32:UInt8) ∉ t→(32:UInt8) ∉ w→((t++[32]).isPrefixOf (w++32::r)=true↔t=w)
 | [],[],_,_=>by simp [List.isPrefixOf]
 | [],b::w,_,h=>by
   have af:((32:UInt8) == b)=false:=by rw [beq_eq_false_iff_ne];rintro rfl;exact h (List.mem_cons_self ..)
   simp [List.isPrefixOf,af]
 | a::t,[],h,_=>by
   have af:(a == (32:UInt8))=false:=by rw [beq_eq_false_iff_ne];rintro rfl;exact h (List.mem_cons_self ..)
   simp [List.isPrefixOf,af]
 | a::t,b::w,h,aa=>by
   have bh:=LD r t w (fun q=>h (List.mem_cons_of_mem _ q)) (fun q=>aa (List.mem_cons_of_mem _ q))
   simp only [List.cons_append,List.isPrefixOf,Bool.and_eq_true,beq_iff_eq,bh,List.cons.injEq]
theorem J7 (t:List UInt8) (aC:(32:UInt8) ∉ t):∀L:List (List UInt8),(∀w ∈ L,(32:UInt8) ∉ w)→((0≤Lib.index (pv L) (32::(t++[32])))↔t ∈ L)
 | [],_=>by
   cases t<;>simp [pv,Lib.index,List.isPrefixOf]
 | w::L,h=>by
   have bh:=J7 t aC L (fun x ao=>h x (List.mem_cons_of_mem _ ao))
   have hw:=h w (List.mem_cons_self ..)
   obtain ⟨r,aG⟩:=Tk L
   simp only [pv]
   rw [J6,J8 _ _ _ hw,bh,List.mem_cons]
   have:(32::(t++[32])).isPrefixOf (32::(w++pv L))=(t++[32]).isPrefixOf (w++pv L):=by simp [List.isPrefixOf]
   rw [this,aG,LD r t w aC hw]
theorem Si (t:List UInt8) (aC:(32:UInt8) ∉ t):Lib.contains Ek (32::(t++[32]))=lF t:=by
 have:=J7 t aC pU (by decide)
 rw [Tl] at this
 unfold Lib.contains lF
 rw [Bool.eq_iff_iff,decide_eq_true_eq,this]
 simp
theorem Y9 {l:List UInt8}:(32:UInt8) ∉ l.takeWhile ej:=fun h=>by
 have:=MI _ h
 revert this
 decide
theorem zf (s:List UInt8) (a0:Nat) (k:Int) (b:aO) (h:ae) (af:h.get b=ec s a0 0) (bb:a0≤s.length) (aQ:s.length≤100000) (fh:Old h b):
 bF Tryz.prog 109 [.ptr b 0,.int .i64 k] h (lh s a0 b h (hZ k (s.drop a0))):=by
 refine Pd rfl (db ?_)
 unfold Bo
 have ck:(b=aH h.next)=False:=wj fh (Nat.le_refl _)
 have cx:(aH h.next=b)=False:=by rw [←ck];exact propext eq_comm
 simp +contextual only [af,ck,cx,↓ak,au,simprocAttr]
 have ao:Ext h (h.new (.bk [.int .i64 0,.int .i64 0,.int .i64 0,.str []] 0 false)):=(Ext.refl h).new _
 refine bT (Mc s a0 0 b 119 pW _ (by rw [ao.get _ fh,af]) bb aQ (by decide) (fun c h=>YW c h)) ?_
 rintro x U ⟨rfl,hm,aD⟩
 have h6:(fun c:UInt8=>pW (c.toNat:Int))=ej:=rfl
 rw [h6] at aD ⊢
 have rk:Mod (fun q=>q=b) h U:=(ao.mod _).trans hm
 have g1:U.get (aH h.next)=.bk [.int .i64 0,.int .i64 0,.int .i64 0,.str []] 0 false:=by
  rw [hm.get _ (gS (by rw [gw];omega)) (by rw [cx];exact id)]
  simp only [↓ak,au,simprocAttr]
 have hlen:=MJ ej s a0
 have T7:(32:UInt8) ∉ (s.drop a0).takeWhile ej:=Y9
 unfold ec at aD
 have rm:hZ k (s.drop a0)=if k=3∧(s.drop a0).takeWhile ej=[95] then .ok (7,0,(s.drop a0).takeWhile ej,((s.drop a0).takeWhile ej).length) else if k=3∧lF ((s.drop a0).takeWhile ej) then .ok (6,0,(s.drop a0).takeWhile ej,((s.drop a0).takeWhile ej).length) else if 64 < ((s.drop a0).takeWhile ej).length then .error 255 else .ok (k,0,(s.drop a0).takeWhile ej,((s.drop a0).takeWhile ej).length):=rfl
 rw [rm]
 generalize (s.drop a0).takeWhile ej=t at *
 have zo:∀(cD:Int),lh s a0 b h (.ok (cD,0,t,t.length)) (.agg [.int .i64 cD,.int .i64 0,.int .i64 0,.str t]) (U.set (aH h.next) (.bk [.int .i64 cD,.int .i64 0,.int .i64 0,.str t] 0 false)):=by
  intro cD
  refine ⟨rk.fresh (Nat.le_refl _) _,_,_,_,rfl,rfl,rfl,rfl,?_,by show a0+t.length≤s.length;omega⟩
  rw [dG,if_neg (by rw [cx];exact id),aD]
  rfl
 have tail:(64<t.length→lh s a0 b h (.error 255) (.agg [.int .i64 k,.int .i64 0,.int .i64 0,.str t]) ((U.set b (.bk [.str s,.int .i64 ((a0+t.length:Nat):Int),.int .i64 255] 0 false)).set (aH h.next) (.bk [.int .i64 k,.int .i64 0,.int .i64 0,.str t] 0 false))):=by
  intro ai
  refine ⟨(rk.self _).fresh (Nat.le_refl _) _,_,_,_,rfl,by decide,((a0+t.length:Nat):Int),?_⟩
  simp only [ec,ck,cx,↓ak,au,simprocAttr]
 by_cases aA:k=3
 · subst aA
   by_cases hu:t=[95]
   · simp +contextual only [g1,aD,ck,cx,hu,true_and,↓ak,au,simprocAttr]
     subst hu
     exact zo 7
   · have t1:(1+t.length≤top)=True:=eq_true (by unfold top;omega)
     have t2:(t.length+1+1≤top)=True:=eq_true (by unfold top;omega)
     simp only [top] at t1 t2
     simp +contextual only [g1,aD,ck,cx,hu,true_and,List.length_append,t1,t2,↓ak,au,simprocAttr]
     refine eR (Sh Ek (32::(t++[32])) (by decide) _) ?_
     rw [Si t T7]
     cases Dl:lF t with
     | true=>
       simp +contextual only [g1,aD,ck,cx,hu,true_and,and_false,Dl,List.length_append,t1,t2,↓ak,au,simprocAttr]
       exact zo 6
     | false=>
       by_cases ai:64<t.length
       · have eu:(64:Int) < (t.length:Int):=by omega
         simp +contextual only [g1,aD,ck,cx,hu,ai,eu,true_and,and_false,Dl,List.length_append,t1,t2,Bool.false_eq_true,↓ak,au,simprocAttr]
         exact tail ai
       · have eu:¬(64:Int) < (t.length:Int):=by omega
         simp +contextual only [g1,aD,ck,cx,hu,ai,eu,true_and,and_false,Dl,List.length_append,t1,t2,Bool.false_eq_true,↓ak,au,simprocAttr]
         exact zo 3
 · by_cases ai:64<t.length
   · have eu:(64:Int) < (t.length:Int):=by omega
     simp +contextual only [g1,aD,ck,cx,aA,ai,eu,false_and,↓ak,au,simprocAttr]
     exact tail ai
   · have eu:¬(64:Int) < (t.length:Int):=by omega
     simp +contextual only [g1,aD,ck,cx,aA,ai,eu,false_and,↓ak,au,simprocAttr]
     exact zo k
def ug:List V:=hy.map V.str
theorem abE (h:ae):bF Tryz.prog 111 [] h fun x aa=>x=.slice (aH h.next) 0 17 17∧aa=h.new (.bk ug 0 false):=by
 refine Pn rfl (db ?_)
 unfold Br
 simp +contextual only [↓ak,au,simprocAttr]
 rfl
theorem abC {i:Nat} (aB:i<17):ug[i]? =some (.str (hy[i]'aB)):=by
 unfold ug
 rw [List.getElem?_map,List.getElem?_eq_getElem (show i<hy.length from aB)]
 rfl
theorem Ti (p:List UInt8→Bool) {i:Nat} (aB:i<17):(hy.drop i).find? p=if p (hy[i]'aB) then some (hy[i]'aB) else (hy.drop (i+1)).find? p:=by
 rw [List.drop_eq_getElem_cons (show i<hy.length from aB),List.find?_cons]
 cases p hy[i]<;>rfl
theorem lh.store {s:List UInt8} {p:Nat} {b:aO} {h:ae} {z cA:bV} {res:pn} {x:V} {U:ae} (w:lh s p b (h.new z) res x U) (fh:Old h b):lh s p b h res x (U.set (aH h.next) cA):=by
 have cx:¬(aH h.next=b):=by
  intro q
  have:cr b<h.next:=fh
  rw [←q,dR] at this
  omega
 obtain ⟨hm,k,n,t,ao,aG⟩:=w
 refine ⟨((((Ext.refl h).new z).mod _).trans hm).fresh (Nat.le_refl _) _,k,n,t,ao,?_⟩
 cases res with
 | ok q=>simpa only [dG,if_neg cx] using aG
 | error e=>simpa only [dG,if_neg cx] using aG
theorem Zw (s:List UInt8) (a0:Nat) (b:aO) (h:ae) (af:h.get b=ec s a0 0) (bb:a0<s.length) (aQ:s.length≤100000) (fh:Old h b):
 bF Tryz.prog 95 [.ptr b 0] h (lh s a0 b h (fw (s.drop a0))):=by
 refine RA rfl (db ?_)
 unfold B6
 have ck:(b=aH h.next)=False:=wj fh (Nat.le_refl _)
 have cx:(aH h.next=b)=False:=by rw [←ck];exact propext eq_comm
 have gO:=af
 unfold ec at af
 have f0:(0≤(a0:Int))=True:=eq_true (by omega)
 have f1:((a0:Int) < (s.length:Int))=True:=eq_true (by omega)
 have ao:Ext h (h.new (.bk [.int .i64 0,.int .i64 0,.int .i64 0,.str []] 0 false)):=(Ext.refl h).new _
 have tg:Old (h.new (.bk [.int .i64 0,.int .i64 0,.int .i64 0,.str []] 0 false)) b:=ao.b0 fh
 have vj:(h.new (.bk [.int .i64 0,.int .i64 0,.int .i64 0,.str []] 0 false)).get b=ec s a0 0:=by rw [ao.get _ fh,gO]
 have sW:∀{res:pn} {x:V} {U:ae},lh s a0 b (h.new (.bk [.int .i64 0,.int .i64 0,.int .i64 0,.str []] 0 false)) res x U→U.get (aH h.next)=.bk [.int .i64 0,.int .i64 0,.int .i64 0,.str []] 0 false:=by
  intro res x U w
  rw [w.mod.get _ (gS (by rw [gw];omega)) (by rw [cx];exact id)]
  simp only [↓ak,au,simprocAttr]
 have aV:=drop_cons bb
 rw [aV]
 have dg:kb ((s[a0]).toNat:Int)=eh s[a0]:=rfl
 have hk:(((s[a0]).toNat:Int)=34)=(s[a0]=34):=r8 _ 34 (by omega)
 have ps:(((s[a0]).toNat:Int)=95)=(s[a0]=95):=r8 _ 95 (by omega)
 have sK:(((s[a0]).toNat:Int)=39)=(s[a0]=39):=r8 _ 39 (by omega)
 simp +contextual only [af,ck,cx,f0,f1,List.getElem?_eq_getElem bb,Int.toNat_natCast,↓ak,au,simprocAttr]
 refine eR (sH _ _) ?_
 rw [dg]
 cases U:eh s[a0] with
 | true=>
   have dq:fw (s[a0]::s.drop (a0+1))=tO (s.drop a0):=by rw [aV];simp only [fw,U,if_true]
   rw [dq]
   simp +contextual only [af,ck,cx,f0,f1,List.getElem?_eq_getElem bb,Int.toNat_natCast,↓ak,au,simprocAttr]
   refine bT (ZE s a0 b _ vj bb aQ tg U) ?_
   rintro x ah w
   have g1:=sW w
   obtain ⟨k,n,t,rfl,_⟩:=w.res
   simp +contextual only [g1,af,ck,cx,f0,f1,↓ak,au,simprocAttr]
   exact w.store fh
 | false=>
   by_cases ad:s[a0]=34
   · have dq:fw (s[a0]::s.drop (a0+1))=o1 (s.drop (a0+1)):=by simp only [fw];rw [if_neg (by rw [U];exact Bool.false_ne_true),if_pos ad]
     rw [dq]
     replace ad:=eq_true ad
     simp +contextual only [af,ck,cx,f0,f1,hk,ad,List.getElem?_eq_getElem bb,Int.toNat_natCast,↓ak,au,simprocAttr]
     refine bT (acj s a0 b _ vj bb aQ tg) ?_
     rintro x ah w
     have g1:=sW w
     obtain ⟨k,n,t,rfl,_⟩:=w.res
     simp +contextual only [g1,af,ck,cx,f0,f1,↓ak,au,simprocAttr]
     exact w.store fh
   simp +contextual only [af,ck,cx,f0,f1,hk,ad,List.getElem?_eq_getElem bb,Int.toNat_natCast,↓ak,au,simprocAttr]
   refine eR (Ab _ _) ?_
   by_cases aI:(fx ((s[a0]).toNat:Int)||decide (s[a0]=95))=true
   · have dq:fw (s[a0]::s.drop (a0+1))=hZ 3 (s.drop a0):=by rw [aV];simp only [fw,U,ad,aI,Bool.false_eq_true,if_false,if_true]
     rw [dq]
     have fin:mU Tryz.prog 109 [.ptr b 0,.int .i64 3] (some 33) none [] [] (fun _=>.bad) h (fun _ _ _=>True)→True:=fun _=>trivial
     cases DU:fx ((s[a0]).toNat:Int) with
     | true=>
       simp +contextual only [af,ck,cx,f0,f1,hk,ad,DU,List.getElem?_eq_getElem bb,Int.toNat_natCast,↓ak,au,simprocAttr]
       refine bT (zf s a0 3 b _ vj (by omega) aQ tg) ?_
       rintro x ah w
       have g1:=sW w
       obtain ⟨k,n,t,rfl,_⟩:=w.res
       simp +contextual only [g1,af,ck,cx,f0,f1,↓ak,au,simprocAttr]
       exact w.store fh
     | false=>
       rw [DU,Bool.false_or,decide_eq_true_eq] at aI
       replace aI:=eq_true aI
       simp +contextual only [af,ck,cx,f0,f1,hk,ps,ad,aI,DU,List.getElem?_eq_getElem bb,Int.toNat_natCast,↓ak,au,simprocAttr]
       refine bT (zf s a0 3 b _ vj (by omega) aQ tg) ?_
       rintro x ah w
       have g1:=sW w
       obtain ⟨k,n,t,rfl,_⟩:=w.res
       simp +contextual only [g1,af,ck,cx,f0,f1,↓ak,au,simprocAttr]
       exact w.store fh
   · have IM:=aI
     rw [Bool.not_eq_true,Bool.or_eq_false_iff,decide_eq_false_iff_not] at IM
     obtain ⟨T9,T'⟩:=IM
     simp +contextual only [af,ck,cx,f0,f1,hk,ps,ad,T9,T',List.getElem?_eq_getElem bb,Int.toNat_natCast,↓ak,au,simprocAttr]
     refine eR (IG _ _) ?_
     cases br:kf ((s[a0]).toNat:Int) with
     | true=>
       have dq:fw (s[a0]::s.drop (a0+1))=hZ 4 (s.drop a0):=by rw [aV];simp only [fw,U,ad,aI,br,Bool.false_eq_true,if_false,if_true]
       rw [dq]
       simp +contextual only [af,ck,cx,f0,f1,List.getElem?_eq_getElem bb,Int.toNat_natCast,↓ak,au,simprocAttr]
       refine bT (zf s a0 4 b _ vj (by omega) aQ tg) ?_
       rintro x ah w
       have g1:=sW w
       obtain ⟨k,n,t,rfl,_⟩:=w.res
       simp +contextual only [g1,af,ck,cx,f0,f1,↓ak,au,simprocAttr]
       exact w.store fh
     | false=>
       have bM:IntKind.i64.wrap ((a0:Int)+1)=((a0+1:Nat):Int):=by rw [wrap_i64 (by omega) (by omega)];rfl
       have f2:(0≤((a0+1:Nat):Int))=True:=eq_true (by omega)
       by_cases cp:s[a0]=39∧jJ (s.drop (a0+1))
       · have dq:fw (s[a0]::s.drop (a0+1))=(hZ 5 (s.drop (a0+1))).map fun q=>(q.1,q.2.1,q.2.2.1,q.2.2.2+1):=by simp only [fw];rw [if_neg (by rw [U];exact Bool.false_ne_true),if_neg ad,if_neg aI,if_neg (by rw [br];exact Bool.false_ne_true),if_pos cp]
         rw [dq]
         obtain ⟨yl,ym⟩:=cp
         replace yl:=eq_true yl
         have aN:a0+1<s.length:=by
          by_cases q:a0+1<s.length
          · exact q
          · rw [List.drop_eq_nil_of_le (by omega)] at ym
            cases ym
         rw [drop_cons aN] at ym
         have f3:(((a0+1:Nat):Int) < (s.length:Int))=True:=eq_true (by omega)
         simp +contextual (maxSteps:=1000000) only [af,ck,cx,f0,f1,f2,f3,bM,hk,ps,sK,ad,yl,List.getElem?_eq_getElem bb,List.getElem?_eq_getElem aN,Int.toNat_natCast,↓ak,au,simprocAttr]
         refine eR (Ab _ _) ?_
         rw [show fx ((s[a0+1]).toNat:Int)=true from ym]
         simp +contextual (maxSteps:=1000000) only [af,ck,cx,f0,f1,f2,f3,bM,hk,ps,sK,ad,yl,List.getElem?_eq_getElem bb,List.getElem?_eq_getElem aN,Int.toNat_natCast,↓ak,au,simprocAttr]
         have Js:Mod (fun q=>q=b) (h.new (.bk [.int .i64 0,.int .i64 0,.int .i64 0,.str []] 0 false)) ((h.new (.bk [.int .i64 0,.int .i64 0,.int .i64 0,.str []] 0 false)).set b (.bk [.str s,.int .i64 ((a0+1:Nat):Int),.int .i64 0] 0 false)):=(Mod.refl _ _).self _
         refine bT (zf s (a0+1) 5 b _ (by rw [dG,if_pos rfl];rfl) (by omega) aQ (Js.b0 tg)) ?_
         rintro x ah w
         have al:lh s a0 b (h.new (.bk [.int .i64 0,.int .i64 0,.int .i64 0,.str []] 0 false)) ((hZ 5 (s.drop (a0+1))).map fun q=>(q.1,q.2.1,q.2.2.1,q.2.2.2+1)) x ah:=by
          obtain ⟨acR,k,n,t,ac3,wr⟩:=w
          refine ⟨Js.trans acR,k,n,t,ac3,?_⟩
          cases a7:hZ 5 (s.drop (a0+1)) with
          | error e=>rw [a7] at wr;exact wr
          | ok q=>
            rw [a7] at wr
            obtain ⟨bt,cW,bQ,fW,cL⟩:=wr
            refine ⟨bt,cW,bQ,?_,?_⟩
            · rw [fW]
              show ec s ((a0+1+q.2.2.2:Nat):Int) 0=ec s ((a0 + (q.2.2.2+1):Nat):Int) 0
              rw [show a0+1+q.2.2.2=a0 + (q.2.2.2+1) from by omega]
            · show a0 + (q.2.2.2+1)≤s.length
              omega
         have g1:=sW al
         obtain ⟨k,n,t,rfl,_⟩:=al.res
         simp +contextual only [g1,af,ck,cx,f0,f1,↓ak,au,simprocAttr]
         exact al.store fh
       · have dq:fw (s[a0]::s.drop (a0+1))=uf (s.drop a0):=by rw [aV];simp only [fw];rw [if_neg (by rw [U];exact Bool.false_ne_true),if_neg ad,if_neg aI,if_neg (by rw [br];exact Bool.false_ne_true),if_neg cp]
         rw [dq]
         have Uy:((s[a0]=39)=False)∨(((s[a0]=39)=True)∧¬a0+1<s.length)∨(((s[a0]=39)=True)∧∃aN:a0+1<s.length,fx ((s[a0+1]).toNat:Int)=false):=by
          by_cases q:s[a0]=39
          · by_cases aN:a0+1<s.length
            · refine .inr (.inr ⟨eq_true q,aN,?_⟩)
              cases aF:fx ((s[a0+1]).toNat:Int) with
              | false=>rfl
              | true=>exact absurd ⟨q,by rw [drop_cons aN];exact aF⟩ cp
            · exact .inr (.inl ⟨eq_true q,aN⟩)
          · exact .inl (eq_false q)
         have two:∀t ∈ hy,t.length≤2:=by decide
         have n_:((17:Nat):Int)=17:=rfl
         rcases Uy with aj | ⟨aj,ay⟩ | ⟨aj,aN,ay⟩
         case' neg.inl=>
          simp +contextual (maxSteps:=1000000) only [af,ck,cx,f0,f1,f2,bM,hk,ps,sK,ad,aj,List.getElem?_eq_getElem bb,Int.toNat_natCast,↓ak,au,simprocAttr]
         case' neg.inr.inl=>
          have f3:(((a0+1:Nat):Int) < (s.length:Int))=False:=eq_false (by omega)
          simp +contextual (maxSteps:=1000000) only [af,ck,cx,f0,f1,f2,f3,bM,hk,ps,sK,ad,aj,List.getElem?_eq_getElem bb,Int.toNat_natCast,↓ak,au,simprocAttr]
         case' neg.inr.inr=>
          have f3:(((a0+1:Nat):Int) < (s.length:Int))=True:=eq_true (by omega)
          simp +contextual (maxSteps:=1000000) only [af,ck,cx,f0,f1,f2,f3,bM,hk,ps,sK,ad,aj,List.getElem?_eq_getElem bb,List.getElem?_eq_getElem aN,Int.toNat_natCast,↓ak,au,simprocAttr]
          refine eR (Ab _ _) ?_
          rw [ay]
          simp +contextual (maxSteps:=1000000) only [af,ck,cx,f0,f1,f2,f3,bM,hk,ps,sK,ad,aj,List.getElem?_eq_getElem bb,List.getElem?_eq_getElem aN,Int.toNat_natCast,↓ak,au,simprocAttr]
         all_goals
          refine bT (abE _) ?_
          rintro x ah ⟨rfl,rfl⟩
          simp +contextual only [↓ak,au,simprocAttr]
          refine gu (fun r aa=>r 0=.ptr b 0∧r 2=.ptr (aH h.next) 0∧r 77=.slice (aH (h.next+1)) 0 17 17∧r 78=.int .i64 17∧∃i:Nat,i≤17∧r 79=.int .i64 i∧aa=(h.new (.bk [.int .i64 0,.int .i64 0,.int .i64 0,.str []] 0 false)).new (.bk ug 0 false)∧
           hy.find? (·.isPrefixOf (s.drop a0))=(hy.drop i).find? (·.isPrefixOf (s.drop a0))) (fun r aa=>17 - (r 79).toN) ?_ ?_
          · exact ⟨by simp only [↓ak,au,simprocAttr],by simp only [↓ak,au,simprocAttr],by simp only [↓ak,au,simprocAttr],by simp only [n_,↓ak,au,simprocAttr],0,by omega,by simp only [↓ak,au,simprocAttr]<;>rfl,rfl,rfl⟩
          · rintro r aa ⟨bp,cW,zM,zN,i,aB,zO,rfl,pF⟩
            unfold Hp
            have Jv:Old ((h.new (.bk [.int .i64 0,.int .i64 0,.int .i64 0,.str []] 0 false)).new (.bk ug 0 false)) b:=(ao.new _).b0 fh
            have ot:((h.new (.bk [.int .i64 0,.int .i64 0,.int .i64 0,.str []] 0 false)).new (.bk ug 0 false)).get b=.bk [.str s,.int .i64 a0,.int .i64 0] 0 false:=by rw [(ao.new _).get _ fh,af]
            have wi:(b=aH (h.next+1))=False:=wj fh (by omega)
            have xG:(aH (h.next+1)=b)=False:=by rw [←wi];exact propext eq_comm
            by_cases mi:i<17
            · have g0:((i:Int)<17)=True:=eq_true (by omega)
              have g1:(0≤(i:Int))=True:=eq_true (by omega)
              rw [Ti _ mi] at pF
              have hlen:=two _ (List.getElem_mem (h:=(show i<hy.length from mi)))
              simp +contextual only [n_,bp,cW,zM,zN,zO,g0,g1,ck,cx,wi,xG,Int.toNat_natCast,Nat.mul_one,abC mi,↓ak,au,simprocAttr]
              refine eR (CQ s _ (a0:Int) [.int .i64 0] b 0 false _ ot (by omega) (by omega)) ?_
              rw [Int.toNat_natCast]
              cases nk:(hy[i]'mi).isPrefixOf (s.drop a0) with
              | true=>
                rw [nk,if_pos rfl] at pF
                have kj:(hy[i]'mi).length≤s.length-a0:=by
                 rw [List.isPrefixOf_iff_prefix] at nk
                 have:=nk.length_le
                 rwa [List.length_drop] at this
                have lV:IntKind.i64.wrap ((a0:Int) + ((hy[i]'mi).length:Int))=((a0 + (hy[i]'mi).length:Nat):Int):=by rw [wrap_i64 (by omega) (by omega)];rfl
                simp +contextual only [n_,bp,cW,zM,zN,zO,g0,g1,lV,ck,cx,wi,xG,af,↓ak,au,simprocAttr]
                unfold uf
                rw [pF]
                refine ⟨(((ao.new _).mod _).self _).fresh (Nat.le_refl _) _,_,_,_,rfl,rfl,rfl,rfl,?_,by show a0 + (hy[i]'mi).length≤s.length;omega⟩
                simp only [ec,ck,cx,↓ak,au,simprocAttr]
              | false=>
                rw [nk,if_neg Bool.false_ne_true] at pF
                have lV:IntKind.i64.wrap ((i:Int)+1)=((i+1:Nat):Int):=by rw [wrap_i64 (by omega) (by omega)];rfl
                simp +contextual only [n_,bp,cW,zM,zN,zO,g0,g1,lV,ck,cx,wi,xG,af,↓ak,au,simprocAttr]
                exact ⟨⟨i+1,by omega,rfl,pF⟩,by omega⟩
            · obtain rfl:i=17:=by omega
              have cV:hy.find? (·.isPrefixOf (s.drop a0))=none:=by rw [pF];rfl
              have g0:((17:Int)<17)=False:=eq_false (by omega)
              simp +contextual only [n_,bp,cW,zM,zN,zO,g0,ot,ck,cx,wi,xG,af,↓ak,au,simprocAttr]
              unfold uf
              rw [cV]
              refine ⟨(((ao.new _).mod _).self _).fresh (Nat.le_refl _) _,_,_,_,rfl,by decide,(a0:Int),?_⟩
              simp only [ec,ck,cx,↓ak,au,simprocAttr]
theorem IC (s:List UInt8) (i:Nat):(ByteArray.mk ⟨s⟩).get! i=(s[i]?).getD 0:=by
 show (Array.mk s)[i]! =_
 simp
 rfl
theorem Sx (s:List UInt8) (a:Nat):Lib.decodeGo ⟨⟨s.drop a⟩⟩=if a<s.length then decodeL s a else (65533,0):=by
 unfold Lib.decodeGo decodeL
 have bq:(ByteArray.mk ⟨s.drop a⟩).size=s.length-a:=by
  show (s.drop a).length=_
  rw [List.length_drop]
 have nq:(ByteArray.mk ⟨s⟩).size=s.length:=rfl
 by_cases bm:a<s.length
 · rw [if_pos bm,if_neg (by rw [bq];omega),Lib.decode_at,Lib.decode_at,bq,nq]
   simp only [IC,List.getElem?_drop,Nat.add_zero,Nat.sub_zero,Nat.zero_add]
 · rw [if_neg bm,if_pos (by rw [bq];omega)]
theorem Zu {h:ae} {b:aO} {s:List UInt8} {a:Nat} (aD:h.get b=.iter s a):
 rO (.ptr b 0) h=if a<s.length then .val (.tuple [.bool true,.int .i64 a,.int .i32 (decodeL s a).1]) (h.set b (.iter s (a + (decodeL s a).2))) else .val (.tuple [.bool false]) h:=by
 unfold rO
 simp only [V.ht,aD]
 rw [show Nat.beq 0 0=true from rfl]
 simp only [cond_true]
 by_cases bm:a<s.length
 · rw [if_pos bm,show Nat.blt a s.length=true from by rw [Nat.blt_eq];exact bm]
   rfl
 · rw [if_neg bm,show Nat.blt a s.length=false from by rw [←Bool.not_eq_true,Nat.blt_eq];exact bm]
   rfl
def WA (s:List UInt8):bV→Nat
 | .iter _ a=>s.length-a
 | _=>0
theorem Sv (s:List UInt8) (a:Nat):1≤(decodeL s a).2:=by
 unfold decodeL
 rw [Lib.decode_at]
 unfold Lib.decodeN
 repeat' split
 all_goals simp
theorem aa7 (s:List UInt8) (aQ:s.length≤100000) (h:ae):bF Tryz.prog 91 [.str s] h fun x aa=>x=.int .i64 (qb s:Nat)∧Ext h aa:=by
 refine Ro rfl (db ?_)
 unfold B2
 simp +contextual only [↓ak,au,simprocAttr]
 refine gu (fun r aa=>r 0=.str s∧r 8=.ptr (aH h.next) 0∧Ext h aa∧∃a,aa.get (aH h.next)=.iter s a∧qb s=nE s a) (fun r aa=>WA s (aa.get (aH h.next))) ?_ ?_
 · exact ⟨by simp only [↓ak,au,simprocAttr],by simp only [↓ak,au,simprocAttr],(Ext.refl h).new _,0,by simp only [↓ak,au,simprocAttr],rfl⟩
 · rintro r aa ⟨bp,fj,ao,a,aD,bm⟩
   unfold Hn
   have jN:=Zu aD
   by_cases aN:a<s.length
   · rw [if_pos aN] at jN
     have ah:=Sv s a
     by_cases ar:(decodeL s a).1=65533
     · have ma:(((decodeL s a).1:Int)=65533)=True:=eq_true (by omega)
       have f0:(0≤(a:Int))=True:=eq_true (by omega)
       have f1:((a:Int)≤(s.length:Int))=True:=eq_true (by omega)
       simp +contextual only [bp,fj,jN,ma,f0,f1,Int.toNat_natCast,↓ak,au,simprocAttr]
       refine eR (Sw _ _) ?_
       rw [Sx,if_pos aN]
       by_cases hw:(decodeL s a).2=1
       · have D1:(((decodeL s a).2:Int)=1)=True:=eq_true (by omega)
         have q4:ka s a=0:=by unfold ka;rw [if_pos (Prod.ext ar hw)]
         rw [aa6 aN q4] at bm
         simp +contextual only [bp,fj,jN,ma,D1,f0,f1,Int.toNat_natCast,↓ak,au,simprocAttr]
         rw [bm]
         exact ⟨rfl,ao.set (Nat.le_refl _) _⟩
       · have D1:(((decodeL s a).2:Int)=1)=False:=eq_false (by omega)
         have q4:ka s a=(decodeL s a).2:=by unfold ka;rw [if_neg (fun q=>hw (congrArg Prod.snd q))]
         rw [Fs aN (by rw [q4];omega),q4] at bm
         simp +contextual only [bp,fj,jN,ma,D1,f0,f1,Int.toNat_natCast,↓ak,au,simprocAttr]
         refine ⟨⟨ao.set (Nat.le_refl _) _,_,rfl,bm⟩,?_⟩
         rw [aD]
         show s.length - (a + (decodeL s a).2)<s.length-a
         omega
     · have ma:(((decodeL s a).1:Int)=65533)=False:=eq_false (by omega)
       have q4:ka s a=(decodeL s a).2:=by unfold ka;rw [if_neg (fun q=>ar (congrArg Prod.fst q))]
       rw [Fs aN (by rw [q4];omega),q4] at bm
       simp +contextual only [bp,fj,jN,ma,Int.toNat_natCast,↓ak,au,simprocAttr]
       refine ⟨⟨ao.set (Nat.le_refl _) _,_,rfl,bm⟩,?_⟩
       rw [aD]
       show s.length - (a + (decodeL s a).2)<s.length-a
       omega
   · rw [if_neg aN] at jN
     rw [L8 (by omega)] at bm
     simp +contextual only [bp,fj,jN,Int.toNat_natCast,↓ak,au,simprocAttr]
     rw [bm]
     exact ⟨rfl,ao⟩
def bS.enc (w:bS):List V:=[.int .i64 w.kind,.int .i64 w.num,.int .i64 w.pos,.str w.text]
def gW:List bS→List V
 | []=>[]
 | w::ws=>w.enc++gW ws
theorem M1:∀a b:List bS,gW (a++b)=gW a++gW b
 | [],b=>rfl
 | w::a,b=>by simp only [gW,List.cons_append,M1 a b,List.append_assoc]
def wJ (ws:List bS):Except (Int × Nat) (List bS)→Except (Int × Nat) (List bS)
 | .ok bI=>.ok (ws++bI)
 | .error e=>.error e
theorem aay (ws:List bS) (w:bS) (r:Except (Int × Nat) (List bS)):wJ ws (u5 w r)=wJ (ws++[w]) r:=by
 cases r with
 | ok bI=>simp [wJ,u5]
 | error e=>rfl
theorem aaz (r:Except (Int × Nat) (List bS)):wJ [] r=r:=by cases r<;>rfl
def Ny (s:List UInt8) (h:ae) (x:V) (aa:ae):Prop:=Ext h aa∧match iP s with
 | .ok ws=>∃v,x=.tuple [v,.agg [.int .i64 0,.int .i64 0]]∧dy h.next aa 4 v ws.length (gW ws)
 | .error e=>x=.tuple [.cq,.agg [.int .i64 e.1,.int .i64 e.2]]
theorem GU (c:UInt8):(0≤Lib.indexByte [9,10,13,32] c)=(blank c=true):=by
 have bb:∀d:UInt8,(d == c)=decide (c=d):=fun d=>by
  by_cases q:c=d
  · subst q;simp
  · have dK:¬d=c:=fun e=>q e.symm
    simp [q,dK]
 simp only [Lib.indexByte,bb,blank]
 by_cases U:c=9
 · subst U;decide
 · by_cases ad:c=10
   · subst ad;decide
   · by_cases aI:c=13
     · subst aI;decide
     · by_cases br:c=32
       · subst br;decide
       · simp [U,ad,aI,br]
theorem KD (s:List UInt8) (h:ae):bF Tryz.prog 72 [.str s] h (Ny s h):=by
 refine Q2 rfl (db ?_)
 unfold BW
 by_cases Jk:(65536:Int) < (s.length:Int)
 · simp +contextual only [Jk,↓ak,au,simprocAttr]
   refine ⟨((Ext.refl h).new _).set (Nat.le_refl _) _,?_⟩
   unfold iP
   rw [if_pos (by omega)]
   rfl
 simp +contextual only [Jk,↓ak,au,simprocAttr]
 refine bT (aa7 s (by omega) _) ?_
 rintro x U ⟨rfl,D3⟩
 have ao:Ext h (h.new (.bk [.int .i64 0,.int .i64 0] 0 false)):=(Ext.refl h).new _
 have tx:=ao.trans D3
 have g1:U.get (aH h.next)=.bk [.int .i64 0,.int .i64 0] 0 false:=by
  rw [D3.get _ (gS (by rw [gw];omega))]
  simp only [↓ak,au,simprocAttr]
 have K2:h.next+1≤U.next:=D3.next
 have cg:(aH U.next=aH h.next)=False:=by rw [oP];exact eq_false (by omega)
 have da:(aH h.next=aH U.next)=False:=by rw [oP];exact eq_false (by omega)
 have k1:(U.next=h.next)=False:=eq_false (by omega)
 have k2:(h.next=U.next)=False:=eq_false (by omega)
 have hlen:¬65536<s.length:=by omega
 by_cases aG:qb s<s.length
 · have oA:((qb s:Int) < (s.length:Int))=True:=eq_true (by omega)
   simp +contextual only [oA,g1,cg,da,k1,k2,↓ak,au,simprocAttr]
   refine ⟨tx.set (Nat.le_refl _) _,?_⟩
   unfold iP
   rw [if_neg hlen,if_pos aG]
 have oA:((qb s:Int) < (s.length:Int))=False:=eq_false (by omega)
 have je:iP s=nw s 0:=by unfold iP;rw [if_neg hlen,if_neg aG]
 simp +contextual only [oA,g1,cg,da,k1,k2,↓ak,au,simprocAttr]
 have V6:Ext h (U.new (.bk [.str s,.int .i64 0,.int .i64 0] 0 false)):=tx.new _
 refine gu (fun r aa=>r 0=.str s∧r 3=.ptr (aH h.next) 0∧r 5=.ptr (aH U.next) 0∧∃(a:Nat) (ws:List bS) (v:V),r 6=v∧aa.get (aH U.next)=.bk [.str s,.int .i64 a,.int .i64 0] 0 false∧a≤s.length∧ws.length≤a∧
  aa.get (aH h.next)=.bk [.int .i64 0,.int .i64 0] 0 false∧Ext h aa∧U.next+1≤aa.next∧dy (U.next+1) aa 4 v ws.length (gW ws)∧iP s=wJ ws (nw (s.drop a) a))
  (fun r aa=>s.length - ((hc (aa.get (aH U.next)) 1).getD .bad).toN) ?_ ?_
 · refine ⟨by simp only [↓ak,au,simprocAttr],by simp only [↓ak,au,simprocAttr],by simp only [↓ak,au,simprocAttr],0,[],.cq,by simp only [↓ak,au,simprocAttr],by simp only [↓ak,au,simprocAttr]<;>rfl,by omega,by simp,by simp only [g1,cg,k1,da,k2,↓ak,au,simprocAttr],V6,?_,⟨rfl,rfl⟩,?_⟩
   · rw [gw];exact Nat.le_refl _
   · rw [je,List.drop_zero,aaz]
 · rintro r aa ⟨bp,bQ,cL,a,ws,v,gz,aD,b_,kw,bq,yT,jN,fr,bg⟩
   unfold Hl
   have fh:Old aa (aH U.next):=gS (by omega)
   by_cases eT:(s.length:Int)≤(a:Int)
   · have bm:a=s.length:=by omega
     have yK:iP s=.ok ws:=by
      rw [bg,bm,List.drop_length]
      show Except.ok (ws++[])=_
      rw [List.append_nil]
     simp +contextual only [bp,bQ,cL,gz,aD,bq,eT,cg,da,k1,k2,↓ak,au,simprocAttr]
     refine ⟨yT.set (Nat.le_refl _) _,?_⟩
     rw [yK]
     refine ⟨v,rfl,?_⟩
     have:=fr.mod ((Mod.refl (fun q=>q=aH h.next) aa).self (.bk [.int .i64 0,.int .i64 0] 0 false)) (fun q aF e=>by
      have ad:=fr.base aF
      rw [show q=aH h.next from e,dR] at ad
      omega)
     exact this.mono (by omega)
   · have aN:a<s.length:=by omega
     rw [drop_cons aN,KC,←drop_cons aN] at bg
     have f0:(0≤(a:Int))=True:=eq_true (by omega)
     have f1:((a:Int) < (s.length:Int))=True:=eq_true (by omega)
     have bM:IntKind.i64.wrap ((a:Int)+1)=((a+1:Nat):Int):=by rw [wrap_i64 (by omega) (by omega)];rfl
     simp +contextual only [bp,bQ,cL,gz,aD,bq,eT,cg,da,k1,k2,f0,f1,List.getElem?_eq_getElem aN,Int.toNat_natCast,↓ak,au,simprocAttr]
     refine eR (J4 _ _ _) ?_
     rw [MQ]
     by_cases yu:blank s[a]=true
     · have CW:(0≤Lib.indexByte [9,10,13,32] s[a])=True:=by rw [GU,yu];exact eq_self _
       rw [if_pos yu] at bg
       simp +contextual only [CW,bM,bp,bQ,cL,gz,aD,bq,eT,cg,da,k1,k2,f0,f1,List.getElem?_eq_getElem aN,Int.toNat_natCast,↓ak,au,simprocAttr]
       refine ⟨⟨a+1,ws,rfl,by omega,by omega,yT.set (by omega) _,jN,?_,bg⟩,by omega⟩
       exact fr.mod ((Mod.refl (fun q=>q=aH U.next) aa).self _) (fun q aF e=>by
        have ad:=fr.base aF
        rw [show q=aH U.next from e,dR] at ad
        omega)
     · have CW:(0≤Lib.indexByte [9,10,13,32] s[a])=False:=by rw [GU];exact eq_false yu
       rw [if_neg yu] at bg
       simp +contextual only [CW,bM,bp,bQ,cL,gz,aD,bq,eT,cg,da,k1,k2,f0,f1,List.getElem?_eq_getElem aN,Int.toNat_natCast,↓ak,au,simprocAttr]
       have vB:=CQ s [40,42] (a:Int) [.int .i64 0] (aH U.next) 0 false aa aD (by omega) (by omega)
       rw [Int.toNat_natCast] at vB
       refine eR vB ?_
       cases nk:([40,42]:List UInt8).isPrefixOf (s.drop a) with
       | true=>
         rw [nk,if_pos rfl] at bg
         simp +contextual only [bM,bp,bQ,cL,gz,aD,bq,eT,cg,da,k1,k2,f0,f1,List.getElem?_eq_getElem aN,Int.toNat_natCast,↓ak,au,simprocAttr]
         refine bT (ZC s a 0 (aH U.next) aa aD b_ (by omega) fh) ?_
         rintro x ad ⟨rfl,hm,a7⟩
         have nq:ad.get (aH h.next)=.bk [.int .i64 0,.int .i64 0] 0 false:=by rw [hm.get _ (gS (by omega)) (by rw [da];exact id),bq]
         have yR:Ext h ad:=yT.nz hm (fun b af=>by rw [show b=aH U.next from af,dR];omega)
         have wm:=hm.next
         have iG:=fr.mod hm (fun q aF e=>by
          have ad:=fr.base aF
          rw [show q=aH U.next from e,dR] at ad
          omega)
         cases DD:gI (s.drop a) 0 with
         | some n=>
           rw [DD] at a7 bg
           obtain ⟨g2,hle⟩:=a7
           have vA:=zl DD
           unfold ec at g2
           simp +contextual only [bM,bp,bQ,cL,gz,g2,aD,nq,eT,cg,da,k1,k2,f0,f1,List.getElem?_eq_getElem aN,Int.toNat_natCast,↓ak,au,simprocAttr]
           refine ⟨⟨a+n,ws,rfl,hle,by omega,yR,by omega,iG,?_⟩,by omega⟩
           rw [bg]
           simp only [List.drop_drop]
         | none=>
           rw [DD] at a7 bg
           unfold ec at a7
           simp +contextual only [bM,bp,bQ,cL,gz,a7,aD,nq,eT,cg,da,k1,k2,f0,f1,List.getElem?_eq_getElem aN,Int.toNat_natCast,↓ak,au,simprocAttr]
           refine ⟨yR.set (Nat.le_refl _) _,?_⟩
           rw [bg]
           rfl
       | false=>
         rw [nk,if_neg Bool.false_ne_true] at bg
         simp +contextual only [bM,bp,bQ,cL,gz,aD,bq,eT,cg,da,k1,k2,f0,f1,List.getElem?_eq_getElem aN,Int.toNat_natCast,↓ak,au,simprocAttr]
         refine bT (Zw s a (aH U.next) aa aD aN (by omega) fh) ?_
         rintro x ad w
         obtain ⟨hm,k,n,t,rfl,tk⟩:=w
         have nq:ad.get (aH h.next)=.bk [.int .i64 0,.int .i64 0] 0 false:=by rw [hm.get _ (gS (by omega)) (by rw [da];exact id),bq]
         have yR:Ext h ad:=yT.nz hm (fun b af=>by rw [show b=aH U.next from af,dR];omega)
         have wm:=hm.next
         have iG:=fr.mod hm (fun q aF e=>by
          have ad:=fr.base aF
          rw [show q=aH U.next from e,dR] at ad
          omega)
         have m0:(aH ad.next=aH h.next)=False:=by rw [oP];exact eq_false (by omega)
         have m1:(aH ad.next=aH U.next)=False:=by rw [oP];exact eq_false (by omega)
         have KK:(ad.next=h.next)=False:=eq_false (by omega)
         have KL:(ad.next=U.next)=False:=eq_false (by omega)
         have yS:Ext ad (((ad.new (.bk [.int .i64 0,.int .i64 0,.int .i64 0,.str []] 0 false)).set (aH ad.next) (.bk [.int .i64 k,.int .i64 n,.int .i64 0,.str t] 0 false)).set (aH ad.next) (.bk [.int .i64 k,.int .i64 n,.int .i64 a,.str t] 0 false)):=(((Ext.refl ad).new _).set (Nat.le_refl _) _).set (Nat.le_refl _) _
         obtain ⟨v3,aI,aj,ay,aK,bE,dh⟩:=uN (cs:=[.int .i64 k,.int .i64 n,.int .i64 a,.str t]) (by omega) (iG.ext yS) (by simp only [lL,gw];omega) (by unfold top;omega) rfl rfl
         simp only [lL,gw] at aj bE
         have JQ:Ext h aI:=(yR.trans yS).nz aK (fun b af=>Nat.le_trans (by omega) (iG.base af))
         have vP:aI.get (aH h.next)=.bk [.int .i64 0,.int .i64 0] 0 false:=by
          rw [aK.get _ (gS (by simp only [lL,gw];omega)) (fun aF=>by have:=iG.base aF;rw [dR] at this;omega),yS.get _ (gS (by omega)),nq]
         have kh:aI.get (aH U.next)=ad.get (aH U.next):=by
          rw [aK.get _ (gS (by simp only [lL,gw];omega)) (fun aF=>by have:=iG.base aF;rw [dR] at this;omega),yS.get _ (gS (by omega))]
         cases jN:fw (s.drop a) with
         | ok q=>
           have vA:=EG jN
           rw [jN] at tk bg
           obtain ⟨rfl,rfl,rfl,g2,hle⟩:=tk
           unfold ec at g2
           rw [g2] at kh
           simp +contextual only [aj,m0,m1,KK,KL,bM,bp,bQ,cL,gz,g2,kh,aD,nq,eT,cg,da,k1,k2,f0,f1,List.getElem?_eq_getElem aN,Int.toNat_natCast,↓ak,au,simprocAttr]
           refine ⟨⟨a+q.2.2.2,ws++[⟨q.1,q.2.1,a,q.2.2.1⟩],rfl,hle,by simp;omega,vP,JQ,by omega,?_,?_⟩,by omega⟩
           · rw [List.length_append,M1]
             exact ay
           · rw [bg,aay]
             simp only [List.drop_drop]
         | error e=>
           rw [jN] at tk bg
           obtain ⟨he,bf,g2⟩:=tk
           unfold ec at g2
           rw [g2] at kh
           simp +contextual only [he,aj,m0,m1,KK,KL,bM,bp,bQ,cL,gz,g2,kh,vP,aD,nq,eT,cg,da,k1,k2,f0,f1,List.getElem?_eq_getElem aN,Int.toNat_natCast,↓ak,au,simprocAttr]
           refine ⟨JQ.set (Nat.le_refl _) _,?_⟩
           rw [bg]
           rfl
def mL (L:List (List UInt8)):List V:=L.map V.str
theorem Kh (h:ae):bF Tryz.prog 79 [] h fun x aa=>x=.slice (aH h.next) 0 20 20∧aa=h.new (.bk (mL pU) 0 false):=by
 refine Rh rfl (db ?_)
 unfold B1
 simp +contextual only [↓ak,au,simprocAttr]
 rfl
theorem FJ (L:List (List UInt8)):(mL L).length=L.length:=by simp [mL]
theorem FI {L:List (List UInt8)} {i:Nat} (aB:i<L.length):(mL L)[i]? =some (.str L[i]):=by
 unfold mL
 rw [List.getElem?_map,List.getElem?_eq_getElem aB]
 rfl
theorem HW {t:List UInt8} {L:List (List UInt8)} {i:Nat} (aB:i<L.length):(L.drop i).contains t=(decide (L[i]=t)||(L.drop (i+1)).contains t):=by
 rw [List.drop_eq_getElem_cons aB,List.contains_cons]
 congr 1
 rw [Bool.eq_iff_iff]
 simp
 exact eq_comm
theorem D' (t:List UInt8) (L:List (List UInt8)) (b:aO) (cap:Nat) (h:ae) (cy:L.length≤100000) (aD:h.get b=.bk (mL L) 0 false):
 eo Tryz.prog 59 [.str t,.slice b 0 L.length cap] h (.bool (L.contains t)) h:=by
 refine k5 (QK rfl (db ?_))
 unfold BP
 simp +contextual only [↓ak,au,simprocAttr]
 refine gu (fun r aa=>aa=h∧r 0=.str t∧r 1=.slice b 0 L.length cap∧∃i:Nat,r 5=.int .i64 i∧i≤L.length∧L.contains t=(L.drop i).contains t) (fun r aa=>L.length - (r 5).toN) ?_ ?_
 · exact ⟨rfl,by simp only [↓ak,au,simprocAttr],by simp only [↓ak,au,simprocAttr],0,by simp only [↓ak,au,simprocAttr]<;>rfl,by omega,rfl⟩
 · rintro r aa ⟨rfl,bp,bt,i,cL,aB,bg⟩
   unfold Hi
   by_cases aN:i<L.length
   · have g0:((i:Int) < (L.length:Int))=True:=eq_true (by omega)
     have g1:(0≤(i:Int))=True:=eq_true (by omega)
     rw [HW aN] at bg
     by_cases he:L[i]=t
     · simp +contextual only [bp,bt,cL,g0,g1,aD,he,Int.toNat_natCast,Nat.mul_one,FI aN,↓ak,au,simprocAttr]
       rw [bg]
       simp [he]
     · have w:IntKind.i64.wrap ((i:Int)+1)=((i+1:Nat):Int):=by rw [wrap_i64 (by omega) (by omega)];rfl
       simp +contextual only [bp,bt,cL,g0,g1,aD,he,w,Int.toNat_natCast,Nat.mul_one,FI aN,↓ak,au,simprocAttr]
       refine ⟨⟨i+1,rfl,aN,?_⟩,by omega⟩
       rw [bg]
       simp [he]
   · have g0:((i:Int) < (L.length:Int))=False:=eq_false (by omega)
     rw [List.drop_eq_nil_of_le (by omega)] at bg
     rw [bg]
     simp +contextual only [bp,bt,cL,g0,↓ak,au,simprocAttr]
     rfl
def vl:List UInt8→Bool
 | d::_=>kf d.toNat
 | []=>false
def dm (k:Int) (s:List UInt8):Bool:=
 decide (s≠[])&&decide (s.length≤64)&&s.all ej&&(if k=3 then (jJ s||s.head? == some 95)&&!decide (s=[95])&&!lF s else if k=4 then vl s else jJ s)
theorem Wm (t:List UInt8) (L:List (List UInt8)) (v:V) (h:ae) (H:eZ h 1 v L.length (mL L)) (cy:L.length≤100000):
 bF Tryz.prog 74 [v,.str t] h fun x aa=>aa=h∧∃i:Int,x=.int .i64 i∧decide (0≤i)=L.contains t:=by
 refine Q8 rfl (db ?_)
 unfold BY
 simp +contextual only [H.len,↓ak,au,simprocAttr]
 refine gu (fun r aa=>aa=h∧r 0=v∧r 1=.str t∧r 7=.int .i64 L.length∧∃i:Nat,r 8=.int .i64 i∧i≤L.length∧L.contains t=(L.drop i).contains t) (fun r aa=>L.length - (r 8).toN) ?_ ?_
 · exact ⟨rfl,by simp only [↓ak,au,simprocAttr],by simp only [↓ak,au,simprocAttr],by simp only [↓ak,au,simprocAttr],0,by simp only [↓ak,au,simprocAttr]<;>rfl,by omega,rfl⟩
 · rintro r aa ⟨rfl,bp,bt,gU,i,fj,aB,bg⟩
   unfold Hm
   by_cases aN:i<L.length
   · have g0:((i:Int) < (L.length:Int))=True:=eq_true (by omega)
     obtain ⟨bL,cT,rA,l2⟩:=H.c4 (k:=.i64) aN
     have fS:=l2.fS (i:=i * 1) (by rw [FJ];omega)
     simp only [Nat.mul_one] at fS rA
     have De:(mL L)[i]'(by rw [FJ];exact aN)=.str L[i]:=by
      have:=FI aN
      rw [List.getElem?_eq_getElem (by rw [FJ];exact aN)] at this
      exact Option.some.inj this
     rw [De] at fS
     rw [HW aN] at bg
     have w:IntKind.i64.wrap ((i:Int)+1)=((i+1:Nat):Int):=by rw [wrap_i64 (by omega) (by omega)];rfl
     by_cases he:t=L[i]
     · have dA:decide (t=L[i])=true:=decide_eq_true he
       simp +contextual only [bp,bt,gU,fj,g0,rA,fS,dA,↓ak,au,simprocAttr]
       exact ⟨i,rfl,by rw [bg,←he];simp⟩
     · have dA:decide (t=L[i])=false:=decide_eq_false he
       simp +contextual only [bp,bt,gU,fj,g0,rA,fS,dA,w,↓ak,au,simprocAttr]
       refine ⟨⟨i+1,rfl,aN,?_⟩,by omega⟩
       rw [bg,decide_eq_false (fun q=>he q.symm),Bool.false_or]
   · have g0:((i:Int) < (L.length:Int))=False:=eq_false (by omega)
     rw [List.drop_eq_nil_of_le (by omega)] at bg
     simp +contextual only [bp,bt,gU,fj,g0,↓ak,au,simprocAttr]
     exact ⟨_,rfl,by rw [bg];rfl⟩
theorem Sf (t:List UInt8) (L:List (List UInt8)) (v:V) (h:ae) (H:eZ h 1 v L.length (mL L)) (cy:L.length≤100000):
 eo Tryz.prog 63 [v,.str t] h (.bool (L.contains t)) h:=by
 refine k5 (QQ rfl (db ?_))
 unfold BR
 simp +contextual only [↓ak,au,simprocAttr]
 refine bT (Wm t L v h H cy) ?_
 rintro x U ⟨rfl,i,rfl,aB⟩
 simp +contextual only [aB,↓ak,au,simprocAttr]
def KA (c:Int):Bool:=kC c 97 122||kC c 65 90||kC c 48 57||decide (c=95)||decide (c=39)
theorem YV (c:UInt8):KA (c.toNat:Int)=ej c:=by
 unfold KA ej pW kC kb fx kf
 generalize (c.toNat:Int)=x
 cases decide (97≤x)<;>cases decide (x≤122)<;>cases decide (65≤x)<;>cases decide (x≤90)<;>cases decide (48≤x)<;>cases decide (x≤57)<;>cases decide (x=95)<;>cases decide (x=39)<;>rfl
theorem UH {s:List UInt8} {c:UInt8} {r:List UInt8} (h:s=c::r):jJ s=fx c.toNat:=by rw [h];rfl
theorem nD (k:Int) (s:List UInt8) (aQ:s.length≤17179869184) (aA:k=3∨k=4∨k=5) (h:ae):bF Tryz.prog 65 [.int .i64 k,.str s] h fun x aa=>x=.bool (dm k s)∧Ext h aa:=by
 refine QT rfl (db ?_)
 unfold BS
 by_cases ml:s=[]
 · subst ml
   simp +contextual only [↓ak,au,simprocAttr]
   exact ⟨rfl,Ext.refl _⟩
 obtain ⟨c,r,vI⟩:=List.exists_cons_of_ne_nil ml
 have cC:(s=([]:List UInt8))=False:=eq_false ml
 have kW:s[0]? =some c:=by rw [vI];rfl
 by_cases hlen:(64:Int) < (s.length:Int)
 · have a7:dm k s=false:=by
    unfold dm
    rw [decide_eq_false (show ¬s.length≤64 by omega)]
    simp
   have Dp:=eq_true hlen
   simp +contextual only [cC,Dp,a7,↓ak,au,simprocAttr]
   exact Ext.refl _
 have Dp:=eq_false hlen
 simp +contextual only [cC,Dp,↓ak,au,simprocAttr]
 refine gu (fun r aa=>aa=h∧r 0=.int .i64 k∧r 1=.str s∧∃i:Nat,r 5=.int .i64 i∧i≤s.length∧s.all ej=(s.drop i).all ej) (fun r aa=>s.length - (r 5).toN) ?_ ?_
 · exact ⟨rfl,by simp only [↓ak,au,simprocAttr],by simp only [↓ak,au,simprocAttr],0,by simp only [↓ak,au,simprocAttr]<;>rfl,by omega,rfl⟩
 · rintro R aa ⟨rfl,bp,bt,i,cL,aB,bg⟩
   unfold Hj
   by_cases aN:i<s.length
   · have g0:((i:Int) < (s.length:Int))=True:=eq_true (by omega)
     have g1:(0≤(i:Int))=True:=eq_true (by omega)
     rw [List.drop_eq_getElem_cons aN,List.all_cons] at bg
     have w:IntKind.i64.wrap ((i:Int)+1)=((i+1:Nat):Int):=by rw [wrap_i64 (by omega) (by omega)];rfl
     simp +contextual only [bp,bt,cL,g0,g1,List.getElem?_eq_getElem aN,Int.toNat_natCast,↓ak,au,simprocAttr]
     refine eR (Nx _ _) ?_
     rw [show (kC (s[i].toNat:Int) 97 122||kC (s[i].toNat:Int) 65 90||kC (s[i].toNat:Int) 48 57||decide ((s[i].toNat:Int)=95)||decide ((s[i].toNat:Int)=39))=ej s[i] from YV _]
     cases ai:ej s[i] with
     | true=>
       simp +contextual only [bp,bt,cL,w,↓ak,au,simprocAttr]
       exact ⟨⟨i+1,rfl,aN,by rw [bg,ai,Bool.true_and]⟩,by omega⟩
     | false=>
       have a7:dm k s=false:=by
        unfold dm
        rw [bg,ai]
        simp
       simp +contextual only [a7,↓ak,au,simprocAttr]
       exact Ext.refl _
   · have g0:((i:Int) < (s.length:Int))=False:=eq_false (by omega)
     rw [List.drop_eq_nil_of_le (by omega)] at bg
     have cU:s.all ej=true:=by rw [bg];rfl
     have f1:((0:Int) < (s.length:Int))=True:=eq_true (by rw [vI];simp only [List.length_cons];omega)
     have a7:dm k s=(if k=3 then (jJ s||s.head? == some 95)&&!decide (s=[95])&&!lF s else if k=4 then vl s else jJ s):=by
      unfold dm
      rw [cU,decide_eq_true (show s.length≤64 by omega),decide_eq_true (show s≠[] from ml)]
      simp
     rw [a7]
     have af:(jJ s||s.head? == some 95)=(fx c.toNat||decide (c=95)):=by
      rw [vI]
      show (fx c.toNat||(some c == some 95))=_
      congr 1
     have VO:jJ s=fx c.toNat:=UH vI
     have UW:vl s=kf c.toNat:=by rw [vI];rfl
     rw [af]
     have hu:((c.toNat:Int)=95)=(c=95):=r8 c 95 (by omega)
     rcases aA with rfl | rfl | rfl
     · simp +contextual only [bp,bt,cL,g0,f1,kW,Int.toNat_zero,if_true,↓ak,au,simprocAttr]
       refine eR (uo _ _ _ _) ?_
       rw [show kC (c.toNat:Int) 97 122=fx (c.toNat:Int) from rfl]
       cases mu:fx (c.toNat:Int) with
       | false=>
         by_cases IQ:c=95
         · have l':=eq_true IQ
           by_cases U:s=[95]
           · have e5:=eq_true U
             simp +contextual only [bp,bt,mu,hu,l',e5,f1,kW,Int.toNat_zero,↓ak,au,simprocAttr]
             exact Ext.refl _
           · have e5:=eq_false U
             simp +contextual only [bp,bt,mu,hu,l',e5,f1,kW,Int.toNat_zero,↓ak,au,simprocAttr]
             refine bT (Kh _) ?_
             rintro x U ⟨rfl,rfl⟩
             simp +contextual only [bp,bt,mu,hu,l',e5,f1,kW,↓ak,au,simprocAttr]
             refine eR (D' s pU _ 20 _ (by decide) (by rw [l9])) ?_
             have Dk:pU.contains s=lF s:=rfl
             rw [Dk]
             simp +contextual only [bp,bt,mu,hu,l',e5,↓ak,au,simprocAttr]
             exact (Ext.refl _).new _
         · have l':=eq_false IQ
           simp +contextual only [bp,bt,mu,hu,l',f1,kW,Int.toNat_zero,↓ak,au,simprocAttr]
           exact Ext.refl _
       | true=>
         have l':True=True:=rfl
         by_cases U:s=[95]
         · have e5:=eq_true U
           simp +contextual only [bp,bt,mu,hu,l',e5,f1,kW,Int.toNat_zero,↓ak,au,simprocAttr]
           exact Ext.refl _
         · have e5:=eq_false U
           simp +contextual only [bp,bt,mu,hu,l',e5,f1,kW,Int.toNat_zero,↓ak,au,simprocAttr]
           refine bT (Kh _) ?_
           rintro x U ⟨rfl,rfl⟩
           simp +contextual only [bp,bt,mu,hu,l',e5,f1,kW,↓ak,au,simprocAttr]
           refine eR (D' s pU _ 20 _ (by decide) (by rw [l9])) ?_
           have Dk:pU.contains s=lF s:=rfl
           rw [Dk]
           simp +contextual only [bp,bt,mu,hu,l',e5,↓ak,au,simprocAttr]
           exact (Ext.refl _).new _
     · simp +contextual only [bp,bt,cL,g0,f1,kW,Int.toNat_zero,if_true,if_false,↓ak,au,simprocAttr]
       refine eR (uo _ _ _ _) ?_
       rw [UW]
       simp +contextual only [↓ak,au,simprocAttr]
       exact ⟨rfl,Ext.refl _⟩
     · simp +contextual only [bp,bt,cL,g0,f1,kW,Int.toNat_zero,if_true,if_false,↓ak,au,simprocAttr]
       refine eR (uo _ _ _ _) ?_
       rw [VO]
       simp +contextual only [↓ak,au,simprocAttr]
       exact ⟨rfl,Ext.refl _⟩
theorem Og {s:List UInt8} (h:∀c ∈ s,c.toNat<128):qb s=s.length:=by
 have ar:∀a,a<s.length→ka s a=1:=by
  intro a bm
  have aV:decodeL s a=((s[a]).toNat,1):=by
   unfold decodeL
   rw [Lib.decode_at]
   simp only [IC,List.getElem?_eq_getElem bm,Option.getD_some]
   unfold Lib.decodeN
   rw [if_pos (h _ (List.getElem_mem bm))]
  unfold ka
  rw [aV,if_neg (by
   have:=h _ (List.getElem_mem bm)
   simp only [Prod.mk.injEq,and_true]
   omega)]
 have:∀n a,s.length-a=n→a≤s.length→nE s a=s.length:=by
  intro n
  induction n with
  | zero=>intro a U ad;exact L8 (by omega)
  | succ n bh=>
    intro a U ad
    have aN:a<s.length:=by omega
    rw [Fs aN (by rw [ar a aN];decide),ar a aN]
    exact bh _ (by omega) (by omega)
 exact this s.length 0 (by omega) (by omega)
theorem YX {s:List UInt8} (h:∀c ∈ s,c.toNat<128):iP s=if 65536<s.length then .error (3,0) else nw s 0:=by
 unfold iP
 rw [Og h,if_neg (Nat.lt_irrefl _)]
theorem Y' {c:UInt8} (h:ej c=true):blank c=false∧c≠40:=by
 constructor
 · cases af:blank c with
   | false=>rfl
   | true=>
     unfold blank at af
     simp only [Bool.or_eq_true,decide_eq_true_eq] at af
     rcases af with ((rfl | rfl) | rfl) | rfl<;>exact absurd h (by decide)
 · rintro rfl
   exact absurd h (by decide)
theorem Zz {c:UInt8} (h:c≠40) (r:List UInt8):([40,42]:List UInt8).isPrefixOf (c::r)=false:=by
 have:((40:UInt8) == c)=false:=by rw [beq_eq_false_iff_ne];exact fun q=>h q.symm
 simp [List.isPrefixOf,this]
theorem Ms {c:UInt8} (h:fx c.toNat=true):eh c=false∧c≠34:=by
 unfold fx at h
 simp only [Bool.and_eq_true,decide_eq_true_eq] at h
 refine ⟨?_,by rintro rfl;exact absurd h (by decide)⟩
 unfold eh kb
 simp only [Bool.and_eq_false_iff,decide_eq_false_iff_not]
 omega
theorem T1 {c:UInt8} (h:kf c.toNat=true):eh c=false∧c≠34∧fx c.toNat=false∧c≠95:=by
 unfold kf at h
 simp only [Bool.and_eq_true,decide_eq_true_eq] at h
 refine ⟨?_,by rintro rfl;exact absurd h (by decide),?_,by rintro rfl;exact absurd h (by decide)⟩
 · unfold eh kb
   simp only [Bool.and_eq_false_iff,decide_eq_false_iff_not]
   omega
 · unfold fx
   simp only [Bool.and_eq_false_iff,decide_eq_false_iff_not]
   omega
theorem EC {k:Int} {s:List UInt8} (h:dm k s=true):s≠[]∧s.length≤64∧s.all ej=true∧(if k=3 then (jJ s||s.head? == some 95)&&!decide (s=[95])&&!lF s else if k=4 then vl s else jJ s)=true:=by
 unfold dm at h
 rw [Bool.and_eq_true,Bool.and_eq_true,Bool.and_eq_true,decide_eq_true_eq,decide_eq_true_eq] at h
 exact ⟨h.1.1.1,h.1.1.2,h.1.2,h.2⟩
theorem Zx {c:UInt8} {t:List UInt8} (h:fx c.toNat=true∨c=95):fw (c::t)=hZ 3 (c::t):=by
 have aV:eh c=false:=h.elim (fun q=>(Ms q).1) (fun q=>by rw [q];decide)
 have T8:c≠34:=h.elim (fun q=>(Ms q).2) (fun q=>by rw [q];decide)
 have aQ:(fx c.toNat||decide (c=95))=true:=by simpa using h
 simp only [fw,aV,aQ,if_neg T8,Bool.false_eq_true,if_false,if_true]
theorem Of {c:UInt8} (h:ej c=true):c.toNat<128:=by
 unfold ej pW kb fx kf at h
 simp only [Bool.or_eq_true,Bool.and_eq_true,decide_eq_true_eq] at h
 omega
theorem MP {p:UInt8→Bool}:∀s:List UInt8,s.all p=true→s.takeWhile p=s
 | [],_=>rfl
 | c::s,h=>by
   rw [List.all_cons,Bool.and_eq_true] at h
   rw [List.takeWhile_cons,h.1,if_pos rfl,MP s h.2]
theorem Gx (p:UInt8→Bool):∀s:List UInt8,(s.takeWhile p).all p=true
 | []=>rfl
 | c::s=>by
   rw [List.takeWhile_cons]
   split
   · rename_i h;rw [List.all_cons,h,Gx p s];rfl
   · rfl
theorem EB {k:Int} {c:UInt8} {r:List UInt8} {q:Int × Int × List UInt8 × Nat} (aA:(k=3∧(fx c.toNat=true∨c=95))∨(k=4∧kf c.toNat=true)∨(k=5∧fx c.toNat=true)) (h:hZ k (c::r)=.ok q) (aF:q.1=3∨q.1=4∨q.1=5):
 q.1=k∧dm k q.2.2.1=true:=by
 have ai:ej c=true:=by
  rcases aA with ⟨_,q | q⟩ | ⟨_,q⟩ | ⟨_,q⟩
  · exact FB q
  · exact MT q
  · exact IF q
  · exact FB q
 have aC:(c::r).takeWhile ej=c::r.takeWhile ej:=by rw [List.takeWhile_cons,if_pos ai]
 have bm:=Gx ej (c::r)
 rw [aC] at bm
 unfold hZ at h
 simp only [aC] at h
 generalize r.takeWhile ej=t at *
 split at h
 · cases h;simp at aF
 · rename_i Vx
   split at h
   · cases h;simp at aF
   · rename_i tj
     split at h
     · cases h
     · rename_i hlen
       cases h
       refine ⟨rfl,?_⟩
       have kl:(if k=3 then (jJ (c::t)||(c::t).head? == some 95)&&!decide (c::t=[95])&&!lF (c::t) else if k=4 then vl (c::t) else jJ (c::t))=true:=by
        rcases aA with ⟨rfl,z⟩ | ⟨rfl,z⟩ | ⟨rfl,z⟩
        · rw [if_pos rfl]
          have U:(jJ (c::t)||(c::t).head? == some 95)=true:=by
           rcases z with z | z
           · show (fx c.toNat||_)=true
             rw [z];rfl
           · subst z;simp
          rw [U,decide_eq_false (fun z=>Vx ⟨rfl,z⟩),Bool.eq_false_iff.2 (fun z=>tj ⟨rfl,z⟩)]
          rfl
        · exact z
        · exact z
       show dm k (c::t)=true
       unfold dm
       rw [kl,bm,decide_eq_true (show c::t≠[] by simp),decide_eq_true (show (c::t).length≤64 by omega)]
       rfl
theorem Zs {r:List UInt8} {q:Int × Int × List UInt8 × Nat} (h:fw r=.ok q) (aF:q.1=3∨q.1=4∨q.1=5):dm q.1 q.2.2.1=true:=by
 match r,h with
 | c::r,h=>
   simp only [fw] at h
   split at h
   · unfold tO at h
     simp only at h
     split at h
     · cases h
     · cases h;simp at aF
   · split at h
     · unfold o1 at h
       split at h
       · cases h
       · split at h
         · cases h
         · cases h;simp at aF
     · split at h
       · rename_i aQ
         have:=EB (.inl ⟨rfl,by simpa using aQ⟩) h aF
         rw [this.1];exact this.2
       · split at h
         · rename_i aQ
           have:=EB (.inr (.inl ⟨rfl,aQ⟩)) h aF
           rw [this.1];exact this.2
         · split at h
           · rename_i aQ
             cases a7:hZ 5 r with
             | error e=>rw [a7] at h;cases h
             | ok dK=>
               rw [a7] at h
               cases h
               obtain ⟨d,t,rfl⟩:∃d t,r=d::t:=by
                cases r with
                | nil=>simp [jJ] at aQ
                | cons d t=>exact ⟨d,t,rfl⟩
               have:=EB (.inr (.inr ⟨rfl,aQ.2⟩)) a7 aF
               show dm dK.1 dK.2.2.1=true
               rw [this.1];exact this.2
           · unfold uf at h
             split at h
             · cases h;simp at aF
             · cases h
theorem v_:∀(f:Nat) (r:List UInt8) (p:Nat) (ws:List bS),kq f r p=.ok ws→∀w ∈ ws,w.kind=3∨w.kind=4∨w.kind=5→dm w.kind w.text=true
 | 0,r,p,ws,h,w,hw,_=>by simp only [kq,Except.ok.injEq] at h;subst h;cases hw
 | f+1,[],p,ws,h,w,hw,_=>by simp only [kq,Except.ok.injEq] at h;subst h;cases hw
 | f+1,c::r,p,ws,h,w,hw,aA=>by
   simp only [kq] at h
   split at h
   · exact v_ f _ _ ws h w hw aA
   · split at h
     · split at h
       · cases h
       · exact v_ f _ _ ws h w hw aA
     · split at h
       · cases h
       · rename_i q a7
         cases aG:kq f ((c::r).drop q.2.2.2) (p+q.2.2.2) with
         | error aE=>rw [aG] at h;cases h
         | ok bI=>
           rw [aG] at h
           simp only [u5,Except.ok.injEq] at h
           subst h
           rcases List.mem_cons.1 hw with rfl | hw
           · exact Zs a7 aA
           · exact v_ f _ _ bI aG w hw aA
theorem aaX {k:Int} {s:List UInt8} (aA:k=3∨k=4∨k=5) (h:dm k s=true):iP (if k=5 then 39::s else s)=.ok [⟨k,0,0,s⟩]:=by
 obtain ⟨g1,g2,g3,g4⟩:=EC h
 obtain ⟨c,t,rfl⟩:=List.exists_cons_of_ne_nil g1
 have Us:∀d ∈ (if k=5 then 39::c::t else c::t),d.toNat<128:=by
  intro d aV
  have U:∀d ∈ c::t,d.toNat<128:=fun d aV=>Of (List.all_eq_true.1 g3 d aV)
  split at aV
  · rcases List.mem_cons.1 aV with rfl | aV
    · decide
    · exact U d aV
  · exact U d aV
 rw [YX Us,if_neg (by split<;>simp only [List.length_cons] at g2 ⊢<;>omega)]
 have ai:ej c=true:=by rw [List.all_cons,Bool.and_eq_true] at g3;exact g3.1
 obtain ⟨bL,ca⟩:=Y' ai
 have rd:∀j:Int,(j=3→c::t≠[95]∧lF (c::t)=false)→hZ j (c::t)=.ok (j,0,c::t,(c::t).length):=by
  intro j bH
  unfold hZ
  simp only [MP _ g3]
  rw [if_neg (fun q=>(bH q.1).1 q.2),if_neg (fun q=>by rw [(bH q.1).2] at q;simp at q),if_neg (by omega)]
 have fin:∀(d:UInt8) (u:List UInt8) (q:Int × Int × List UInt8 × Nat),blank d=false→d≠40→fw (d::u)=.ok q→q.2.2.2=(d::u).length→nw (d::u) 0=.ok [⟨q.1,q.2.1,0,q.2.2.1⟩]:=by
  intro d u q aE aM b9 gD
  rw [KC,aE,if_neg Bool.false_ne_true,Zz aM,if_neg Bool.false_ne_true,b9]
  simp only [gD,List.drop_length]
  rfl
 rcases aA with rfl | rfl | rfl
 · rw [if_neg (by decide)]
   rw [if_pos rfl] at g4
   simp only [Bool.and_eq_true,Bool.not_eq_true',decide_eq_false_iff_not,Bool.or_eq_true,beq_iff_eq] at g4
   have a6:fx c.toNat=true∨c=95:=g4.1.1.imp id (fun q=>Option.some.inj q)
   exact fin c t _ bL ca (by rw [Zx a6];exact rd 3 (fun _=>⟨g4.1.2,g4.2⟩)) rfl
 · rw [if_neg (by decide)]
   rw [if_neg (by decide),if_pos rfl] at g4
   have aD:kf c.toNat=true:=g4
   obtain ⟨da,jX,n3,n4⟩:=T1 aD
   refine fin c t (4,0,c::t,(c::t).length) bL ca ?_ rfl
   simp only [fw,da,n3,aD,if_neg jX,Bool.false_eq_true,if_false,if_true,Bool.false_or,decide_eq_true_eq,if_neg n4]
   exact rd 4 (fun q=>absurd q (by decide))
 · rw [if_pos rfl]
   rw [if_neg (by decide),if_neg (by decide)] at g4
   refine fin 39 (c::t) (5,0,c::t,(c::t).length+1) (by decide) (by decide) ?_ rfl
   simp only [fw]
   rw [if_neg (by decide),if_neg (by decide),if_neg (by decide),if_neg (by decide),if_pos ⟨trivial,g4⟩,rd 5 (fun q=>absurd q (by decide))]
   rfl
def o7 (k:Int) (s:List UInt8):Bool:=decide (s.length≤64)&&decide (s≠[])&&(match iP (if k=5 then 39::s else s) with
 | .ok [w]=>decide (w.kind=k)&&decide (w.pos=0)&&decide (w.text≠[])&&decide ((if k=5 then 39::s else s)=(if w.kind=5 then 39::w.text else w.text))
 | _=>false)
theorem acS {k:Int} (aA:k=3∨k=4∨k=5) (s:List UInt8):o7 k s=dm k s:=by
 rw [Bool.eq_iff_iff]
 refine ⟨fun h=>?_,fun h=>?_⟩
 · unfold o7 at h
   simp only [Bool.and_eq_true,decide_eq_true_eq] at h
   obtain ⟨_,aI⟩:=h
   split at aI
   · rename_i w hw
     simp only [Bool.and_eq_true,decide_eq_true_eq] at aI
     obtain ⟨⟨⟨aE,_⟩,_⟩,gD⟩:=aI
     subst aE
     have a7:dm w.kind w.text=true:=by
      generalize (if w.kind=5 then 39::s else s)=z at hw
      unfold iP at hw
      split at hw
      · cases hw
      · split at hw
        · cases hw
        · exact v_ _ _ _ _ hw w (by simp) aA
     have:s=w.text:=by
      split at gD
      · exact (List.cons.inj gD).2
      · exact gD
     rw [this];exact a7
   · cases aI
 · obtain ⟨g1,g2,_,_⟩:=EC h
   unfold o7
   rw [aaX aA h]
   simp [g1,g2]
theorem HH (t:a'):t.deep=hx t.l+1:=by cases t;simp only [a'.deep,a'.l]
theorem size_eq (t:a'):t.size=1+ek t.l:=by cases t;simp only [a'.size,a'.l]
theorem Lq:∀l m:List a',hx (l++m)=max (hx l) (hx m)
 | [],m=>by simp [hx]
 | t::l,m=>by rw [List.cons_append,hx,hx,Lq l m,Nat.max_assoc]
theorem E9:∀l m:List a',ek (l++m)=ek l+ek m
 | [],m=>by simp [ek]
 | t::l,m=>by rw [List.cons_append,ek,ek,E9 l m,Nat.add_assoc]
theorem take_one {l:List a'} {i:Nat} (h:i<l.length):l.take (i+1)=l.take i++[l[i]]:=by rw [List.take_succ_eq_append_getElem h]
theorem Lr {l:List a'} {i:Nat} (h:i<l.length):hx (l.take (i+1))=max (hx (l.take i)) l[i].deep:=by rw [take_one h,Lq,hx,hx,Nat.max_zero]
theorem aaA {l:List a'} {i:Nat} (h:i<l.length):ek (l.take (i+1))=ek (l.take i)+l[i].size:=by rw [take_one h,E9,ek,ek,Nat.add_zero]
mutual
theorem Sz:∀t:a',t.deep≤t.size
 | .mk k n a s l=>by rw [a'.deep,a'.size];have:=wF l;omega
theorem wF:∀l:List a',hx l≤ek l
 | []=>Nat.le_refl _
 | t::l=>by rw [hx,ek];have:=Sz t;have:=wF l;omega
end
theorem zF (l:List a') (i:Nat):ek (l.take i)≤ek l:=by
 have:=E9 (l.take i) (l.drop i)
 rw [List.take_append_drop] at this
 omega
theorem KQ (a b:Nat):(if (a:Int) < (b:Int) then (b:Int) else (a:Int))=((max a b:Nat):Int):=by
 by_cases h:(a:Int) < (b:Int)
 · rw [if_pos h,Nat.max_eq_right (by omega)]
 · rw [if_neg h,Nat.max_eq_left (by omega)]
set_option maxHeartbeats 1000000 in
theorem Cd:∀(N:Nat) (t:a'),t.size≤N→N≤1000000000→∀(ab:List V) (h:ae),ct Any h t.enc ab→bF Tryz.prog 13 [.agg ab] h fun x aa=>x=.int .i64 (t.deep:Nat)∧Ext h aa
 | 0,t,aQ,_,_,_,_=>by have:=rV t;omega
 | N+1,t,aQ,yp,ab,h,H=>by
   obtain ⟨dI,rfl,L,_⟩:=a'.open H
   have bw:N≤1000000000:=by omega
   have ol:=L.one
   have ai:=L.len
   have hle:=L.le
   rw [List.length_map] at ai hle
   refine PJ rfl (db ?_)
   unfold Bw
   obtain ⟨U,aj,aE,ee⟩:=iB h [.int .i64 t.k,.int .i64 t.n,.int .i64 t.a,.str t.s,dI]
   simp +contextual only [ol.1,ol.2.1,aj,ee.g,ai,↓ak,au,simprocAttr]
   refine gu (fun r g=>r 1=.ptr (aH h.next) 0∧r 7=dI∧r 8=.int .i64 t.l.length∧∃i:Nat,r 3=.int .i64 (hx (t.l.take i):Nat)∧r 9=.int .i64 i∧i≤t.l.length∧Ext U g) (fun r g=>t.l.length - (r 9).toN) ?_ ?_
   · exact ⟨by simp only [↓ak,c1,simprocAttr],by simp only [↓ak,c1,simprocAttr],by simp only [↓ak,c1,simprocAttr],0,by simp only [↓ak,c1,simprocAttr]<;>rfl,by simp only [↓ak,c1,simprocAttr]<;>rfl,by omega,Ext.refl U⟩
   rintro r g ⟨bt,gU,fj,i,bQ,mJ,aB,E⟩
   unfold G'
   have A:=ee.ext E
   have gX:=L.ext (aE.trans E)
   have gP:=zF t.l i
   have jH:=wF (t.l.take i)
   have IY:=size_eq t
   by_cases aN:i<t.l.length
   · have g0:((i:Int) < (t.l.length:Int))=True:=eq_true (by omega)
     obtain ⟨b,off,wl,c4,X,gB,ld⟩:=a'.nu gX (k:=.i64) aN
     have jn:=ld g (Ext.refl g)
     have gx:=gB.one
     have eG:=j1 aN (by unfold top at hle;omega)
     have bZ:=rU (t:=t) (List.getElem_mem aN)
     obtain ⟨g1,ed,bu,B⟩:=j' g [.int .i64 0,.int .i64 0,.int .i64 0,.str [],.cq] [.int .i64 t.l[i].k,.int .i64 t.l[i].n,.int .i64 t.l[i].a,.str t.l[i].s,wl]
     simp +contextual only [bt,bQ,gU,fj,mJ,g0,c4,jn,ed,B.g,gx.1,gx.2.1,↓ak,au,simprocAttr]
     refine bT (Cd N t.l[i] (by omega) bw _ g1 (X.ext bu)) ?_
     rintro x g2 ⟨rfl,aM⟩
     have b9:=bu.trans aM
     have hm:=KQ (hx (t.l.take i)) t.l[i].deep
     rw [←Lr aN] at hm
     simp +contextual only [bt,bQ,gU,fj,mJ,eG,EA,hm,↓ak,au,simprocAttr]
     exact ⟨⟨i+1,rfl,rfl,aN,E.trans b9⟩,by omega⟩
   · have g0:((i:Int) < (t.l.length:Int))=False:=eq_false (by omega)
     rw [List.take_of_length_le (by omega)] at bQ jH gP
     have wd:IntKind.i64.wrap ((hx t.l:Int)+1)=((t.deep:Nat):Int):=by rw [HH,wrap_i64 (by omega) (by omega)];rfl
     simp +contextual only [bt,bQ,gU,fj,mJ,g0,wd,↓ak,au,simprocAttr]
     exact aE.trans E
set_option maxHeartbeats 1000000 in
theorem Ff:∀(N:Nat) (t:a'),t.size≤N→N≤1000000000→∀(ab:List V) (h:ae),ct Any h t.enc ab→bF Tryz.prog 14 [.agg ab] h fun x aa=>x=.int .i64 (t.deep:Nat)∧Ext h aa
 | 0,t,aQ,_,_,_,_=>by have:=rV t;omega
 | N+1,t,aQ,yp,ab,h,H=>by
   obtain ⟨dI,rfl,L,_⟩:=a'.open H
   have bw:N≤1000000000:=by omega
   have ol:=L.one
   have ai:=L.len
   have hle:=L.le
   rw [List.length_map] at ai hle
   refine PM rfl (db ?_)
   unfold Bx
   obtain ⟨U,aj,aE,ee⟩:=iB h [.int .i64 t.k,.int .i64 t.n,.int .i64 t.a,.str t.s,dI]
   simp +contextual only [ol.1,ol.2.1,aj,ee.g,ai,↓ak,au,simprocAttr]
   refine gu (fun r g=>r 1=.ptr (aH h.next) 0∧∃i:Nat,r 3=.int .i64 (hx (t.l.take i):Nat)∧r 4=.int .i64 i∧i≤t.l.length∧Ext U g) (fun r g=>t.l.length - (r 4).toN) ?_ ?_
   · exact ⟨by simp only [↓ak,c1,simprocAttr],0,by simp only [↓ak,c1,simprocAttr]<;>rfl,by simp only [↓ak,c1,simprocAttr]<;>rfl,by omega,Ext.refl U⟩
   rintro r g ⟨bt,i,bQ,mJ,aB,E⟩
   unfold G_
   have A:=ee.ext E
   have gX:=L.ext (aE.trans E)
   have gP:=zF t.l i
   have jH:=wF (t.l.take i)
   have IY:=size_eq t
   by_cases aN:i<t.l.length
   · have g0:((i:Int) < (t.l.length:Int))=True:=eq_true (by omega)
     obtain ⟨b,off,wl,c4,X,gB,ld⟩:=a'.nu gX (k:=.i64) aN
     have jn:=ld g (Ext.refl g)
     have gx:=gB.one
     have eG:=j1 aN (by unfold top at hle;omega)
     have bZ:=rU (t:=t) (List.getElem_mem aN)
     simp +contextual only [bt,bQ,mJ,g0,A.g,ai,c4,jn,↓ak,au,simprocAttr]
     refine bT (Ff N t.l[i] (by omega) bw _ g X) ?_
     rintro x g2 ⟨rfl,aM⟩
     have b9:=aM
     have hm:=KQ (hx (t.l.take i)) t.l[i].deep
     rw [←Lr aN] at hm
     simp +contextual only [bt,bQ,mJ,eG,EA,hm,↓ak,au,simprocAttr]
     exact ⟨⟨i+1,rfl,rfl,aN,E.trans b9⟩,by omega⟩
   · have g0:((i:Int) < (t.l.length:Int))=False:=eq_false (by omega)
     rw [List.take_of_length_le (by omega)] at bQ jH gP
     have wd:IntKind.i64.wrap ((hx t.l:Int)+1)=((t.deep:Nat):Int):=by rw [HH,wrap_i64 (by omega) (by omega)];rfl
     simp +contextual only [bt,bQ,A.g,ai,mJ,g0,wd,↓ak,au,simprocAttr]
     exact aE.trans E
set_option maxHeartbeats 1000000 in
theorem Ma:∀(N:Nat) (t:a'),t.size≤N→N≤1000000000→∀(ab:List V) (h:ae),ct Any h t.enc ab→bF Tryz.prog 16 [.agg ab] h fun x aa=>x=.int .i64 (t.size:Nat)∧Ext h aa
 | 0,t,aQ,_,_,_,_=>by have:=rV t;omega
 | N+1,t,aQ,yp,ab,h,H=>by
   obtain ⟨dI,rfl,L,_⟩:=a'.open H
   have bw:N≤1000000000:=by omega
   have ol:=L.one
   have ai:=L.len
   have hle:=L.le
   rw [List.length_map] at ai hle
   refine PT rfl (db ?_)
   unfold BB
   obtain ⟨U,aj,aE,ee⟩:=iB h [.int .i64 t.k,.int .i64 t.n,.int .i64 t.a,.str t.s,dI]
   simp +contextual only [ol.1,ol.2.1,aj,ee.g,ai,↓ak,au,simprocAttr]
   refine gu (fun r g=>r 1=.ptr (aH h.next) 0∧∃i:Nat,r 3=.int .i64 (1+ek (t.l.take i):Nat)∧r 4=.int .i64 i∧i≤t.l.length∧Ext U g) (fun r g=>t.l.length - (r 4).toN) ?_ ?_
   · exact ⟨by simp only [↓ak,c1,simprocAttr],0,by simp only [↓ak,c1,simprocAttr]<;>rfl,by simp only [↓ak,c1,simprocAttr]<;>rfl,by omega,Ext.refl U⟩
   rintro r g ⟨bt,i,bQ,mJ,aB,E⟩
   unfold Ha
   have A:=ee.ext E
   have gX:=L.ext (aE.trans E)
   have gP:=zF t.l i
   have jH:=wF (t.l.take i)
   have IY:=size_eq t
   by_cases aN:i<t.l.length
   · have g0:((i:Int) < (t.l.length:Int))=True:=eq_true (by omega)
     obtain ⟨b,off,wl,c4,X,gB,ld⟩:=a'.nu gX (k:=.i64) aN
     have jn:=ld g (Ext.refl g)
     have gx:=gB.one
     have eG:=j1 aN (by unfold top at hle;omega)
     have bZ:=rU (t:=t) (List.getElem_mem aN)
     simp +contextual only [bt,bQ,mJ,g0,A.g,ai,c4,jn,↓ak,au,simprocAttr]
     refine bT (Ma N t.l[i] (by omega) bw _ g X) ?_
     rintro x g2 ⟨rfl,aM⟩
     have b9:=aM
     have bm:IntKind.i64.wrap (((1+ek (t.l.take i):Nat):Int) + (t.l[i].size:Int))=((1+ek (t.l.take (i+1)):Nat):Int):=by
      have:=aaA aN
      have:=zF t.l (i+1)
      rw [wrap_i64 (by omega) (by omega)];omega
     simp +contextual only [bt,bQ,mJ,eG,bm,↓ak,au,simprocAttr]
     exact ⟨⟨i+1,rfl,rfl,aN,E.trans b9⟩,by omega⟩
   · have g0:((i:Int) < (t.l.length:Int))=False:=eq_false (by omega)
     rw [List.take_of_length_le (by omega)] at bQ jH gP
     simp +contextual only [bt,bQ,A.g,ai,mJ,g0,↓ak,au,simprocAttr]
     exact ⟨by rw [size_eq],aE.trans E⟩
end Go.Proofs.YtkehcalakofigaaGreatDoor
