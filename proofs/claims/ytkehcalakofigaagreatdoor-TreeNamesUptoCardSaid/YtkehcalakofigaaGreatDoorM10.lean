/- The chapter's functions, walked by the abstract machine: plain lemmas, no condition. Printed by a program from longer texts: names made short. -/
import Derived.Test.YtkehcalakofigaaGreatDoorM8
import Derived.Test.YtkehcalakofigaaGreatDoorM9
import Derived.Test.YtkehcalakofigaaGreatDoorM6
import Derived.Shelf.Unicode.Decode
import Derived.Shelf.Unicode.DecodeSlow
import Derived.Shelf.Unicode.DecodeAny
import Derived.Shelf.Strconv.Atoi
import Derived.Shelf.Pu.ParseUintPublic10
import Derived.Lib.LaidU8T
import Derived.Test.YtkehcalakofigaaGreatDoorM7
set_option linter.unusedSectionVars false
set_option linter.unusedSimpArgs false
set_option linter.unusedVariables false
namespace Go.Proofs.YtkehcalakofigaaGreatDoor
open Go aS
theorem Zx:Extern.findNext Tryz.f114=none:=by kernel_rfl
theorem Zw:(Extern.find Tryz.f114)=some Extern.BytealgIndexByte.indexByte:=by kernel_rfl
theorem acH (s:List UInt8) (c:Int) (h:af):eM Tryz.prog 114 [.str s,.int .u8 c] h (.int .i64 (Lib.indexByte s c.toNat.toUInt8)) h:=
 acK (by decide) Tryz.func114 (by kernel_rfl) (by kernel_rfl) Zx Zw s c h
theorem acG (s:List UInt8) (c:Int) (h:af):eM Tryz.prog 103 [.str s,.int .u8 c] h (.int .i64 (Lib.indexByte s c.toNat.toUInt8)) h:=by
 refine mF (UI rfl (cR ?_))
 unfold EF
 simp +contextual only [↓ah,ao,simprocAttr]
 refine fj (acH _ _ _) ?_
 simp +contextual only [↓ah,ao,simprocAttr]
theorem Ou (s:List UInt8) (c:Int) (h:af):eM Tryz.prog 92 [.str s,.int .u8 c] h (.int .i64 (Lib.indexByte s c.toNat.toUInt8)) h:=by
 refine mF (XM rfl (cR ?_))
 unfold FA
 simp +contextual only [↓ah,ao,simprocAttr]
 refine fj (acG _ _ _) ?_
 simp +contextual only [↓ah,ao,simprocAttr]
end Go.Proofs.YtkehcalakofigaaGreatDoor
namespace Go.Proofs.YtkehcalakofigaaGreatDoor
open Go Go.Shelf
def Tryz.ae5:Go.Shelf.Ren:=⟨fun | 197=>102 | 260=>113 | n=>n,fun | 9=>9 | 21=>21 | 3=>3 | 4=>4 | 5=>5 | 105=>128 | 119=>141 | 0=>0 | 46=>80 | 139=>144 | 138=>143 | n=>n,fun | 3=>0 | 4=>1 | n=>n⟩
theorem Tryz.ae4:Go.Proofs.Lays.n197 Tryz.prog Tryz.ae5:={
 mixed:=by kernel_rfl,
 f197:=Tryz.func102.trans (congrArg some (by kernel_rfl)),
 f260:=Tryz.func113.trans (congrArg some (by kernel_rfl)),
 t0:=Tryz.underlying0,
 a0:=Tryz.isAgg0,
 z0:=Tryz.sizeOf0,
 v0:=Tryz.zeroValue0,
 t3:=Tryz.underlying3,
 a3:=Tryz.isAgg3,
 z3:=Tryz.sizeOf3,
 v3:=Tryz.zeroValue3,
 t4:=Tryz.underlying4,
 a4:=Tryz.isAgg4,
 z4:=Tryz.sizeOf4,
 v4:=Tryz.zeroValue4,
 t5:=Tryz.underlying5,
 a5:=Tryz.isAgg5,
 z5:=Tryz.sizeOf5,
 v5:=Tryz.zeroValue5,
 t9:=Tryz.underlying9,
 a9:=Tryz.isAgg9,
 z9:=Tryz.sizeOf9,
 v9:=Tryz.zeroValue9,
 t21:=Tryz.underlying21,
 a21:=Tryz.isAgg21,
 z21:=Tryz.sizeOf21,
 v21:=Tryz.zeroValue21,
 t46:=Tryz.underlying80,
 a46:=Tryz.isAgg80,
 z46:=Tryz.sizeOf80,
 v46:=Tryz.zeroValue80,
 t105:=Tryz.underlying128,
 a105:=Tryz.isAgg128,
 z105:=Tryz.sizeOf128,
 v105:=Tryz.zeroValue128,
 t119:=Tryz.underlying141,
 a119:=Tryz.isAgg141,
 z119:=Tryz.sizeOf141,
 t138:=Tryz.underlying143,
 a138:=Tryz.isAgg143,
 z138:=Tryz.sizeOf143,
 v138:=Tryz.zeroValue143,
 t139:=Tryz.underlying144,
 a139:=Tryz.isAgg144,
 z139:=Tryz.sizeOf144,
 v139:=Tryz.zeroValue144,
 g3:=by kernel_rfl,
 g4:=by kernel_rfl}
def Tryz.ae3:Go.Shelf.Ren:=⟨fun | 172=>123 | 244=>131 | 245=>122 | 247=>136 | 279=>127 | 280=>128 | 281=>129 | 282=>130 | 287=>121 | 316=>133 | 171=>135 | 205=>134 | 321=>125 | 322=>126 | 243=>140 | 246=>142 | 283=>143 | 284=>144 | 285=>145 | 286=>146 | 129=>90 | 317=>147 | 318=>148 | 319=>149 | 320=>150 | 337=>151 | 338=>152 | n=>n,fun | 9=>9 | 3=>3 | 75=>135 | 76=>146 | 4=>4 | 5=>5 | 167=>149 | 37=>139 | 0=>0 | 85=>159 | 2=>2 | 168=>151 | 53=>100 | 175=>136 | 46=>80 | 210=>156 | 127=>161 | 145=>164 | 143=>162 | 21=>21 | 171=>167 | 173=>169 | 212=>172 | 51=>97 | 20=>20 | 213=>173 | 232=>175 | 233=>176 | 80=>177 | n=>n,fun | 15=>3 | 16=>4 | 17=>5 | 18=>6 | 19=>7 | n=>n⟩
theorem Tryz.ae2:Go.Proofs.Lays.n172 Tryz.prog Tryz.ae3:={
 mixed:=by kernel_rfl,
 f129:=Tryz.func90.trans (congrArg some (by kernel_rfl)),
 f171:=Tryz.func135.trans (congrArg some (by kernel_rfl)),
 f172:=Tryz.func123.trans (congrArg some (by kernel_rfl)),
 f205:=Tryz.func134.trans (congrArg some (by kernel_rfl)),
 f243:=Tryz.func140.trans (congrArg some (by kernel_rfl)),
 f244:=Tryz.func131.trans (congrArg some (by kernel_rfl)),
 f245:=Tryz.func122.trans (congrArg some (by kernel_rfl)),
 f246:=Tryz.func142.trans (congrArg some (by kernel_rfl)),
 f247:=Tryz.func136.trans (congrArg some (by kernel_rfl)),
 f279:=Tryz.func127.trans (congrArg some (by kernel_rfl)),
 f280:=Tryz.func128.trans (congrArg some (by kernel_rfl)),
 f281:=Tryz.func129.trans (congrArg some (by kernel_rfl)),
 f282:=Tryz.func130.trans (congrArg some (by kernel_rfl)),
 f283:=Tryz.func143.trans (congrArg some (by kernel_rfl)),
 f284:=Tryz.func144.trans (congrArg some (by kernel_rfl)),
 f285:=Tryz.func145.trans (congrArg some (by kernel_rfl)),
 f286:=Tryz.func146.trans (congrArg some (by kernel_rfl)),
 f287:=Tryz.func121.trans (congrArg some (by kernel_rfl)),
 f316:=Tryz.func133.trans (congrArg some (by kernel_rfl)),
 f317:=Tryz.func147.trans (congrArg some (by kernel_rfl)),
 f318:=Tryz.func148.trans (congrArg some (by kernel_rfl)),
 f319:=Tryz.func149.trans (congrArg some (by kernel_rfl)),
 f320:=Tryz.func150.trans (congrArg some (by kernel_rfl)),
 f321:=Tryz.func125.trans (congrArg some (by kernel_rfl)),
 f322:=Tryz.func126.trans (congrArg some (by kernel_rfl)),
 f337:=Tryz.func151.trans (congrArg some (by kernel_rfl)),
 f338:=Tryz.func152.trans (congrArg some (by kernel_rfl)),
 t0:=Tryz.underlying0,
 a0:=Tryz.isAgg0,
 z0:=Tryz.sizeOf0,
 v0:=Tryz.zeroValue0,
 t2:=Tryz.underlying2,
 a2:=Tryz.isAgg2,
 z2:=Tryz.sizeOf2,
 v2:=Tryz.zeroValue2,
 t3:=Tryz.underlying3,
 a3:=Tryz.isAgg3,
 z3:=Tryz.sizeOf3,
 v3:=Tryz.zeroValue3,
 t4:=Tryz.underlying4,
 a4:=Tryz.isAgg4,
 z4:=Tryz.sizeOf4,
 v4:=Tryz.zeroValue4,
 t5:=Tryz.underlying5,
 a5:=Tryz.isAgg5,
 z5:=Tryz.sizeOf5,
 v5:=Tryz.zeroValue5,
 t9:=Tryz.underlying9,
 a9:=Tryz.isAgg9,
 z9:=Tryz.sizeOf9,
 v9:=Tryz.zeroValue9,
 t20:=Tryz.underlying20,
 a20:=Tryz.isAgg20,
 z20:=Tryz.sizeOf20,
 v20:=Tryz.zeroValue20,
 t21:=Tryz.underlying21,
 a21:=Tryz.isAgg21,
 z21:=Tryz.sizeOf21,
 v21:=Tryz.zeroValue21,
 t37:=Tryz.underlying139,
 a37:=Tryz.isAgg139,
 z37:=Tryz.sizeOf139,
 v37:=Tryz.zeroValue139,
 t46:=Tryz.underlying80,
 a46:=Tryz.isAgg80,
 z46:=Tryz.sizeOf80,
 v46:=Tryz.zeroValue80,
 t51:=Tryz.underlying97,
 a51:=Tryz.isAgg97,
 z51:=Tryz.sizeOf97,
 v51:=Tryz.zeroValue97,
 t53:=Tryz.underlying100,
 a53:=Tryz.isAgg100,
 z53:=Tryz.sizeOf100,
 v53:=Tryz.zeroValue100,
 t75:=Tryz.underlying135,
 a75:=Tryz.isAgg135,
 z75:=Tryz.sizeOf135,
 v75:=Tryz.zeroValue135,
 t76:=Tryz.underlying146,
 a76:=Tryz.isAgg146,
 z76:=Tryz.sizeOf146,
 v76:=Tryz.zeroValue146,
 t85:=Tryz.underlying159,
 a85:=Tryz.isAgg159,
 z85:=Tryz.sizeOf159,
 v85:=Tryz.zeroValue159,
 t127:=Tryz.underlying161,
 a127:=Tryz.isAgg161,
 z127:=Tryz.sizeOf161,
 v127:=Tryz.zeroValue161,
 t143:=Tryz.underlying162,
 a143:=Tryz.isAgg162,
 z143:=Tryz.sizeOf162,
 v143:=Tryz.zeroValue162,
 t145:=Tryz.underlying164,
 a145:=Tryz.isAgg164,
 z145:=Tryz.sizeOf164,
 v145:=Tryz.zeroValue164,
 t167:=Tryz.underlying149,
 a167:=Tryz.isAgg149,
 z167:=Tryz.sizeOf149,
 v167:=Tryz.zeroValue149,
 t168:=Tryz.underlying151,
 a168:=Tryz.isAgg151,
 z168:=Tryz.sizeOf151,
 v168:=Tryz.zeroValue151,
 t171:=Tryz.underlying167,
 a171:=Tryz.isAgg167,
 z171:=Tryz.sizeOf167,
 v171:=Tryz.zeroValue167,
 t173:=Tryz.underlying169,
 a173:=Tryz.isAgg169,
 z173:=Tryz.sizeOf169,
 v173:=Tryz.zeroValue169,
 t175:=Tryz.underlying136,
 a175:=Tryz.isAgg136,
 z175:=Tryz.sizeOf136,
 v175:=Tryz.zeroValue136,
 t210:=Tryz.underlying156,
 a210:=Tryz.isAgg156,
 z210:=Tryz.sizeOf156,
 v210:=Tryz.zeroValue156,
 t212:=Tryz.underlying172,
 a212:=Tryz.isAgg172,
 z212:=Tryz.sizeOf172,
 v212:=Tryz.zeroValue172,
 t213:=Tryz.underlying173,
 a213:=Tryz.isAgg173,
 z213:=Tryz.sizeOf173,
 t232:=Tryz.underlying175,
 a232:=Tryz.isAgg175,
 z232:=Tryz.sizeOf175,
 v232:=Tryz.zeroValue175,
 t233:=Tryz.underlying176,
 a233:=Tryz.isAgg176,
 z233:=Tryz.sizeOf176,
 v233:=Tryz.zeroValue176,
 g15:=by kernel_rfl,
 g16:=by kernel_rfl,
 g17:=by kernel_rfl,
 g18:=by kernel_rfl,
 g19:=by kernel_rfl}
def Tryz.Ib:Go.Shelf.Ren:=⟨fun | 14=>116 | 16=>121 | 17=>122 | 19=>125 | 20=>126 | 21=>127 | 22=>128 | 23=>129 | 24=>130 | 25=>133 | 27=>135 | 26=>134 | 28=>140 | 29=>142 | 30=>143 | 31=>144 | 32=>145 | 33=>146 | 35=>90 | 34=>147 | 36=>148 | 37=>149 | 38=>150 | 39=>151 | 40=>152 | n=>n,fun | 9=>9 | 3=>3 | 22=>100 | 24=>135 | 25=>136 | 4=>4 | 34=>149 | 5=>5 | 36=>80 | 37=>139 | 0=>0 | 39=>151 | 21=>21 | 44=>156 | 47=>161 | 50=>164 | 48=>162 | 2=>2 | 52=>167 | 55=>169 | 59=>172 | 60=>97 | 20=>20 | 61=>173 | 65=>175 | 66=>176 | 67=>177 | n=>n,fun | 0=>3 | 1=>4 | 2=>5 | 3=>6 | 4=>7 | n=>n⟩
theorem Tryz.OP:Go.Proofs.LaysPu.n14 Tryz.prog Tryz.Ib:={
 mixed:=by kernel_rfl,
 f14:=Tryz.func116.trans (congrArg some (by kernel_rfl)),
 f16:=Tryz.func121.trans (congrArg some (by kernel_rfl)),
 f17:=Tryz.func122.trans (congrArg some (by kernel_rfl)),
 f19:=Tryz.func125.trans (congrArg some (by kernel_rfl)),
 f20:=Tryz.func126.trans (congrArg some (by kernel_rfl)),
 f21:=Tryz.func127.trans (congrArg some (by kernel_rfl)),
 f22:=Tryz.func128.trans (congrArg some (by kernel_rfl)),
 f23:=Tryz.func129.trans (congrArg some (by kernel_rfl)),
 f24:=Tryz.func130.trans (congrArg some (by kernel_rfl)),
 f25:=Tryz.func133.trans (congrArg some (by kernel_rfl)),
 f26:=Tryz.func134.trans (congrArg some (by kernel_rfl)),
 f27:=Tryz.func135.trans (congrArg some (by kernel_rfl)),
 f28:=Tryz.func140.trans (congrArg some (by kernel_rfl)),
 f29:=Tryz.func142.trans (congrArg some (by kernel_rfl)),
 f30:=Tryz.func143.trans (congrArg some (by kernel_rfl)),
 f31:=Tryz.func144.trans (congrArg some (by kernel_rfl)),
 f32:=Tryz.func145.trans (congrArg some (by kernel_rfl)),
 f33:=Tryz.func146.trans (congrArg some (by kernel_rfl)),
 f34:=Tryz.func147.trans (congrArg some (by kernel_rfl)),
 f35:=Tryz.func90.trans (congrArg some (by kernel_rfl)),
 f36:=Tryz.func148.trans (congrArg some (by kernel_rfl)),
 f37:=Tryz.func149.trans (congrArg some (by kernel_rfl)),
 f38:=Tryz.func150.trans (congrArg some (by kernel_rfl)),
 f39:=Tryz.func151.trans (congrArg some (by kernel_rfl)),
 f40:=Tryz.func152.trans (congrArg some (by kernel_rfl)),
 t0:=Tryz.underlying0,
 a0:=Tryz.isAgg0,
 z0:=Tryz.sizeOf0,
 v0:=Tryz.zeroValue0,
 i0:=by kernel_rfl,
 t2:=Tryz.underlying2,
 a2:=Tryz.isAgg2,
 z2:=Tryz.sizeOf2,
 v2:=Tryz.zeroValue2,
 i2:=by kernel_rfl,
 t3:=Tryz.underlying3,
 a3:=Tryz.isAgg3,
 z3:=Tryz.sizeOf3,
 v3:=Tryz.zeroValue3,
 i3:=by kernel_rfl,
 t4:=Tryz.underlying4,
 a4:=Tryz.isAgg4,
 z4:=Tryz.sizeOf4,
 v4:=Tryz.zeroValue4,
 i4:=by kernel_rfl,
 t5:=Tryz.underlying5,
 a5:=Tryz.isAgg5,
 z5:=Tryz.sizeOf5,
 v5:=Tryz.zeroValue5,
 i5:=by kernel_rfl,
 t9:=Tryz.underlying9,
 a9:=Tryz.isAgg9,
 z9:=Tryz.sizeOf9,
 v9:=Tryz.zeroValue9,
 i9:=by kernel_rfl,
 t20:=Tryz.underlying20,
 a20:=Tryz.isAgg20,
 z20:=Tryz.sizeOf20,
 v20:=Tryz.zeroValue20,
 i20:=by kernel_rfl,
 t21:=Tryz.underlying21,
 a21:=Tryz.isAgg21,
 z21:=Tryz.sizeOf21,
 v21:=Tryz.zeroValue21,
 i21:=by kernel_rfl,
 t22:=Tryz.underlying100,
 a22:=Tryz.isAgg100,
 z22:=Tryz.sizeOf100,
 v22:=Tryz.zeroValue100,
 i22:=by kernel_rfl,
 t24:=Tryz.underlying135,
 a24:=Tryz.isAgg135,
 z24:=Tryz.sizeOf135,
 v24:=Tryz.zeroValue135,
 i24:=by kernel_rfl,
 t25:=Tryz.underlying136,
 a25:=Tryz.isAgg136,
 z25:=Tryz.sizeOf136,
 v25:=Tryz.zeroValue136,
 i25:=by kernel_rfl,
 t34:=Tryz.underlying149,
 a34:=Tryz.isAgg149,
 z34:=Tryz.sizeOf149,
 v34:=Tryz.zeroValue149,
 i34:=by kernel_rfl,
 c34:=by kernel_rfl,
 t36:=Tryz.underlying80,
 a36:=Tryz.isAgg80,
 z36:=Tryz.sizeOf80,
 v36:=Tryz.zeroValue80,
 i36:=by kernel_rfl,
 t37:=Tryz.underlying139,
 a37:=Tryz.isAgg139,
 z37:=Tryz.sizeOf139,
 v37:=Tryz.zeroValue139,
 i37:=by kernel_rfl,
 t39:=Tryz.underlying151,
 a39:=Tryz.isAgg151,
 z39:=Tryz.sizeOf151,
 v39:=Tryz.zeroValue151,
 i39:=by kernel_rfl,
 t44:=Tryz.underlying156,
 a44:=Tryz.isAgg156,
 z44:=Tryz.sizeOf156,
 v44:=Tryz.zeroValue156,
 i44:=by kernel_rfl,
 t47:=Tryz.underlying161,
 a47:=Tryz.isAgg161,
 z47:=Tryz.sizeOf161,
 v47:=Tryz.zeroValue161,
 i47:=by kernel_rfl,
 t48:=Tryz.underlying162,
 a48:=Tryz.isAgg162,
 z48:=Tryz.sizeOf162,
 v48:=Tryz.zeroValue162,
 i48:=by kernel_rfl,
 t50:=Tryz.underlying164,
 a50:=Tryz.isAgg164,
 z50:=Tryz.sizeOf164,
 v50:=Tryz.zeroValue164,
 i50:=by kernel_rfl,
 t52:=Tryz.underlying167,
 a52:=Tryz.isAgg167,
 z52:=Tryz.sizeOf167,
 v52:=Tryz.zeroValue167,
 i52:=by kernel_rfl,
 t55:=Tryz.underlying169,
 a55:=Tryz.isAgg169,
 z55:=Tryz.sizeOf169,
 v55:=Tryz.zeroValue169,
 i55:=by kernel_rfl,
 t59:=Tryz.underlying172,
 a59:=Tryz.isAgg172,
 z59:=Tryz.sizeOf172,
 v59:=Tryz.zeroValue172,
 i59:=by kernel_rfl,
 t60:=Tryz.underlying97,
 a60:=Tryz.isAgg97,
 z60:=Tryz.sizeOf97,
 v60:=Tryz.zeroValue97,
 i60:=by kernel_rfl,
 t61:=Tryz.underlying173,
 a61:=Tryz.isAgg173,
 z61:=Tryz.sizeOf173,
 t65:=Tryz.underlying175,
 a65:=Tryz.isAgg175,
 z65:=Tryz.sizeOf175,
 v65:=Tryz.zeroValue175,
 i65:=by kernel_rfl,
 t66:=Tryz.underlying176,
 a66:=Tryz.isAgg176,
 z66:=Tryz.sizeOf176,
 v66:=Tryz.zeroValue176,
 i66:=by kernel_rfl,
 t67:=Tryz.underlying177,
 a67:=Tryz.isAgg177,
 z67:=Tryz.sizeOf177,
 v67:=Tryz.zeroValue177,
 i67:=by kernel_rfl,
 g0:=by kernel_rfl,
 m0:=by kernel_rfl,
 g1:=by kernel_rfl,
 m1:=by kernel_rfl,
 g2:=by kernel_rfl,
 m2:=by kernel_rfl,
 g3:=by kernel_rfl,
 m3:=by kernel_rfl,
 g4:=by kernel_rfl,
 m4:=by kernel_rfl}
def Tryz.yW:Go.Shelf.Ren:=⟨fun | 260=>113 | n=>n,fun | 9=>9 | 21=>21 | 3=>3 | 4=>4 | 5=>5 | 119=>141 | 0=>0 | 46=>80 | 139=>144 | 138=>143 | n=>n,fun | 3=>0 | 4=>1 | n=>n⟩
theorem Tryz.ae6:Go.Proofs.Lays.n260 Tryz.prog Tryz.yW:={
 mixed:=by kernel_rfl,
 f260:=Tryz.func113.trans (congrArg some (by kernel_rfl)),
 t0:=Tryz.underlying0,
 a0:=Tryz.isAgg0,
 z0:=Tryz.sizeOf0,
 v0:=Tryz.zeroValue0,
 t3:=Tryz.underlying3,
 a3:=Tryz.isAgg3,
 z3:=Tryz.sizeOf3,
 v3:=Tryz.zeroValue3,
 t4:=Tryz.underlying4,
 a4:=Tryz.isAgg4,
 z4:=Tryz.sizeOf4,
 v4:=Tryz.zeroValue4,
 t5:=Tryz.underlying5,
 a5:=Tryz.isAgg5,
 z5:=Tryz.sizeOf5,
 v5:=Tryz.zeroValue5,
 t9:=Tryz.underlying9,
 a9:=Tryz.isAgg9,
 z9:=Tryz.sizeOf9,
 v9:=Tryz.zeroValue9,
 t21:=Tryz.underlying21,
 a21:=Tryz.isAgg21,
 z21:=Tryz.sizeOf21,
 v21:=Tryz.zeroValue21,
 t46:=Tryz.underlying80,
 a46:=Tryz.isAgg80,
 z46:=Tryz.sizeOf80,
 v46:=Tryz.zeroValue80,
 t119:=Tryz.underlying141,
 a119:=Tryz.isAgg141,
 z119:=Tryz.sizeOf141,
 t138:=Tryz.underlying143,
 a138:=Tryz.isAgg143,
 z138:=Tryz.sizeOf143,
 v138:=Tryz.zeroValue143,
 t139:=Tryz.underlying144,
 a139:=Tryz.isAgg144,
 z139:=Tryz.sizeOf144,
 v139:=Tryz.zeroValue144,
 g3:=by kernel_rfl,
 g4:=by kernel_rfl}
end Go.Proofs.YtkehcalakofigaaGreatDoor
namespace Go.Proofs.YtkehcalakofigaaGreatDoor
open Go aS Go.RowKit
section
open Go.Shelf
theorem YP (s:ByteArray) (w:World) (dH:Lib.Utf8Tabs 0 1 w):
 Calls Tryz.prog 102 #[.string s] w fun e ar=>e=.returned (.tuple #[.int .i32 (Lib.decodeGo s).1,.int .i64 (Lib.decodeGo s).2])∧Below w.heap.size w ar:=Any.utf8_DecodeRuneInString Tryz.ae4 s w dH
theorem Ug (s:ByteArray) (n:Int) (ak:s.size≤18) (h:Lib.atoi s.data.toList=some n) (w:World):
 Calls Tryz.prog 123 #[.string s] w fun e ar=>e=.returned (.tuple #[.int .i64 n,.nilIface])∧Below w.heap.size w ar:=(Any.strconv_Atoi Tryz.ae2 s n ak h w).mono fun e ar q=>⟨q.1,by obtain ⟨t,rfl⟩:=q.2;exact Lib.bytesWorld_below _ _ _⟩
theorem ag1 (s:ByteArray) (qp:s.size≤9223372036854775806) (u:Nat) (h:Lib.parseUintB 64 s.data.toList=.ok u) (w:World):
 Calls Tryz.prog 116 #[.string s,.int .i64 10,.int .i64 64] w fun e ar=>e=.returned (.tuple #[.int .u64 u,.nilIface])∧Below w.heap.size w ar:=(Any.strconv_ParseUint_10_at64_ok Tryz.OP s qp u h w).mono fun e ar q=>⟨q.1,by
  rcases q.2 with rfl | rfl
  · exact Below.refl _ _
  · exact Lib.bytesWorld_below _ _ _⟩
theorem ag3 (s:ByteArray) (ts:s.size≤281474976710656) (h:Lib.parseUintB 64 s.data.toList=.range) (w:World) (he:uz w 4):
 Calls Tryz.prog 116 #[.string s,.int .i64 10,.int .i64 64] w fun e ar=>(∃p,e=.returned (.tuple #[.int .u64 18446744073709551615,.iface (Tryz.Ib.t 39) p]))∧Below w.heap.size w ar:=by
 obtain ⟨a6,aa,ae⟩:=he
 refine (Any.strconv_ParseUint_10_at64_range Tryz.OP s ts h a6 w aa ae).mono fun e ar q=>?_
 obtain ⟨N,aI,_,_,fp⟩:=q
 exact ⟨⟨_,aI⟩,fp⟩
end
theorem yU {f:FuncId} (a1:Nat.beq f c7=false) {args:List V} {v:V} {h:af} (hg:∃fn,Tryz.prog.funcs[f]? =some fn∧fn.body.isSome=true) (H:∀E xs w,D8 w→a_ E args xs→Calls Tryz.prog f xs.toArray w fun e ar=>∃x,e=.returned x∧Rel E v x∧Below w.heap.size w ar):eM Tryz.prog f args h v h:=by
 refine ⟨fun e=>by subst e;simp at a1,.inl ⟨hg,fun az E w xs au s=>?_⟩⟩
 refine (H E xs w (Lay.e8 s.laid s.frame) au).mono fun e ar q=>?_
 obtain ⟨x,rfl,bs,ai⟩:=q
 exact ⟨E,x,rfl,fun _ _ q=>q,bs,s.below ai⟩
theorem YN (s:List UInt8) (h:af):eM Tryz.prog 102 [.str s] h (.tuple [.int .i32 (Lib.decodeGo ⟨⟨s⟩⟩).1,.int .i64 (Lib.decodeGo ⟨⟨s⟩⟩).2]) h:=by
 refine yU (by decide) ⟨_,Tryz.func102,by kernel_rfl⟩ fun E xs w ak au=>?_
 obtain ⟨y,cm,rfl,al,rfl⟩:=au
 simp only [Rel] at al
 subst al
 refine (YP ⟨⟨s⟩⟩ w ak.RX).mono fun e ar q=>?_
 obtain ⟨rfl,ai⟩:=q
 refine ⟨_,rfl,?_,ai⟩
 simp only [Rel]
 exact ⟨_,rfl,_,_,rfl,rfl,_,_,rfl,rfl,rfl⟩
theorem Yy (s sub:List UInt8) (aR:s.length≤100000) (h:af):eM Tryz.prog 120 [.str s,.str sub] h (.bool (Lib.contains s sub)) h:=by
 refine yU (by decide) ⟨_,Tryz.func120,by kernel_rfl⟩ fun E xs w ak au=>?_
 obtain ⟨y,cm,rfl,al,z,gD,rfl,aq,rfl⟩:=au
 simp only [Rel] at al aq
 subst al aq
 obtain ⟨m,hm⟩:=ak.maxLen
 refine (LP ⟨⟨s⟩⟩ ⟨⟨sub⟩⟩ m w (by show s.length<4294967281;omega) hm).mono fun e ar q=>?_
 obtain ⟨rfl,rfl⟩:=q
 refine ⟨_,rfl,?_,Below.refl _ _⟩
 simp only [Rel]
theorem Uf (s:List UInt8) (n:Int) (ak:s.length≤18) (h:Lib.atoi s=some n) (aj:af):eM Tryz.prog 123 [.str s] aj (.tuple [.int .i64 n,.nilIface]) aj:=by
 refine yU (by decide) ⟨_,Tryz.func123,by kernel_rfl⟩ fun E xs w tr au=>?_
 obtain ⟨y,cm,rfl,al,rfl⟩:=au
 simp only [Rel] at al
 subst al
 refine (Ug ⟨⟨s⟩⟩ n ak h w).mono fun e ar q=>?_
 obtain ⟨rfl,ai⟩:=q
 refine ⟨_,rfl,?_,ai⟩
 simp only [Rel]
 exact ⟨_,rfl,_,_,rfl,rfl,_,_,rfl,rfl,rfl⟩
theorem ag0 (s:List UInt8) (u:Nat) (ak:s.length≤100000) (h:Lib.parseUintB 64 s=.ok u) (aj:af):eM Tryz.prog 116 [.str s,.int .i64 10,.int .i64 64] aj (.tuple [.int .u64 u,.nilIface]) aj:=by
 refine yU (by decide) ⟨_,Tryz.func116,by kernel_rfl⟩ fun E xs w tr au=>?_
 obtain ⟨y,cm,rfl,al,z,gD,rfl,aq,t,cx,rfl,aK,rfl⟩:=au
 simp only [Rel] at al aq aK
 subst al aq aK
 refine (ag1 ⟨⟨s⟩⟩ (by show s.length≤9223372036854775806;omega) u h w).mono fun e ar q=>?_
 obtain ⟨rfl,ai⟩:=q
 refine ⟨_,rfl,?_,ai⟩
 simp only [Rel]
 exact ⟨_,rfl,_,_,rfl,rfl,_,_,rfl,rfl,rfl⟩
def Zc:TypeId:=Tryz.Ib.t 39
theorem ag2 (s:List UInt8) (ak:s.length≤100000) (h:Lib.parseUintB 64 s=.range) (aj:af):eM Tryz.prog 116 [.str s,.int .i64 10,.int .i64 64] aj (.tuple [.int .u64 18446744073709551615,.iface Zc .bad]) aj:=by
 refine yU (by decide) ⟨_,Tryz.func116,by kernel_rfl⟩ fun E xs w tr au=>?_
 obtain ⟨y,cm,rfl,al,z,gD,rfl,aq,t,cx,rfl,aK,rfl⟩:=au
 simp only [Rel] at al aq aK
 subst al aq aK
 refine (ag3 ⟨⟨s⟩⟩ (by show s.length≤281474976710656;omega) h w tr.Mx).mono fun e ar q=>?_
 obtain ⟨⟨p,rfl⟩,ai⟩:=q
 refine ⟨_,rfl,?_,ai⟩
 simp only [Rel]
 exact ⟨_,rfl,_,_,rfl,rfl,_,_,rfl,⟨p,rfl,trivial⟩,rfl⟩
end Go.Proofs.YtkehcalakofigaaGreatDoor
namespace Go.Proofs.YtkehcalakofigaaGreatDoor
open Go aS
def lz (s:List UInt8) (i:Nat):Nat:=if decodeL s i=(65533,1) then 0 else (decodeL s i).2
def qR:Nat→List UInt8→Nat→Nat
 | 0,s,_=>s.length
 | f+1,s,a=>if a<s.length then (if lz s a=0 then a else qR f s (a+lz s a)) else s.length
def pz (s:List UInt8) (a:Nat):Nat:=qR (s.length-a) s a
def sf (s:List UInt8):Nat:=pz s 0
theorem QX (s:List UInt8):∀(f g a:Nat),s.length-a≤f→s.length-a≤g→qR f s a=qR g s a
 | 0,g,a,aa,ae=>by
   cases g with
   | zero=>rfl
   | succ g=>simp only [qR];rw [if_neg (by omega)]
 | f+1,0,a,aa,ae=>by simp only [qR];rw [if_neg (by omega)]
 | f+1,g+1,a,aa,ae=>by
   simp only [qR]
   by_cases br:a<s.length
   · rw [if_pos br,if_pos br]
     by_cases aw:lz s a=0
     · rw [if_pos aw,if_pos aw]
     · rw [if_neg aw,if_neg aw]
       exact QX s f g _ (by omega) (by omega)
   · rw [if_neg br,if_neg br]
theorem QW {s:List UInt8} {a:Nat} (h:s.length≤a):pz s a=s.length:=by
 unfold pz
 rw [show s.length-a=0 from by omega]
 rfl
theorem ahG {s:List UInt8} {a:Nat} (h:a<s.length) (aw:lz s a=0):pz s a=a:=by
 unfold pz
 rw [show s.length-a=s.length-a-1+1 from by omega,qR,if_pos h,if_pos aw]
theorem Jm {s:List UInt8} {a:Nat} (h:a<s.length) (aw:lz s a≠0):pz s a=pz s (a+lz s a):=by
 unfold pz
 rw [show s.length-a=s.length-a-1+1 from by omega,qR,if_pos h,if_neg aw]
 exact QX s _ _ _ (by omega) (by omega)
def eH (c:UInt8):Bool:=lA c.toNat
def eJ (c:UInt8):Bool:=rZ c.toNat
def h4 (l:List UInt8):Nat:=l.foldl (fun n c=>10 * n + (c.toNat-48)) 0
abbrev rn:=Except Int (Int × Int × List UInt8 × Nat)
def wA (r:List UInt8):rn:=
 let t:=r.takeWhile eH
 if 2147483647<h4 t then .error 254 else .ok (1,(if 1073741823 < (h4 t:Int) then (h4 t:Int)-2147483648 else h4 t),[],t.length)
def nR:List UInt8→Option (UInt8 × Nat)
 | []=>none
 | c::r=>if c=110 then some (10,1) else if c=116 then some (9,1) else if c=34 then some (34,1) else if c=92 then some (92,1) else
   if 2≤r.length∧eH c∧eH (r[0]?.getD 0)∧eH (r[1]?.getD 0)∧h4 (c::r.take 2)<256 then some ((h4 (c::r.take 2)).toUInt8,3) else none
def um:Nat→List UInt8→Option (List UInt8 × Nat)
 | 0,_=>none
 | _+1,[]=>none
 | f+1,c::r=>if c=34 then some ([],1) else if c=92 then (match nR r with
    | none=>none
    | some (b,n)=>(um f (r.drop n)).map fun q=>(b::q.1,q.2+n+1))
   else if c<32∨c=127 then none else (um f r).map fun q=>(c::q.1,q.2+1)
def oE (r:List UInt8):Option (List UInt8 × Nat):=um r.length r
def qZ (r:List UInt8):rn:=
 match oE r with
 | none=>.error 252
 | some (b,n)=>if 4096<b.length then .error 255 else .ok (2,0,b,n+1)
def rX:List (List UInt8):=[[97,110,100],[98,101,103,105,110],[101,108,115,101],[101,110,100],[101,120,99,101,112,116,105,111,110],[102,97,108,115,101],[102,117,110],[105,102],[105,110],[108,101,116],[109,97,116,99,104],[109,111,100],[111,102],[114,97,105,115,101],[114,101,99],[116,104,101,110],[116,114,117,101],[116,114,121],[116,121,112,101],[119,105,116,104]]
def ij:List (List UInt8):=[[59,59],[58,61],[45,62],[60,61],[59],[40],[41],[44],[61],[60],[43],[45],[42],[47],[124],[33],[95]]
def nm (t:List UInt8):Bool:=rX.contains t
def iS (kind:Int) (r:List UInt8):rn:=
 let t:=r.takeWhile eJ
 if kind=3∧t=[95] then .ok (7,0,t,t.length) else if kind=3∧nm t then .ok (6,0,t,t.length) else if 64<t.length then .error 255 else .ok (kind,0,t,t.length)
def wS (r:List UInt8):rn:=
 match ij.find? (·.isPrefixOf r) with
 | some t=>.ok (7,0,t,t.length)
 | none=>.error 251
def kS:List UInt8→Bool
 | d::_=>gn d.toNat
 | []=>false
def gm:List UInt8→rn
 | []=>.error 0
 | c::r=>if eH c then wA (c::r) else if c=34 then qZ r else if gn c.toNat||c=95 then iS 3 (c::r) else if lF c.toNat then iS 4 (c::r) else
   if c=39∧kS r then (iS 5 r).map fun q=>(q.1,q.2.1,q.2.2.1,q.2.2.2+1) else wS (c::r)
structure b4 where
 kind:Int
 num:Int
 pos:Nat
 text:List UInt8
deriving DecidableEq
def blank (c:UInt8):Bool:=c=9||c=10||c=13||c=32
def xM (w:b4):Except (Int × Nat) (List b4)→Except (Int × Nat) (List b4)
 | .ok ws=>.ok (w::ws)
 | .error e=>.error e
def lU:Nat→List UInt8→Nat→Except (Int × Nat) (List b4)
 | 0,_,_=>.ok []
 | _+1,[],_=>.ok []
 | f+1,c::r,p=>if blank c then lU f r (p+1) else if ([40,42]:List UInt8).isPrefixOf (c::r) then (match hA (c::r) 0 with
    | none=>.error (253,p)
    | some n=>lU f ((c::r).drop n) (p+n))
   else match gm (c::r) with
    | .error e=>.error (e,p)
    | .ok q=>xM ⟨q.1,q.2.1,p,q.2.2.1⟩ (lU f ((c::r).drop q.2.2.2) (p+q.2.2.2))
def po (r:List UInt8) (p:Nat):Except (Int × Nat) (List b4):=lU r.length r p
def jX (s:List UInt8):Except (Int × Nat) (List b4):=
 if 65536<s.length then .error (3,0) else if sf s<s.length then .error (250,sf s) else po s 0
theorem JN {p:UInt8→Bool} {c:UInt8} {r:List UInt8} (h:p c=true):1≤((c::r).takeWhile p).length:=by
 simp only [List.takeWhile_cons,h,if_true,List.length_cons]
 omega
theorem aie {t:List UInt8} (h:t ∈ ij):1≤t.length:=by
 revert t
 decide
theorem Jy {c:UInt8} (h:gn c.toNat=true):eJ c=true:=by unfold eJ rZ;rw [h];simp
theorem M6 {c:UInt8} (h:lF c.toNat=true):eJ c=true:=by unfold eJ rZ;rw [h];simp
theorem RS {c:UInt8} (h:c=95):eJ c=true:=by subst h;decide
theorem Px {k:Int} {r:List UInt8} {q:Int × Int × List UInt8 × Nat} (h:iS k r=.ok q):q.2.2.2=(r.takeWhile eJ).length:=by
 unfold iS at h
 simp only at h
 split at h
 · cases h;rfl
 · split at h
   · cases h;rfl
   · split at h
     · cases h
     · cases h;rfl
theorem Iy {r:List UInt8} {q:Int × Int × List UInt8 × Nat} (h:gm r=.ok q):1≤q.2.2.2:=by
 match r,h with
 | c::r,h=>
   simp only [gm] at h
   split at h
   · rename_i aY
     unfold wA at h
     simp only at h
     split at h
     · cases h
     · cases h
       exact JN aY
   · split at h
     · unfold qZ at h
       split at h
       · cases h
       · split at h
         · cases h
         · cases h;simp only;omega
     · split at h
       · rename_i aR
         rw [Px h]
         simp only [Bool.or_eq_true,decide_eq_true_eq] at aR
         exact JN (aR.elim Jy RS)
       · split at h
         · rename_i aR
           rw [Px h]
           exact JN (M6 aR)
         · split at h
           · cases aX:iS 5 r with
             | error e=>rw [aX] at h;cases h
             | ok dZ=>rw [aX] at h;cases h;simp only;omega
           · unfold wS at h
             split at h
             · rename_i t aG
               cases h
               exact aie (List.mem_of_find?_eq_some aG)
             · cases h
theorem CA:∀{r:List UInt8} {d:Int} {n:Nat},hA r d=some n→2≤n
 | [],d,n,h=>by simp [hA] at h
 | [_],d,n,h=>by simp [hA] at h
 | x::y::r,d,n,h=>by
   rw [hA] at h
   split at h
   · cases aF:hA r (d+1) with
     | none=>rw [aF] at h;cases h
     | some m=>rw [aF] at h;cases h;simp only;omega
   · split at h
     · split at h
       · cases h;omega
       · cases aF:hA r (d-1) with
         | none=>rw [aF] at h;cases h
         | some m=>rw [aF] at h;cases h;simp only;omega
     · cases aF:hA (y::r) d with
       | none=>rw [aF] at h;cases h
       | some m=>rw [aF] at h;cases h;have:=CA aF;simp only;omega
theorem yZ:∀(f g:Nat) (r:List UInt8) (p:Nat),r.length≤f→r.length≤g→lU f r p=lU g r p
 | 0,g,r,p,aa,ae=>by
   have:r=[]:=List.length_eq_zero_iff.1 (by omega)
   subst this
   cases g<;>rfl
 | f+1,0,r,p,aa,ae=>by
   have:r=[]:=List.length_eq_zero_iff.1 (by omega)
   subst this
   rfl
 | f+1,g+1,[],p,aa,ae=>rfl
 | f+1,g+1,c::r,p,aa,ae=>by
   simp only [List.length_cons] at aa ae
   simp only [lU]
   split
   · exact yZ f g _ _ (by omega) (by omega)
   · split
     · split
       · rfl
       · rename_i n aX
         have:=CA aX
         exact yZ f g _ _ (by rw [List.length_drop,List.length_cons];omega) (by rw [List.length_drop,List.length_cons];omega)
     · split
       · rfl
       · rename_i q aF
         have:=Iy aF
         rw [yZ f g _ _ (by rw [List.length_drop,List.length_cons];omega) (by rw [List.length_drop,List.length_cons];omega)]
theorem O6 (c:UInt8) (r:List UInt8) (p:Nat):po (c::r) p=if blank c then po r (p+1) else if ([40,42]:List UInt8).isPrefixOf (c::r) then (match hA (c::r) 0 with
 | none=>.error (253,p)
 | some n=>po ((c::r).drop n) (p+n))
 else match gm (c::r) with
  | .error e=>.error (e,p)
  | .ok q=>xM ⟨q.1,q.2.1,p,q.2.2.1⟩ (po ((c::r).drop q.2.2.2) (p+q.2.2.2)):=by
 unfold po
 simp only [List.length_cons,lU]
 split
 · rfl
 · split
   · split
     · rfl
     · rename_i n aX
       have:=CA aX
       exact yZ _ _ _ _ (by rw [List.length_drop,List.length_cons];omega) (Nat.le_refl _)
   · split
     · rfl
     · rename_i q aF
       have:=Iy aF
       rw [yZ _ _ _ _ (by rw [List.length_drop,List.length_cons];omega) (Nat.le_refl _)]
theorem JP:∀(f g:Nat) (r:List UInt8),r.length≤f→r.length≤g→um f r=um g r
 | 0,g,r,aa,ae=>by
   have:r=[]:=List.length_eq_zero_iff.1 (by omega)
   subst this
   cases g<;>rfl
 | f+1,0,r,aa,ae=>by
   have:r=[]:=List.length_eq_zero_iff.1 (by omega)
   subst this
   rfl
 | f+1,g+1,[],aa,ae=>rfl
 | f+1,g+1,c::r,aa,ae=>by
   simp only [List.length_cons] at aa ae
   simp only [um]
   split
   · rfl
   · split
     · split
       · rfl
       · rw [JP f g _ (by rw [List.length_drop];omega) (by rw [List.length_drop];omega)]
     · split
       · rfl
       · rw [JP f g _ (by omega) (by omega)]
theorem aiV:oE []=none:=rfl
theorem aiU (c:UInt8) (r:List UInt8):oE (c::r)=if c=34 then some ([],1) else if c=92 then (match nR r with
 | none=>none
 | some (b,n)=>(oE (r.drop n)).map fun q=>(b::q.1,q.2+n+1))
 else if c<32∨c=127 then none else (oE r).map fun q=>(c::q.1,q.2+1):=by
 unfold oE
 simp only [List.length_cons,um]
 split
 · rfl
 · split
   · split
     · rfl
     · rw [JP _ _ _ (by rw [List.length_drop];omega) (Nat.le_refl _)]
   · rfl
theorem MP:∀(l:List UInt8) (a:Nat),a≤l.foldl (fun n c=>10 * n + (c.toNat-48)) a
 | [],a=>Nat.le_refl _
 | c::l,a=>by
   simp only [List.foldl_cons]
   exact Nat.le_trans (by omega) (MP l _)
def jN (a:Nat) (l:List UInt8):Nat:=l.foldl (fun n c=>10 * n + (c.toNat-48)) a
theorem ZL (a:Nat) (c:UInt8) (l:List UInt8):jN a (c::l)=jN (10 * a + (c.toNat-48)) l:=by unfold jN;rw [List.foldl_cons]
theorem agZ (M:Nat) (c1:M<18446744073709551620) (l:List UInt8):∀(a:Nat),(∀c ∈ l,eH c=true)→(jN a l≤M→Lib.parseUintM M a l=.ok (jN a l))∧(a≤M→¬jN a l≤M→Lib.parseUintM M a l=.range):=by
 induction l with
 | nil=>
   intro a _
   refine ⟨fun _=>?_,fun aa ae=>absurd aa ae⟩
   simp only [Lib.parseUintM,jN,List.foldl_nil]
 | cons c l acB=>
   intro a h
   have aw:=h c (List.mem_cons_self ..)
   simp only [eH,lA,Bool.and_eq_true,decide_eq_true_eq] at aw
   have aaU:48≤c.toNat∧c.toNat≤57:=by omega
   have bg:=acB (10 * a + (c.toNat-48)) (fun x au=>h x (List.mem_cons_of_mem _ au))
   have hm:10 * a + (c.toNat-48)≤jN (10 * a + (c.toNat-48)) l:=MP l (10 * a + (c.toNat-48))
   simp only [Lib.parseUintM,aaU,and_self,if_true]
   rw [Nat.mul_comm a 10,ZL]
   have lH:10 * a≤10 * a + (c.toNat-48):=Nat.le_add_right _ _
   generalize 10 * a + (c.toNat-48)=A at bg hm lH ⊢
   refine ⟨fun aN=>?_,fun br ix=>?_⟩
   · rw [if_neg (by omega),if_neg (by omega)]
     exact bg.1 aN
   · by_cases aa:1844674407370955162≤a
     · rw [if_pos aa]
     · rw [if_neg aa]
       by_cases ae:M<A
       · rw [if_pos ae]
       · rw [if_neg ae]
         exact bg.2 (by omega) ix
theorem agY (l:List UInt8) (h:∀c ∈ l,eH c=true) (ak:l≠[]):(h4 l≤18446744073709551615→Lib.parseUintB 64 l=.ok (h4 l))∧(¬h4 l≤18446744073709551615→Lib.parseUintB 64 l=.range):=by
 unfold Lib.parseUintB
 rw [if_neg ak,show (2 ^ 64-1:Nat)=18446744073709551615 from by decide]
 have:=agZ 18446744073709551615 (by omega) l 0 h
 exact ⟨this.1,this.2 (Nat.zero_le _)⟩
structure mT (s:List UInt8) (p:Nat) (b:aQ) (h:af) (res:rn) (x:V) (ab:af):Prop where
 mod:Mod (fun q=>q=b) h ab
 res:∃k n t,x=.agg [.int .i64 k,.int .i64 n,.int .i64 0,.str t]∧match res with
  | .ok q=>k=q.1∧n=q.2.1∧t=q.2.2.1∧ab.get b=eD s ((p+q.2.2.2:Nat):Int) 0∧p+q.2.2.2≤s.length
  | .error e=>e≠0∧∃bk:Int,ab.get b=eD s bk e
theorem Iw {P:Program}:(en.jL true 5).run P .nilIface .nilIface=some (.bool false):=rfl
theorem afZ {P:Program} (T:TypeId) (x:V):(en.jL true 5).run P (.iface T x) .nilIface=some (.bool true):=rfl
theorem RG {p:UInt8→Bool} {l:List UInt8}:∀c ∈ l.takeWhile p,p c=true:=fun c aw=>by
 induction l with
 | nil=>simp at aw
 | cons x l bg=>
   simp only [List.takeWhile_cons] at aw
   split at aw
   · rename_i au
     rcases List.mem_cons.1 aw with rfl | aw
     · exact au
     · exact bg aw
   · simp at aw
theorem RH (p:UInt8→Bool) (s:List UInt8) (a:Nat):((s.drop a).takeWhile p).length≤s.length-a:=by
 have:=RI p (s.drop a)
 rwa [List.length_drop] at this
theorem age (s:List UInt8) (a0:Nat) (b:aQ) (h:af) (ai:h.get b=eD s a0 0) (bb:a0<s.length) (aR:s.length≤100000) (fW:Old h b) (aY:eH s[a0]=true):
 bB Tryz.prog 106 [.ptr b 0] h (mT s a0 b h (wA (s.drop a0))):=by
 refine UR rfl (cR ?_)
 unfold EI
 have cq:(b=aC h.next)=False:=y9 fW (Nat.le_refl _)
 have cN:(aC h.next=b)=False:=by rw [←cq];exact propext eq_comm
 simp +contextual only [ai,cq,cN,↓ah,ao,simprocAttr]
 have au:Ext h (h.new (.bh [.int .i64 0,.int .i64 0,.int .i64 0,.str []] 0 false)):=(Ext.refl h).new _
 refine bK (Q4 s a0 0 b 105 lA _ (by rw [au.get _ fW,ai]) (by omega) aR (by decide) (fun c h=>u6 c h)) ?_
 rintro x aa ⟨rfl,hm,aH⟩
 have jd:(fun c:UInt8=>lA (c.toNat:Int))=eH:=rfl
 rw [jd] at aH ⊢
 have tt:Mod (fun q=>q=b) h aa:=(au.mod _).trans hm
 have g1:aa.get (aC h.next)=.bh [.int .i64 0,.int .i64 0,.int .i64 0,.str []] 0 false:=by
  rw [hm.get _ (gz (by rw [gx];omega)) (by rw [cN];exact id)]
  simp only [↓ah,ao,simprocAttr]
 have dn:(s.drop a0).takeWhile eH≠[]:=by
  rw [drop_cons bb,List.takeWhile_cons,aY]
  simp
 have hlen:=RH eH s a0
 have aj:=agY ((s.drop a0).takeWhile eH) RG dn
 unfold eD at aH
 have tu:wA (s.drop a0)=if 2147483647<h4 ((s.drop a0).takeWhile eH) then .error 254 else .ok (1,(if 1073741823 < (h4 ((s.drop a0).takeWhile eH):Int) then (h4 ((s.drop a0).takeWhile eH):Int)-2147483648 else h4 ((s.drop a0).takeWhile eH)),[],((s.drop a0).takeWhile eH).length):=rfl
 rw [tu]
 generalize (s.drop a0).takeWhile eH=t at *
 simp +contextual only [↓ah,ao,simprocAttr]
 by_cases x5:h4 t≤18446744073709551615
 · refine fj (ag0 t (h4 t) (by omega) (aj.1 x5) aa) ?_
   generalize h4 t=u at *
   by_cases Gq:(2147483647:Int) < (u:Int)
   · have vp:2147483647<u:=by omega
     simp +contextual only [Iw,Gq,g1,aH,cq,cN,↓ah,ao,simprocAttr]
     refine ⟨(tt.set (fun _=>rfl) _).set (fun q=>absurd (show cd (aC h.next)<h.next from q) (by rw [c6];omega)) _,?_⟩
     rw [if_pos vp]
     refine ⟨_,_,_,rfl,by decide,((a0+t.length:Nat):Int),?_⟩
     simp only [eD,cq,cN,↓ah,ao,simprocAttr]
   · have vp:¬2147483647<u:=by omega
     have bU:IntKind.i64.wrap (u:Int)=(u:Int):=wrap_i64 (by omega) (by omega)
     have bQ:IntKind.i64.wrap ((u:Int)-2147483648)=(u:Int)-2147483648:=wrap_i64 (by omega) (by omega)
     by_cases Nf:(1073741823:Int) < (u:Int)
     · simp +contextual only [Iw,Gq,vp,Nf,g1,aH,cq,cN,bU,bQ,↓ah,ao,simprocAttr]
       refine ⟨(tt.set (fun q=>absurd (show cd (aC h.next)<h.next from q) (by rw [c6];omega)) _),?_⟩
       refine ⟨_,_,_,rfl,rfl,rfl,rfl,?_,by show a0+t.length≤s.length;omega⟩
       simp only [eD,aH,cq,cN,↓ah,ao,simprocAttr]
     · simp +contextual only [Iw,Gq,vp,Nf,g1,aH,cq,cN,bU,bQ,↓ah,ao,simprocAttr]
       refine ⟨(tt.set (fun q=>absurd (show cd (aC h.next)<h.next from q) (by rw [c6];omega)) _),?_⟩
       refine ⟨_,_,_,rfl,rfl,rfl,rfl,?_,by show a0+t.length≤s.length;omega⟩
       simp only [eD,aH,cq,cN,↓ah,ao,simprocAttr]
 · refine fj (ag2 t (by omega) (aj.2 x5) aa) ?_
   have vp:2147483647<h4 t:=by omega
   rw [if_pos vp]
   simp +contextual only [afZ,g1,aH,cq,cN,↓ah,ao,simprocAttr]
   refine ⟨(tt.set (fun _=>rfl) _).set (fun q=>absurd (show cd (aC h.next)<h.next from q) (by rw [c6];omega)) _,?_⟩
   refine ⟨_,_,_,rfl,by decide,((a0+t.length:Nat):Int),?_⟩
   simp only [eD,cq,cN,↓ah,ao,simprocAttr]
theorem RP (c:UInt8):((c.toNat:Int)).toNat.toUInt8=c:=by
 rw [Int.toNat_natCast]
 simp
theorem ur (c:UInt8) (n:Nat) (aX:n<256):((c.toNat:Int)=(n:Int))=(c=n.toUInt8):=by
 apply propext
 constructor
 · intro q
   have:c.toNat=n:=by omega
   rw [←UInt8.toNat_inj,this]
   simp
   omega
 · intro q
   subst q
   simp
   omega
theorem Zf (c:UInt8):Lib.indexByte [110,116,34,92] c=if c=110 then 0 else if c=116 then 1 else if c=34 then 2 else if c=92 then 3 else -1:=by
 simp only [Lib.indexByte,beq_iff_eq]
 by_cases aa:c=110
 · subst aa;decide
 · by_cases ae:c=116
   · subst ae;decide
   · by_cases aI:c=34
     · subst aI;decide
     · by_cases bu:c=92
       · subst bu;decide
       · have aB:¬(110:UInt8)=c:=fun q=>aa q.symm
         have aO:¬(116:UInt8)=c:=fun q=>ae q.symm
         have cc:¬(34:UInt8)=c:=fun q=>aI q.symm
         have fy:¬(92:UInt8)=c:=fun q=>bu q.symm
         simp only [aa,ae,aI,bu,aB,aO,cc,fy,if_false]
         rfl
theorem FO {c:UInt8} (h:eH c=true):Lib.digitVal c=some (c.toNat-48):=by
 unfold Lib.digitVal
 unfold eH lA at h
 simp only [Bool.and_eq_true,decide_eq_true_eq] at h
 rw [if_pos (by omega)]
theorem Ue {a b c:UInt8} (aa:eH a=true) (ae:eH b=true) (aI:eH c=true):Lib.atoi [a,b,c]=some ((h4 [a,b,c]:Nat):Int):=by
 have br:=aa
 unfold eH lA at br
 simp only [Bool.and_eq_true,decide_eq_true_eq] at br
 have dc:(a == 45)=false:=by rw [beq_eq_false_iff_ne];rintro rfl;revert br;decide
 have hJ:(a == 43)=false:=by rw [beq_eq_false_iff_ne];rintro rfl;revert br;decide
 simp [Lib.atoi,dc,hJ,Lib.decNat,Lib.decFrom,FO aa,FO ae,FO aI,h4]
 omega
theorem Zg (s:List UInt8) (a0:Nat) (b:aQ) (h:af) (ai:h.get b=eD s a0 0) (bb:a0<s.length) (aR:s.length≤100000) (fW:Old h b):
 bB Tryz.prog 118 [.ptr b 0] h fun x ab=>Mod (fun q=>q=b) h ab∧match nR (s.drop (a0+1)) with
  | some (c,n)=>x=.int .u8 (c.toNat:Int)∧ab.get b=eD s ((a0+1+n:Nat):Int) 0∧a0+1+n≤s.length
  | none=>x=.int .u8 0∧ab.get b=eD s ((a0+1:Nat):Int) 252:=by
 refine Vh rfl (cR ?_)
 unfold ER
 unfold eD at ai ⊢
 have bU:IntKind.i64.wrap ((a0:Int)+1)=((a0+1:Nat):Int):=by rw [wrap_i64 (by omega) (by omega)];rfl
 have f0:(0≤((a0+1:Nat):Int))=True:=eq_true (by omega)
 have f1:(((a0+1:Nat):Int)≤(s.length:Int))=True:=eq_true (by omega)
 have tq:(s.drop (a0+1)).length=s.length - (a0+1):=List.length_drop
 have z0:((0:Int)≤0)=True:=eq_true (by omega)
 have nv:∀v,aS.Mod (fun q=>q=b) h ((h.set b v)):=fun v=>(Mod.refl (fun q=>q=b) h).set (fun _=>rfl) _
 cases cE:s.drop (a0+1) with
 | nil=>
   simp +contextual only [ai,bU,f0,f1,Int.toNat_natCast,cE,List.length_nil,Int.natCast_zero,↓ah,ao,simprocAttr]
   refine ⟨(nv _).set (fun _=>rfl) _,?_⟩
   simp only [nR,dG,if_true,true_and]
 | cons c r=>
   rw [cE] at tq
   rw [List.length_cons] at tq
   have cT:(c::r=[])=False:=eq_false (by simp)
   have f2:((0:Int) < ((r.length+1:Nat):Int))=True:=eq_true (by omega)
   simp +contextual only [ai,bU,f0,f1,f2,cT,Int.toNat_natCast,cE,Int.reduceToNat,z0,↓ah,ao,simprocAttr]
   refine fj (Ou _ _ _) ?_
   rw [RP,Zf]
   have bQ:IntKind.i64.wrap (((a0+1:Nat):Int)+1)=((a0+2:Nat):Int):=by rw [wrap_i64 (by omega) (by omega)];omega
   by_cases bz:c=110
   · subst bz
     simp +contextual only [ai,bU,bQ,f0,f1,f2,cT,Int.toNat_natCast,cE,Int.reduceToNat,z0,List.length_cons,List.length_nil,Nat.reduceAdd,Int.reduceLT,Int.cast_ofNat_Int,↓ah,ao,simprocAttr]
     refine ⟨(nv _).set (fun _=>rfl) _,rfl,?_⟩
     simp only [dG,if_true]
     refine ⟨trivial,by omega⟩
   by_cases bN:c=116
   · subst bN
     simp +contextual only [ai,bU,bQ,f0,f1,f2,cT,Int.toNat_natCast,cE,Int.reduceToNat,z0,List.length_cons,List.length_nil,Nat.reduceAdd,Int.reduceLT,Int.cast_ofNat_Int,bz,↓ah,ao,simprocAttr]
     refine ⟨(nv _).set (fun _=>rfl) _,rfl,?_⟩
     simp only [dG,if_true]
     refine ⟨trivial,by omega⟩
   by_cases c3:c=34
   · subst c3
     simp +contextual only [ai,bU,bQ,f0,f1,f2,cT,Int.toNat_natCast,cE,Int.reduceToNat,z0,List.length_cons,List.length_nil,Nat.reduceAdd,Int.reduceLT,Int.cast_ofNat_Int,bz,bN,↓ah,ao,simprocAttr]
     refine ⟨(nv _).set (fun _=>rfl) _,rfl,?_⟩
     simp only [dG,if_true]
     refine ⟨trivial,by omega⟩
   by_cases gb:c=92
   · subst gb
     simp +contextual only [ai,bU,bQ,f0,f1,f2,cT,Int.toNat_natCast,cE,Int.reduceToNat,z0,List.length_cons,List.length_nil,Nat.reduceAdd,Int.reduceLT,Int.cast_ofNat_Int,bz,bN,c3,↓ah,ao,simprocAttr]
     refine ⟨(nv _).set (fun _=>rfl) _,rfl,?_⟩
     simp only [dG,if_true]
     refine ⟨trivial,by omega⟩
   match r,cE,tq,f2,cT with
   | [],cE,tq,f2,cT=>
     simp +contextual only [ai,bU,bQ,f0,f1,f2,cT,Int.toNat_natCast,cE,Int.reduceToNat,z0,List.length_cons,List.length_nil,Nat.reduceAdd,Int.reduceLT,Int.cast_ofNat_Int,bz,bN,c3,gb,↓ah,ao,simprocAttr]
     refine ⟨(nv _).set (fun _=>rfl) _,?_⟩
     simp [nR,bz,bN,c3,gb,dG]
   | [_],cE,tq,f2,cT=>
     simp +contextual only [ai,bU,bQ,f0,f1,f2,cT,Int.toNat_natCast,cE,Int.reduceToNat,z0,List.length_cons,List.length_nil,Nat.reduceAdd,Int.reduceLT,Int.cast_ofNat_Int,bz,bN,c3,gb,↓ah,ao,simprocAttr]
     refine ⟨(nv _).set (fun _=>rfl) _,?_⟩
     simp [nR,bz,bN,c3,gb,dG]
   | d1::d2::bt,cE,tq,f2,cT=>
     simp only [List.length_cons] at tq
     have g3:((3:Int)≤((bt.length+3:Nat):Int))=True:=eq_true (by omega)
     have g2:((2:Int) < ((bt.length+3:Nat):Int))=True:=eq_true (by omega)
     have g1:((1:Int) < ((bt.length+3:Nat):Int))=True:=eq_true (by omega)
     have g0:((0:Int) < ((bt.length+3:Nat):Int))=True:=eq_true (by omega)
     have em:nR (c::d1::d2::bt)=if eH c∧eH d1∧eH d2∧h4 [c,d1,d2]<256 then some ((h4 [c,d1,d2]).toUInt8,3) else none:=by
      simp [nR,bz,bN,c3,gb]
     rw [em]
     simp +contextual only [ai,bU,bQ,f0,f1,g0,g1,g2,g3,cT,Int.toNat_natCast,cE,Int.reduceToNat,z0,List.length_cons,List.length_nil,Nat.reduceAdd,Int.reduceLT,Int.cast_ofNat_Int,bz,bN,c3,gb,↓ah,ao,simprocAttr]
     refine fj (u6 _ _) ?_
     have dg:∀x:UInt8,lA (x.toNat:Int)=eH x:=fun _=>rfl
     simp only [dg]
     cases aaZ:eH c with
     | false=>
       simp +contextual only [ai,bU,bQ,f0,f1,g0,g1,g2,g3,cT,Int.toNat_natCast,cE,Int.reduceToNat,z0,List.length_cons,List.length_nil,Nat.reduceAdd,Int.reduceLT,Int.cast_ofNat_Int,bz,bN,c3,gb,false_and,Bool.false_eq_true,↓ah,ao,simprocAttr]
       exact (nv _).set (fun _=>rfl) _
     | true=>
       simp +contextual only [ai,bU,bQ,f0,f1,g0,g1,g2,g3,cT,Int.toNat_natCast,cE,Int.reduceToNat,z0,List.length_cons,List.length_nil,Nat.reduceAdd,Int.reduceLT,Int.cast_ofNat_Int,bz,bN,c3,gb,↓ah,ao,simprocAttr]
       refine fj (u6 _ _) ?_
       simp only [dg]
       cases td:eH d1 with
       | false=>
         simp +contextual only [ai,bU,bQ,f0,f1,g0,g1,g2,g3,cT,Int.toNat_natCast,cE,Int.reduceToNat,z0,List.length_cons,List.length_nil,Nat.reduceAdd,Int.reduceLT,Int.cast_ofNat_Int,bz,bN,c3,gb,false_and,and_false,Bool.false_eq_true,↓ah,ao,simprocAttr]
         exact (nv _).set (fun _=>rfl) _
       | true=>
         simp +contextual only [ai,bU,bQ,f0,f1,g0,g1,g2,g3,cT,Int.toNat_natCast,cE,Int.reduceToNat,z0,List.length_cons,List.length_nil,Nat.reduceAdd,Int.reduceLT,Int.cast_ofNat_Int,bz,bN,c3,gb,↓ah,ao,simprocAttr]
         refine fj (u6 _ _) ?_
         simp only [dg]
         cases te:eH d2 with
         | false=>
           simp +contextual only [ai,bU,bQ,f0,f1,g0,g1,g2,g3,cT,Int.toNat_natCast,cE,Int.reduceToNat,z0,List.length_cons,List.length_nil,Nat.reduceAdd,Int.reduceLT,Int.cast_ofNat_Int,bz,bN,c3,gb,false_and,and_false,Bool.false_eq_true,↓ah,ao,simprocAttr]
           exact (nv _).set (fun _=>rfl) _
         | true=>
           have z3:((0:Int)≤3)=True:=eq_true (by omega)
           simp +contextual only [ai,bU,bQ,f0,f1,g0,g1,g2,g3,z3,cT,Int.toNat_natCast,cE,Int.reduceToNat,z0,List.length_cons,List.length_nil,Nat.reduceAdd,Int.reduceLT,Int.cast_ofNat_Int,bz,bN,c3,gb,↓ah,ao,simprocAttr]
           refine fj (Uf [c,d1,d2] _ (by simp) (Ue aaZ td te) _) ?_
           have kz:IntKind.i64.wrap (((a0+1:Nat):Int)+3)=((a0+4:Nat):Int):=by rw [wrap_i64 (by omega) (by omega)];omega
           generalize bs:h4 [c,d1,d2]=v
           by_cases Ob:(v:Int)<256
           · have hO:IntKind.u8.wrap (v:Int)=((v.toUInt8).toNat:Int):=by
              simp [IntKind.wrap,IntKind.bits,IntKind.signed]
             have HJ:v<256:=by omega
             simp +contextual only [ai,bU,bQ,kz,hO,f0,f1,g0,g1,g2,g3,cT,Ob,HJ,Int.toNat_natCast,cE,Int.reduceToNat,z0,List.length_cons,List.length_nil,Nat.reduceAdd,Int.reduceLT,Int.cast_ofNat_Int,bz,bN,c3,gb,and_self,true_and,↓ah,ao,simprocAttr]
             refine ⟨(nv _).set (fun _=>rfl) _,?_⟩
             first | omega | (refine ⟨?_,by omega⟩;simp [dG]) | skip
           · have HJ:¬v<256:=by omega
             simp +contextual only [ai,bU,bQ,kz,f0,f1,g0,g1,g2,g3,cT,Ob,HJ,Int.toNat_natCast,cE,Int.reduceToNat,z0,List.length_cons,List.length_nil,Nat.reduceAdd,Int.reduceLT,Int.cast_ofNat_Int,bz,bN,c3,gb,and_false,↓ah,ao,simprocAttr]
             exact (nv _).set (fun _=>rfl) _
theorem ajc (c:UInt8) (n:Nat) (aX:n<256):((c.toNat:Int) < (n:Int))=(c<n.toUInt8):=by
 apply propext
 rw [UInt8.lt_iff_toNat_lt]
 have:(n.toUInt8).toNat=n:=by simp;omega
 rw [this]
 omega
theorem aiW (s:List UInt8) (a0:Nat) (b:aQ) (h:af) (ai:h.get b=eD s a0 0) (bb:a0<s.length) (aR:s.length≤100000) (fW:Old h b):
 bB Tryz.prog 107 [.ptr b 0] h (mT s a0 b h (qZ (s.drop (a0+1)))):=by
 refine UU rfl (cR ?_)
 unfold EJ
 have cq:(b=aC h.next)=False:=y9 fW (Nat.le_refl _)
 have cN:(aC h.next=b)=False:=by rw [←cq];exact propext eq_comm
 have bU:IntKind.i64.wrap ((a0:Int)+1)=((a0+1:Nat):Int):=by rw [wrap_i64 (by omega) (by omega)];rfl
 unfold eD at ai
 simp +contextual only [ai,cq,cN,bU,↓ah,ao,simprocAttr]
 have wz:∀{v:V} {ab:af} {n:Nat} {us:List V},dx (h.next+1) ab 1 v n us→∀q,v.a7 q→¬(fun q=>q=b) q:=by
  intro v ab n us dD q aF he
  have aa:=dD.base aF
  rw [show q=b from he] at aa
  have ae:cd b<h.next:=fW
  omega
 have Uy:∀{v:V} {ab:af} {n:Nat} {us:List V},dx (h.next+1) ab 1 v n us→∀i,i<h.next+1→¬v.a7 (aC i):=by
  intro v ab n us dD i av aF
  have aa:=dD.base aF
  rw [c6] at aa
  omega
 refine fD (fun r ab=>r 0=.ptr b 0∧r 2=.ptr (aC h.next) 0∧∃(a:Nat) (e:Int) (ez:List UInt8) (v:V),r 3=v∧ab.get b=.bh [.str s,.int .i64 a,.int .i64 e] 0 false∧a≤s.length∧a0+1≤a∧ez.length≤a∧
  ab.get (aC h.next)=.bh [.int .i64 0,.int .i64 0,.int .i64 0,.str []] 0 false∧Mod (fun q=>q=b) h ab∧h.next+1≤ab.next∧dx (h.next+1) ab 1 v ez.length (hs ez)∧
  ((e=0∧oE (s.drop (a0+1))=(oE (s.drop a)).map fun q=>(ez++q.1,q.2 + (a - (a0+1))))∨(e=252∧oE (s.drop (a0+1))=none)))
  (fun r ab=>(s.length - ((hj (ab.get b) 1).getD .bad).toN) + (252 - ((hj (ab.get b) 2).getD .bad).toN)) ?_ ?_
 · refine ⟨by simp only [cq,cN,↓ah,ao,simprocAttr],by simp only [cq,cN,↓ah,ao,simprocAttr],a0+1,0,[],.bW,by simp only [cq,cN,↓ah,ao,simprocAttr],by simp only [cq,cN,↓ah,ao,simprocAttr],by omega,by omega,by simp,by simp only [cq,cN,↓ah,ao,simprocAttr],?_,?_,⟨rfl,rfl⟩,.inl ⟨rfl,?_⟩⟩
   · exact (((Ext.refl h).new _).mod (fun q=>q=b)).self _
   · rw [nx,gx];exact Nat.le_refl _
   · rw [Nat.sub_self]
     cases oE (s.drop (a0+1))<;>rfl
 · rintro r ab ⟨bF,bT,a,e,ez,v,bX,aH,ck,pj,wc,bj,hm,kY,dD,bl⟩
   unfold Le
   have NW:Old ab b:=hm.b0 fW
   have fin:∀(ae:af) (bk:Int),oE (s.drop (a0+1))=none→Mod (fun q=>q=b) h ae→ae.get b=.bh [.str s,.int .i64 bk,.int .i64 252] 0 false→
    mT s a0 b h (qZ (s.drop (a0+1))) (.agg [.int .i64 0,.int .i64 0,.int .i64 0,.str []]) (ae.set (aC h.next) (.bh [.int .i64 0,.int .i64 0,.int .i64 0,.str []] 0 false)):=by
    intro ae bk aX ml tj
    unfold qZ
    rw [aX]
    refine ⟨ml.set (fun q=>absurd (show cd (aC h.next)<h.next from q) (by rw [c6];omega)) _,_,_,_,rfl,by decide,bk,?_⟩
    rw [dG,if_neg (by rw [cN];exact id),tj]
    rfl
   have step:∀(ae:af),Mod (fun q=>q=b) h ae→ab.next≤ae.next→dx (h.next+1) ae 1 v ez.length (hs ez)→∀(c:UInt8),∃v3 aI,kH 1 v (.slice (aC ae.next) 0 1 1) (ae.new (.bh [.int .u8 (c.toNat:Int)] 0 false))=.val v3 aI∧dx (h.next+1) aI 1 v3 (ez++[c]).length (hs (ez++[c]))∧Mod (fun q=>q=b) h aI∧h.next+1≤aI.next∧aI.get b=ae.get b∧aI.get (aC h.next)=ae.get (aC h.next):=by
    intro ae ml akF jP c
    obtain ⟨v3,aI,al,aq,aK,bG,di⟩:=sI (cs:=[.int .u8 (c.toNat:Int)]) (by omega) jP (by omega) (by unfold top;omega) rfl rfl
    refine ⟨v3,aI,al,by rw [List.length_append,Lc];exact aq,ml.aiZ aK (fun q aF=>Nat.le_trans (Nat.le_succ _) (jP.base aF)),by omega,?_,?_⟩
    · exact aK.get _ (ml.b0 fW) (fun aF=>wz jP _ aF rfl)
    · exact aK.get _ (gz (by omega)) (Uy jP _ (by omega))
   rcases bl with ⟨rfl,bl⟩ | ⟨rfl,bl⟩
   · by_cases fq:(s.length:Int)≤(a:Int)
     · have br:a=s.length:=by omega
       rw [br,List.drop_length,aiV] at bl
       simp +contextual only [bF,bT,bX,aH,fq,bj,cq,cN,↓ah,ao,simprocAttr]
       exact fin _ _ bl (hm.set (fun _=>rfl) _) (by rw [dG,if_pos rfl])
     · have aN:a<s.length:=by omega
       rw [drop_cons aN,aiU] at bl
       have f0:(0≤(a:Int))=True:=eq_true (by omega)
       have f1:((a:Int) < (s.length:Int))=True:=eq_true (by omega)
       have bQ:IntKind.i64.wrap ((a:Int)+1)=((a+1:Nat):Int):=by rw [wrap_i64 (by omega) (by omega)];rfl
       have h8:(((s[a]).toNat:Int)=34)=(s[a]=34):=ur _ 34 (by omega)
       have FX:(((s[a]).toNat:Int)=92)=(s[a]=92):=ur _ 92 (by omega)
       have Mg:(((s[a]).toNat:Int)=127)=(s[a]=127):=ur _ 127 (by omega)
       have OO:(((s[a]).toNat:Int)<32)=(s[a]<32):=ajc _ 32 (by omega)
       by_cases bz:s[a]=34
       · rw [if_pos bz] at bl
         replace bz:(s[a]=34)=True:=eq_true bz
         simp only [Option.map_some,List.append_nil] at bl
         by_cases x5:(4096:Int) < (ez.length:Int)
         · have jP:∀k cJ,dx (h.next+1) ((ab.set b k).set b cJ) 1 v ez.length (hs ez):=fun k cJ=>dD.mod (((Mod.refl (fun q=>q=b) ab).set (fun _=>rfl) _).set (fun _=>rfl) _) (wz dD)
           simp +contextual only [bF,bT,bX,aH,fq,bj,cq,cN,f0,f1,bQ,h8,bz,dD.v.len,x5,LQ (jP _ _),List.getElem?_eq_getElem aN,Int.toNat_natCast,↓ah,ao,simprocAttr]
           refine ⟨((hm.set (fun _=>rfl) _).set (fun _=>rfl) _).set (fun q=>absurd (show cd (aC h.next)<h.next from q) (by rw [c6];omega)) _,_,_,_,rfl,?_⟩
           unfold qZ
           rw [bl]
           simp only
           rw [if_pos (by omega)]
           refine ⟨by decide,((a+1:Nat):Int),?_⟩
           simp only [eD,cq,cN,↓ah,ao,simprocAttr]
         · have jP:∀k,dx (h.next+1) (ab.set b k) 1 v ez.length (hs ez):=fun k=>dD.mod ((Mod.refl (fun q=>q=b) ab).set (fun _=>rfl) _) (wz dD)
           simp +contextual only [bF,bT,bX,aH,fq,bj,cq,cN,f0,f1,bQ,h8,bz,dD.v.len,x5,LQ (jP _),List.getElem?_eq_getElem aN,Int.toNat_natCast,↓ah,ao,simprocAttr]
           refine ⟨(hm.set (fun _=>rfl) _).set (fun q=>absurd (show cd (aC h.next)<h.next from q) (by rw [c6];omega)) _,_,_,_,rfl,?_⟩
           unfold qZ
           rw [bl]
           simp only
           rw [if_neg (by omega)]
           refine ⟨rfl,rfl,rfl,?_,?_⟩
           · simp only [eD,cq,cN,↓ah,ao,simprocAttr]
             rw [show a0 + (1 + (a - (a0+1))+1)=a+1 from by omega]
           · simp only;omega
       rw [if_neg bz] at bl
       by_cases bN:s[a]=92
       · rw [if_pos bN] at bl
         replace bN:(s[a]=92)=True:=eq_true bN
         simp +contextual only [bF,bT,bX,aH,fq,bj,cq,cN,f0,f1,bQ,h8,FX,bz,bN,List.getElem?_eq_getElem aN,Int.toNat_natCast,↓ah,ao,simprocAttr]
         refine bK (Zg s a b ab aH aN aR NW) ?_
         rintro x ae ⟨ml,au⟩
         have jP:=dD.mod ml (wz dD)
         have pg:ae.get (aC h.next)=.bh [.int .i64 0,.int .i64 0,.int .i64 0,.str []] 0 false:=by
          rw [ml.get _ (gz (by omega)) (by rw [cN];exact id),bj]
         have qK:=ml.next
         obtain ⟨c,aw,vR⟩:∃c:UInt8,x=.int .u8 (c.toNat:Int)∧((∃n,nR (s.drop (a+1))=some (c,n)∧ae.get b=eD s ((a+1+n:Nat):Int) 0∧a+1+n≤s.length)∨(nR (s.drop (a+1))=none∧ae.get b=eD s ((a+1:Nat):Int) 252)):=by
          cases vE:nR (s.drop (a+1)) with
          | none=>rw [vE] at au;exact ⟨0,au.1,.inr ⟨rfl,au.2⟩⟩
          | some q=>rw [vE] at au;exact ⟨q.1,au.1,.inl ⟨q.2,rfl,au.2⟩⟩
         subst aw
         obtain ⟨v3,aI,al,aq,aK,bG,di,e0⟩:=step ae (hm.trans ml) qK jP c
         have QG:dx (h.next+1) aI 1 v3 (ez.length+1) (hs (ez++[c])):=by rw [List.length_append] at aq;exact aq
         have yJ:aI.get (aC h.next)=.bh [.int .i64 0,.int .i64 0,.int .i64 0,.str []] 0 false:=by rw [e0,pg]
         unfold eD at vR
         rcases vR with ⟨n,vE,tj,hle⟩ | ⟨vE,tj⟩
         · simp +contextual only [al,bF,bT,aH,tj,di,cq,cN,↓ah,ao,simprocAttr]
           rw [vE] at bl
           simp only at bl
           refine ⟨⟨a+1+n,0,ez++[c],rfl,hle,by omega,by simp;omega,yJ,aK,bG,aq,.inl ⟨rfl,?_⟩⟩,by omega⟩
           rw [bl,List.drop_drop,Option.map_map]
           congr 1
           funext q
           simp only [Function.comp,List.append_assoc,List.singleton_append,Prod.mk.injEq,true_and]
           omega
         · simp +contextual only [al,bF,bT,aH,tj,di,cq,cN,↓ah,ao,simprocAttr]
           rw [vE] at bl
           exact ⟨⟨a+1,252,ez++[c],rfl,by omega,by omega,by simp;omega,yJ,aK,bG,aq,.inr ⟨rfl,bl⟩⟩,by omega⟩
       rw [if_neg bN] at bl
       by_cases c3:s[a]<32∨s[a]=127
       · rw [if_pos c3] at bl
         have iN:(decide (s[a]<32)||decide (s[a]=127))=true:=by simpa using c3
         simp +contextual only [bF,bT,bX,aH,fq,bj,cq,cN,f0,f1,bQ,h8,FX,Mg,OO,bz,bN,iN,List.getElem?_eq_getElem aN,Int.toNat_natCast,↓ah,ao,simprocAttr]
         exact ⟨⟨a,252,ez,rfl,ck,pj,wc,hm.self _,kY,dD.mod ((Mod.refl (fun q=>q=b) ab).self _) (wz dD),.inr ⟨rfl,bl⟩⟩,by omega⟩
       · rw [if_neg c3] at bl
         have iN:(decide (s[a]<32)||decide (s[a]=127))=false:=by simpa using c3
         obtain ⟨v3,aI,al,aq,aK,bG,di,e0⟩:=step (ab.set b (.bh [.str s,.int .i64 ((a+1:Nat):Int),.int .i64 0] 0 false)) (hm.self _) (by rw [nx];exact Nat.le_refl _) (dD.mod ((Mod.refl (fun q=>q=b) ab).self _) (wz dD)) s[a]
         simp only [nx,dG,cq,cN,if_true,if_false] at al di e0
         simp +contextual only [al,bF,bT,bX,aH,fq,bj,cq,cN,f0,f1,bQ,h8,FX,Mg,OO,bz,bN,iN,di,List.getElem?_eq_getElem aN,Int.toNat_natCast,↓ah,ao,simprocAttr]
         refine ⟨⟨a+1,0,ez++[s[a]],rfl,by omega,by omega,by simp;omega,by rw [e0,bj],aK,bG,aq,.inl ⟨rfl,?_⟩⟩,by omega⟩
         rw [bl,Option.map_map]
         congr 1
         funext q
         simp only [Function.comp,List.append_assoc,List.singleton_append,Prod.mk.injEq,true_and]
         omega
   · simp +contextual only [bF,bT,bX,aH,bj,cq,cN,↓ah,ao,simprocAttr]
     exact fin _ _ bl hm aH
def Ia:List UInt8:=[32,97,110,100,32,98,101,103,105,110,32,101,108,115,101,32,101,110,100,32,101,120,99,101,112,116,105,111,110,32,102,97,108,115,101,32,102,117,110,32,105,102,32,105,110,32,108,101,116,32,109,97,116,99,104,32,109,111,100,32,111,102,32,114,97,105,115,101,32,114,101,99,32,116,104,101,110,32,116,114,117,101,32,116,114,121,32,116,121,112,101,32,119,105,116,104,32]
def rz:List (List UInt8)→List UInt8
 | []=>[32]
 | w::L=>32::(w++rz L)
theorem ZD:rz rX=Ia:=by decide
theorem ZC (L:List (List UInt8)):∃r,rz L=32::r:=by cases L<;>exact ⟨_,rfl⟩
theorem index_ge (sub:List UInt8):∀l:List UInt8,-1≤Lib.index l sub
 | []=>by simp only [Lib.index];split<;>decide
 | b::l=>by
   have:=index_ge sub l
   simp only [Lib.index]
   split
   · decide
   · split<;>omega
theorem Ow (sub:List UInt8) (b:UInt8) (l:List UInt8):(0≤Lib.index (b::l) sub)↔(sub.isPrefixOf (b::l)=true∨0≤Lib.index l sub):=by
 have:=index_ge sub l
 simp only [Lib.index]
 split
 · rename_i h;simp [h]
 · rename_i h
   split
   · rename_i ae
     have:Lib.index l sub=-1:=by simpa using ae
     simp [h,this]
   · rename_i ae
     have aI:¬Lib.index l sub=-1:=by simpa using ae
     simp only [h,Bool.false_eq_true,false_or]
     omega
theorem Oy (x:List UInt8) (r:List UInt8):∀w:List UInt8,(32:UInt8) ∉ w→((0≤Lib.index (w++r) (32::x))↔0≤Lib.index r (32::x))
 | [],_=>Iff.rfl
 | b::w,h=>by
   rw [List.cons_append,Ow,Oy x r w (fun q=>h (List.mem_cons_of_mem _ q))]
   have ai:((32:UInt8) == b)=false:=by rw [beq_eq_false_iff_ne];rintro rfl;exact h (List.mem_cons_self ..)
   simp [List.isPrefixOf,ai]
theorem Qp (r:List UInt8):∀(t w:List UInt8),(32:UInt8) ∉ t→(32:UInt8) ∉ w→((t++[32]).isPrefixOf (w++32::r)=true↔t=w)
 | [],[],_,_=>by simp [List.isPrefixOf]
 | [],b::w,_,h=>by
   have ai:((32:UInt8) == b)=false:=by rw [beq_eq_false_iff_ne];rintro rfl;exact h (List.mem_cons_self ..)
   simp [List.isPrefixOf,ai]
 | a::t,[],h,_=>by
   have ai:(a == (32:UInt8))=false:=by rw [beq_eq_false_iff_ne];rintro rfl;exact h (List.mem_cons_self ..)
   simp [List.isPrefixOf,ai]
 | a::t,b::w,h,ab=>by
   have bg:=Qp r t w (fun q=>h (List.mem_cons_of_mem _ q)) (fun q=>ab (List.mem_cons_of_mem _ q))
   simp only [List.cons_append,List.isPrefixOf,Bool.and_eq_true,beq_iff_eq,bg,List.cons.injEq]
theorem Ox (t:List UInt8) (aG:(32:UInt8) ∉ t):∀L:List (List UInt8),(∀w ∈ L,(32:UInt8) ∉ w)→((0≤Lib.index (rz L) (32::(t++[32])))↔t ∈ L)
 | [],_=>by
   cases t<;>simp [rz,Lib.index,List.isPrefixOf]
 | w::L,h=>by
   have bg:=Ox t aG L (fun x au=>h x (List.mem_cons_of_mem _ au))
   have hw:=h w (List.mem_cons_self ..)
   obtain ⟨r,aJ⟩:=ZC L
   simp only [rz]
   rw [Ow,Oy _ _ _ hw,bg,List.mem_cons]
   have:(32::(t++[32])).isPrefixOf (32::(w++rz L))=(t++[32]).isPrefixOf (w++rz L):=by simp [List.isPrefixOf]
   rw [this,aJ,Qp r t w aG hw]
theorem Yz (t:List UInt8) (aG:(32:UInt8) ∉ t):Lib.contains Ia (32::(t++[32]))=nm t:=by
 have:=Ox t aG rX (by decide)
 rw [ZD] at this
 unfold Lib.contains nm
 rw [Bool.eq_iff_iff,decide_eq_true_eq,this]
 simp
theorem afy {l:List UInt8}:(32:UInt8) ∉ l.takeWhile eJ:=fun h=>by
 have:=RG _ h
 revert this
 decide
theorem Cn (s:List UInt8) (a0:Nat) (k:Int) (b:aQ) (h:af) (ai:h.get b=eD s a0 0) (bb:a0≤s.length) (aR:s.length≤100000) (fW:Old h b):
 bB Tryz.prog 109 [.ptr b 0,.int .i64 k] h (mT s a0 b h (iS k (s.drop a0))):=by
 refine U1 rfl (cR ?_)
 unfold EL
 have cq:(b=aC h.next)=False:=y9 fW (Nat.le_refl _)
 have cN:(aC h.next=b)=False:=by rw [←cq];exact propext eq_comm
 simp +contextual only [ai,cq,cN,↓ah,ao,simprocAttr]
 have au:Ext h (h.new (.bh [.int .i64 0,.int .i64 0,.int .i64 0,.str []] 0 false)):=(Ext.refl h).new _
 refine bK (Q4 s a0 0 b 119 rZ _ (by rw [au.get _ fW,ai]) bb aR (by decide) (fun c h=>afi c h)) ?_
 rintro x aa ⟨rfl,hm,aH⟩
 have jd:(fun c:UInt8=>rZ (c.toNat:Int))=eJ:=rfl
 rw [jd] at aH ⊢
 have tt:Mod (fun q=>q=b) h aa:=(au.mod _).trans hm
 have g1:aa.get (aC h.next)=.bh [.int .i64 0,.int .i64 0,.int .i64 0,.str []] 0 false:=by
  rw [hm.get _ (gz (by rw [gx];omega)) (by rw [cN];exact id)]
  simp only [↓ah,ao,simprocAttr]
 have hlen:=RH eJ s a0
 have aas:(32:UInt8) ∉ (s.drop a0).takeWhile eJ:=afy
 unfold eD at aH
 have tu:iS k (s.drop a0)=if k=3∧(s.drop a0).takeWhile eJ=[95] then .ok (7,0,(s.drop a0).takeWhile eJ,((s.drop a0).takeWhile eJ).length) else if k=3∧nm ((s.drop a0).takeWhile eJ) then .ok (6,0,(s.drop a0).takeWhile eJ,((s.drop a0).takeWhile eJ).length) else if 64 < ((s.drop a0).takeWhile eJ).length then .error 255 else .ok (k,0,(s.drop a0).takeWhile eJ,((s.drop a0).takeWhile eJ).length):=rfl
 rw [tu]
 generalize (s.drop a0).takeWhile eJ=t at *
 have CC:∀(cU:Int),mT s a0 b h (.ok (cU,0,t,t.length)) (.agg [.int .i64 cU,.int .i64 0,.int .i64 0,.str t]) (aa.set (aC h.next) (.bh [.int .i64 cU,.int .i64 0,.int .i64 0,.str t] 0 false)):=by
  intro cU
  refine ⟨tt.fresh (Nat.le_refl _) _,_,_,_,rfl,rfl,rfl,rfl,?_,by show a0+t.length≤s.length;omega⟩
  rw [dG,if_neg (by rw [cN];exact id),aH]
  rfl
 have tail:(64<t.length→mT s a0 b h (.error 255) (.agg [.int .i64 k,.int .i64 0,.int .i64 0,.str t]) ((aa.set b (.bh [.str s,.int .i64 ((a0+t.length:Nat):Int),.int .i64 255] 0 false)).set (aC h.next) (.bh [.int .i64 k,.int .i64 0,.int .i64 0,.str t] 0 false))):=by
  intro ak
  refine ⟨(tt.self _).fresh (Nat.le_refl _) _,_,_,_,rfl,by decide,((a0+t.length:Nat):Int),?_⟩
  simp only [eD,cq,cN,↓ah,ao,simprocAttr]
 by_cases aD:k=3
 · subst aD
   by_cases hu:t=[95]
   · simp +contextual only [g1,aH,cq,cN,hu,true_and,↓ah,ao,simprocAttr]
     subst hu
     exact CC 7
   · have t1:(1+t.length≤top)=True:=eq_true (by unfold top;omega)
     have t2:(t.length+1+1≤top)=True:=eq_true (by unfold top;omega)
     simp only [top] at t1 t2
     simp +contextual only [g1,aH,cq,cN,hu,true_and,List.length_append,t1,t2,↓ah,ao,simprocAttr]
     refine fj (Yy Ia (32::(t++[32])) (by decide) _) ?_
     rw [Yz t aas]
     cases G5:nm t with
     | true=>
       simp +contextual only [g1,aH,cq,cN,hu,true_and,and_false,G5,List.length_append,t1,t2,↓ah,ao,simprocAttr]
       exact CC 6
     | false=>
       by_cases ak:64<t.length
       · have eA:(64:Int) < (t.length:Int):=by omega
         simp +contextual only [g1,aH,cq,cN,hu,ak,eA,true_and,and_false,G5,List.length_append,t1,t2,Bool.false_eq_true,↓ah,ao,simprocAttr]
         exact tail ak
       · have eA:¬(64:Int) < (t.length:Int):=by omega
         simp +contextual only [g1,aH,cq,cN,hu,ak,eA,true_and,and_false,G5,List.length_append,t1,t2,Bool.false_eq_true,↓ah,ao,simprocAttr]
         exact CC 3
 · by_cases ak:64<t.length
   · have eA:(64:Int) < (t.length:Int):=by omega
     simp +contextual only [g1,aH,cq,cN,aD,ak,eA,false_and,↓ah,ao,simprocAttr]
     exact tail ak
   · have eA:¬(64:Int) < (t.length:Int):=by omega
     simp +contextual only [g1,aH,cq,cN,aD,ak,eA,false_and,↓ah,ao,simprocAttr]
     exact CC k
def wT:List V:=ij.map V.str
theorem aif (h:af):bB Tryz.prog 111 [] h fun x ab=>x=.slice (aC h.next) 0 17 17∧ab=h.new (.bh wT 0 false):=by
 refine U' rfl (cR ?_)
 unfold EN
 simp +contextual only [↓ah,ao,simprocAttr]
 rfl
theorem aid {i:Nat} (av:i<17):wT[i]? =some (.str (ij[i]'av)):=by
 unfold wT
 rw [List.getElem?_map,List.getElem?_eq_getElem (show i<ij.length from av)]
 rfl
theorem ZA (p:List UInt8→Bool) {i:Nat} (av:i<17):(ij.drop i).find? p=if p (ij[i]'av) then some (ij[i]'av) else (ij.drop (i+1)).find? p:=by
 rw [List.drop_eq_getElem_cons (show i<ij.length from av),List.find?_cons]
 cases p ij[i]<;>rfl
theorem mT.store {s:List UInt8} {p:Nat} {b:aQ} {h:af} {z cJ:b3} {res:rn} {x:V} {aa:af} (w:mT s p b (h.new z) res x aa) (fW:Old h b):mT s p b h res x (aa.set (aC h.next) cJ):=by
 have cN:¬(aC h.next=b):=by
  intro q
  have:cd b<h.next:=fW
  rw [←q,c6] at this
  omega
 obtain ⟨hm,k,n,t,au,aJ⟩:=w
 refine ⟨((((Ext.refl h).new z).mod _).trans hm).fresh (Nat.le_refl _) _,k,n,t,au,?_⟩
 cases res with
 | ok q=>simpa only [dG,if_neg cN] using aJ
 | error e=>simpa only [dG,if_neg cN] using aJ
theorem af5 (s:List UInt8) (a0:Nat) (b:aQ) (h:af) (ai:h.get b=eD s a0 0) (bb:a0<s.length) (aR:s.length≤100000) (fW:Old h b):
 bB Tryz.prog 95 [.ptr b 0] h (mT s a0 b h (gm (s.drop a0))):=by
 refine XV rfl (cR ?_)
 unfold FD
 have cq:(b=aC h.next)=False:=y9 fW (Nat.le_refl _)
 have cN:(aC h.next=b)=False:=by rw [←cq];exact propext eq_comm
 have hG:=ai
 unfold eD at ai
 have f0:(0≤(a0:Int))=True:=eq_true (by omega)
 have f1:((a0:Int) < (s.length:Int))=True:=eq_true (by omega)
 have au:Ext h (h.new (.bh [.int .i64 0,.int .i64 0,.int .i64 0,.str []] 0 false)):=(Ext.refl h).new _
 have vM:Old (h.new (.bh [.int .i64 0,.int .i64 0,.int .i64 0,.str []] 0 false)) b:=au.b0 fW
 have x7:(h.new (.bh [.int .i64 0,.int .i64 0,.int .i64 0,.str []] 0 false)).get b=eD s a0 0:=by rw [au.get _ fW,hG]
 have vo:∀{res:rn} {x:V} {aa:af},mT s a0 b (h.new (.bh [.int .i64 0,.int .i64 0,.int .i64 0,.str []] 0 false)) res x aa→aa.get (aC h.next)=.bh [.int .i64 0,.int .i64 0,.int .i64 0,.str []] 0 false:=by
  intro res x aa w
  rw [w.mod.get _ (gz (by rw [gx];omega)) (by rw [cN];exact id)]
  simp only [↓ah,ao,simprocAttr]
 have aY:=drop_cons bb
 rw [aY]
 have dg:lA ((s[a0]).toNat:Int)=eH s[a0]:=rfl
 have h8:(((s[a0]).toNat:Int)=34)=(s[a0]=34):=ur _ 34 (by omega)
 have rv:(((s[a0]).toNat:Int)=95)=(s[a0]=95):=ur _ 95 (by omega)
 have u_:(((s[a0]).toNat:Int)=39)=(s[a0]=39):=ur _ 39 (by omega)
 simp +contextual only [ai,cq,cN,f0,f1,List.getElem?_eq_getElem bb,Int.toNat_natCast,↓ah,ao,simprocAttr]
 refine fj (u6 _ _) ?_
 rw [dg]
 cases aa:eH s[a0] with
 | true=>
   have dN:gm (s[a0]::s.drop (a0+1))=wA (s.drop a0):=by rw [aY];simp only [gm,aa,if_true]
   rw [dN]
   simp +contextual only [ai,cq,cN,f0,f1,List.getElem?_eq_getElem bb,Int.toNat_natCast,↓ah,ao,simprocAttr]
   refine bK (age s a0 b _ x7 bb aR vM aa) ?_
   rintro x aj w
   have g1:=vo w
   obtain ⟨k,n,t,rfl,_⟩:=w.res
   simp +contextual only [g1,ai,cq,cN,f0,f1,↓ah,ao,simprocAttr]
   exact w.store fW
 | false=>
   by_cases ae:s[a0]=34
   · have dN:gm (s[a0]::s.drop (a0+1))=qZ (s.drop (a0+1)):=by simp only [gm];rw [if_neg (by rw [aa];exact Bool.false_ne_true),if_pos ae]
     rw [dN]
     replace ae:=eq_true ae
     simp +contextual only [ai,cq,cN,f0,f1,h8,ae,List.getElem?_eq_getElem bb,Int.toNat_natCast,↓ah,ao,simprocAttr]
     refine bK (aiW s a0 b _ x7 bb aR vM) ?_
     rintro x aj w
     have g1:=vo w
     obtain ⟨k,n,t,rfl,_⟩:=w.res
     simp +contextual only [g1,ai,cq,cN,f0,f1,↓ah,ao,simprocAttr]
     exact w.store fW
   simp +contextual only [ai,cq,cN,f0,f1,h8,ae,List.getElem?_eq_getElem bb,Int.toNat_natCast,↓ah,ao,simprocAttr]
   refine fj (Dj _ _) ?_
   by_cases aI:(gn ((s[a0]).toNat:Int)||decide (s[a0]=95))=true
   · have dN:gm (s[a0]::s.drop (a0+1))=iS 3 (s.drop a0):=by rw [aY];simp only [gm,aa,ae,aI,Bool.false_eq_true,if_false,if_true]
     rw [dN]
     have fin:mW Tryz.prog 109 [.ptr b 0,.int .i64 3] (some 33) none [] [] (fun _=>.bad) h (fun _ _ _=>True)→True:=fun _=>trivial
     cases HD:gn ((s[a0]).toNat:Int) with
     | true=>
       simp +contextual only [ai,cq,cN,f0,f1,h8,ae,HD,List.getElem?_eq_getElem bb,Int.toNat_natCast,↓ah,ao,simprocAttr]
       refine bK (Cn s a0 3 b _ x7 (by omega) aR vM) ?_
       rintro x aj w
       have g1:=vo w
       obtain ⟨k,n,t,rfl,_⟩:=w.res
       simp +contextual only [g1,ai,cq,cN,f0,f1,↓ah,ao,simprocAttr]
       exact w.store fW
     | false=>
       rw [HD,Bool.false_or,decide_eq_true_eq] at aI
       replace aI:=eq_true aI
       simp +contextual only [ai,cq,cN,f0,f1,h8,rv,ae,aI,HD,List.getElem?_eq_getElem bb,Int.toNat_natCast,↓ah,ao,simprocAttr]
       refine bK (Cn s a0 3 b _ x7 (by omega) aR vM) ?_
       rintro x aj w
       have g1:=vo w
       obtain ⟨k,n,t,rfl,_⟩:=w.res
       simp +contextual only [g1,ai,cq,cN,f0,f1,↓ah,ao,simprocAttr]
       exact w.store fW
   · have Gp:=aI
     rw [Bool.not_eq_true,Bool.or_eq_false_iff,decide_eq_false_iff_not] at Gp
     obtain ⟨aau,aav⟩:=Gp
     simp +contextual only [ai,cq,cN,f0,f1,h8,rv,ae,aau,aav,List.getElem?_eq_getElem bb,Int.toNat_natCast,↓ah,ao,simprocAttr]
     refine fj (M7 _ _) ?_
     cases bu:lF ((s[a0]).toNat:Int) with
     | true=>
       have dN:gm (s[a0]::s.drop (a0+1))=iS 4 (s.drop a0):=by rw [aY];simp only [gm,aa,ae,aI,bu,Bool.false_eq_true,if_false,if_true]
       rw [dN]
       simp +contextual only [ai,cq,cN,f0,f1,List.getElem?_eq_getElem bb,Int.toNat_natCast,↓ah,ao,simprocAttr]
       refine bK (Cn s a0 4 b _ x7 (by omega) aR vM) ?_
       rintro x aj w
       have g1:=vo w
       obtain ⟨k,n,t,rfl,_⟩:=w.res
       simp +contextual only [g1,ai,cq,cN,f0,f1,↓ah,ao,simprocAttr]
       exact w.store fW
     | false=>
       have bU:IntKind.i64.wrap ((a0:Int)+1)=((a0+1:Nat):Int):=by rw [wrap_i64 (by omega) (by omega)];rfl
       have f2:(0≤((a0+1:Nat):Int))=True:=eq_true (by omega)
       by_cases cf:s[a0]=39∧kS (s.drop (a0+1))
       · have dN:gm (s[a0]::s.drop (a0+1))=(iS 5 (s.drop (a0+1))).map fun q=>(q.1,q.2.1,q.2.2.1,q.2.2.2+1):=by simp only [gm];rw [if_neg (by rw [aa];exact Bool.false_ne_true),if_neg ae,if_neg aI,if_neg (by rw [bu];exact Bool.false_ne_true),if_pos cf]
         rw [dN]
         obtain ⟨Bx,By⟩:=cf
         replace Bx:=eq_true Bx
         have aN:a0+1<s.length:=by
          by_cases q:a0+1<s.length
          · exact q
          · rw [List.drop_eq_nil_of_le (by omega)] at By
            cases By
         rw [drop_cons aN] at By
         have f3:(((a0+1:Nat):Int) < (s.length:Int))=True:=eq_true (by omega)
         simp +contextual (maxSteps:=1000000) only [ai,cq,cN,f0,f1,f2,f3,bU,h8,rv,u_,ae,Bx,List.getElem?_eq_getElem bb,List.getElem?_eq_getElem aN,Int.toNat_natCast,↓ah,ao,simprocAttr]
         refine fj (Dj _ _) ?_
         rw [show gn ((s[a0+1]).toNat:Int)=true from By]
         simp +contextual (maxSteps:=1000000) only [ai,cq,cN,f0,f1,f2,f3,bU,h8,rv,u_,ae,Bx,List.getElem?_eq_getElem bb,List.getElem?_eq_getElem aN,Int.toNat_natCast,↓ah,ao,simprocAttr]
         have NR:Mod (fun q=>q=b) (h.new (.bh [.int .i64 0,.int .i64 0,.int .i64 0,.str []] 0 false)) ((h.new (.bh [.int .i64 0,.int .i64 0,.int .i64 0,.str []] 0 false)).set b (.bh [.str s,.int .i64 ((a0+1:Nat):Int),.int .i64 0] 0 false)):=(Mod.refl _ _).self _
         refine bK (Cn s (a0+1) 5 b _ (by rw [dG,if_pos rfl];rfl) (by omega) aR (NR.b0 vM)) ?_
         rintro x aj w
         have ar:mT s a0 b (h.new (.bh [.int .i64 0,.int .i64 0,.int .i64 0,.str []] 0 false)) ((iS 5 (s.drop (a0+1))).map fun q=>(q.1,q.2.1,q.2.2.1,q.2.2.2+1)) x aj:=by
          obtain ⟨ajs,k,n,t,ajD,wr⟩:=w
          refine ⟨NR.trans ajs,k,n,t,ajD,?_⟩
          cases aX:iS 5 (s.drop (a0+1)) with
          | error e=>rw [aX] at wr;exact wr
          | ok q=>
            rw [aX] at wr
            obtain ⟨bp,bT,bX,ew,cu⟩:=wr
            refine ⟨bp,bT,bX,?_,?_⟩
            · rw [ew]
              show eD s ((a0+1+q.2.2.2:Nat):Int) 0=eD s ((a0 + (q.2.2.2+1):Nat):Int) 0
              rw [show a0+1+q.2.2.2=a0 + (q.2.2.2+1) from by omega]
            · show a0 + (q.2.2.2+1)≤s.length
              omega
         have g1:=vo ar
         obtain ⟨k,n,t,rfl,_⟩:=ar.res
         simp +contextual only [g1,ai,cq,cN,f0,f1,↓ah,ao,simprocAttr]
         exact ar.store fW
       · have dN:gm (s[a0]::s.drop (a0+1))=wS (s.drop a0):=by rw [aY];simp only [gm];rw [if_neg (by rw [aa];exact Bool.false_ne_true),if_neg ae,if_neg aI,if_neg (by rw [bu];exact Bool.false_ne_true),if_neg cf]
         rw [dN]
         have BF:((s[a0]=39)=False)∨(((s[a0]=39)=True)∧¬a0+1<s.length)∨(((s[a0]=39)=True)∧∃aN:a0+1<s.length,gn ((s[a0+1]).toNat:Int)=false):=by
          by_cases q:s[a0]=39
          · by_cases aN:a0+1<s.length
            · refine .inr (.inr ⟨eq_true q,aN,?_⟩)
              cases aF:gn ((s[a0+1]).toNat:Int) with
              | false=>rfl
              | true=>exact absurd ⟨q,by rw [drop_cons aN];exact aF⟩ cf
            · exact .inr (.inl ⟨eq_true q,aN⟩)
          · exact .inl (eq_false q)
         have two:∀t ∈ ij,t.length≤2:=by decide
         have p1:((17:Nat):Int)=17:=rfl
         rcases BF with al | ⟨al,aq⟩ | ⟨al,aN,aq⟩
         case' neg.inl=>
          simp +contextual (maxSteps:=1000000) only [ai,cq,cN,f0,f1,f2,bU,h8,rv,u_,ae,al,List.getElem?_eq_getElem bb,Int.toNat_natCast,↓ah,ao,simprocAttr]
         case' neg.inr.inl=>
          have f3:(((a0+1:Nat):Int) < (s.length:Int))=False:=eq_false (by omega)
          simp +contextual (maxSteps:=1000000) only [ai,cq,cN,f0,f1,f2,f3,bU,h8,rv,u_,ae,al,List.getElem?_eq_getElem bb,Int.toNat_natCast,↓ah,ao,simprocAttr]
         case' neg.inr.inr=>
          have f3:(((a0+1:Nat):Int) < (s.length:Int))=True:=eq_true (by omega)
          simp +contextual (maxSteps:=1000000) only [ai,cq,cN,f0,f1,f2,f3,bU,h8,rv,u_,ae,al,List.getElem?_eq_getElem bb,List.getElem?_eq_getElem aN,Int.toNat_natCast,↓ah,ao,simprocAttr]
          refine fj (Dj _ _) ?_
          rw [aq]
          simp +contextual (maxSteps:=1000000) only [ai,cq,cN,f0,f1,f2,f3,bU,h8,rv,u_,ae,al,List.getElem?_eq_getElem bb,List.getElem?_eq_getElem aN,Int.toNat_natCast,↓ah,ao,simprocAttr]
         all_goals
          refine bK (aif _) ?_
          rintro x aj ⟨rfl,rfl⟩
          simp +contextual only [↓ah,ao,simprocAttr]
          refine fD (fun r ab=>r 0=.ptr b 0∧r 2=.ptr (aC h.next) 0∧r 77=.slice (aC (h.next+1)) 0 17 17∧r 78=.int .i64 17∧∃i:Nat,i≤17∧r 79=.int .i64 i∧ab=(h.new (.bh [.int .i64 0,.int .i64 0,.int .i64 0,.str []] 0 false)).new (.bh wT 0 false)∧
           ij.find? (·.isPrefixOf (s.drop a0))=(ij.drop i).find? (·.isPrefixOf (s.drop a0))) (fun r ab=>17 - (r 79).toN) ?_ ?_
          · exact ⟨by simp only [↓ah,ao,simprocAttr],by simp only [↓ah,ao,simprocAttr],by simp only [↓ah,ao,simprocAttr],by simp only [p1,↓ah,ao,simprocAttr],0,by omega,by simp only [↓ah,ao,simprocAttr]<;>rfl,rfl,rfl⟩
          · rintro r ab ⟨bF,bT,C2,C3,i,av,C4,rfl,rH⟩
            unfold LH
            have NW:Old ((h.new (.bh [.int .i64 0,.int .i64 0,.int .i64 0,.str []] 0 false)).new (.bh wT 0 false)) b:=(au.new _).b0 fW
            have qj:((h.new (.bh [.int .i64 0,.int .i64 0,.int .i64 0,.str []] 0 false)).new (.bh wT 0 false)).get b=.bh [.str s,.int .i64 a0,.int .i64 0] 0 false:=by rw [(au.new _).get _ fW,ai]
            have y8:(b=aC (h.next+1))=False:=y9 fW (by omega)
            have AL:(aC (h.next+1)=b)=False:=by rw [←y8];exact propext eq_comm
            by_cases lM:i<17
            · have g0:((i:Int)<17)=True:=eq_true (by omega)
              have g1:(0≤(i:Int))=True:=eq_true (by omega)
              rw [ZA _ lM] at rH
              have hlen:=two _ (List.getElem_mem (h:=(show i<ij.length from lM)))
              simp +contextual only [p1,bF,bT,C2,C3,C4,g0,g1,cq,cN,y8,AL,Int.toNat_natCast,Nat.mul_one,aid lM,↓ah,ao,simprocAttr]
              refine fj (Gy s _ (a0:Int) [.int .i64 0] b 0 false _ qj (by omega) (by omega)) ?_
              rw [Int.toNat_natCast]
              cases pc:(ij[i]'lM).isPrefixOf (s.drop a0) with
              | true=>
                rw [pc,if_pos rfl] at rH
                have kf:(ij[i]'lM).length≤s.length-a0:=by
                 rw [List.isPrefixOf_iff_prefix] at pc
                 have:=pc.length_le
                 rwa [List.length_drop] at this
                have kz:IntKind.i64.wrap ((a0:Int) + ((ij[i]'lM).length:Int))=((a0 + (ij[i]'lM).length:Nat):Int):=by rw [wrap_i64 (by omega) (by omega)];rfl
                simp +contextual only [p1,bF,bT,C2,C3,C4,g0,g1,kz,cq,cN,y8,AL,ai,↓ah,ao,simprocAttr]
                unfold wS
                rw [rH]
                refine ⟨(((au.new _).mod _).self _).fresh (Nat.le_refl _) _,_,_,_,rfl,rfl,rfl,rfl,?_,by show a0 + (ij[i]'lM).length≤s.length;omega⟩
                simp only [eD,cq,cN,↓ah,ao,simprocAttr]
              | false=>
                rw [pc,if_neg Bool.false_ne_true] at rH
                have kz:IntKind.i64.wrap ((i:Int)+1)=((i+1:Nat):Int):=by rw [wrap_i64 (by omega) (by omega)];rfl
                simp +contextual only [p1,bF,bT,C2,C3,C4,g0,g1,kz,cq,cN,y8,AL,ai,↓ah,ao,simprocAttr]
                exact ⟨⟨i+1,by omega,rfl,rH⟩,by omega⟩
            · obtain rfl:i=17:=by omega
              have de:ij.find? (·.isPrefixOf (s.drop a0))=none:=by rw [rH];rfl
              have g0:((17:Int)<17)=False:=eq_false (by omega)
              simp +contextual only [p1,bF,bT,C2,C3,C4,g0,qj,cq,cN,y8,AL,ai,↓ah,ao,simprocAttr]
              unfold wS
              rw [de]
              refine ⟨(((au.new _).mod _).self _).fresh (Nat.le_refl _) _,_,_,_,rfl,by decide,(a0:Int),?_⟩
              simp only [eD,cq,cN,↓ah,ao,simprocAttr]
theorem M0 (s:List UInt8) (i:Nat):(ByteArray.mk ⟨s⟩).get! i=(s[i]?).getD 0:=by
 show (Array.mk s)[i]! =_
 simp
 rfl
theorem YO (s:List UInt8) (a:Nat):Lib.decodeGo ⟨⟨s.drop a⟩⟩=if a<s.length then decodeL s a else (65533,0):=by
 unfold Lib.decodeGo decodeL
 have bj:(ByteArray.mk ⟨s.drop a⟩).size=s.length-a:=by
  show (s.drop a).length=_
  rw [List.length_drop]
 have pg:(ByteArray.mk ⟨s⟩).size=s.length:=rfl
 by_cases br:a<s.length
 · rw [if_pos br,if_neg (by rw [bj];omega),Lib.decode_at,Lib.decode_at,bj,pg]
   simp only [M0,List.getElem?_drop,Nat.add_zero,Nat.sub_zero,Nat.zero_add]
 · rw [if_neg br,if_pos (by rw [bj];omega)]
theorem af3 {h:af} {b:aQ} {s:List UInt8} {a:Nat} (aH:h.get b=.iter s a):
 tT (.ptr b 0) h=if a<s.length then .val (.tuple [.bool true,.int .i64 a,.int .i32 (decodeL s a).1]) (h.set b (.iter s (a + (decodeL s a).2))) else .val (.tuple [.bool false]) h:=by
 unfold tT
 simp only [V.h1,aH]
 rw [show Nat.beq 0 0=true from rfl]
 simp only [cond_true]
 by_cases br:a<s.length
 · rw [if_pos br,show Nat.blt a s.length=true from by rw [Nat.blt_eq];exact br]
   rfl
 · rw [if_neg br,show Nat.blt a s.length=false from by rw [←Bool.not_eq_true,Nat.blt_eq];exact br]
   rfl
def acW (s:List UInt8):b3→Nat
 | .iter _ a=>s.length-a
 | _=>0
theorem YM (s:List UInt8) (a:Nat):1≤(decodeL s a).2:=by
 unfold decodeL
 rw [Lib.decode_at]
 unfold Lib.decodeN
 repeat' split
 all_goals simp
theorem ahH (s:List UInt8) (aR:s.length≤100000) (h:af):bB Tryz.prog 91 [.str s] h fun x ab=>x=.int .i64 (sf s:Nat)∧Ext h ab:=by
 refine XJ rfl (cR ?_)
 unfold Fz
 simp +contextual only [↓ah,ao,simprocAttr]
 refine fD (fun r ab=>r 0=.str s∧r 8=.ptr (aC h.next) 0∧Ext h ab∧∃a,ab.get (aC h.next)=.iter s a∧sf s=pz s a) (fun r ab=>acW s (ab.get (aC h.next))) ?_ ?_
 · exact ⟨by simp only [↓ah,ao,simprocAttr],by simp only [↓ah,ao,simprocAttr],(Ext.refl h).new _,0,by simp only [↓ah,ao,simprocAttr],rfl⟩
 · rintro r ab ⟨bF,d',au,a,aH,br⟩
   unfold LF
   have kY:=af3 aH
   by_cases aN:a<s.length
   · rw [if_pos aN] at kY
     have aj:=YM s a
     by_cases aw:(decodeL s a).1=65533
     · have nX:(((decodeL s a).1:Int)=65533)=True:=eq_true (by omega)
       have f0:(0≤(a:Int))=True:=eq_true (by omega)
       have f1:((a:Int)≤(s.length:Int))=True:=eq_true (by omega)
       simp +contextual only [bF,d',kY,nX,f0,f1,Int.toNat_natCast,↓ah,ao,simprocAttr]
       refine fj (YN _ _) ?_
       rw [YO,if_pos aN]
       by_cases hw:(decodeL s a).2=1
       · have HL:(((decodeL s a).2:Int)=1)=True:=eq_true (by omega)
         have tc:lz s a=0:=by unfold lz;rw [if_pos (Prod.ext aw hw)]
         rw [ahG aN tc] at br
         simp +contextual only [bF,d',kY,nX,HL,f0,f1,Int.toNat_natCast,↓ah,ao,simprocAttr]
         rw [br]
         exact ⟨rfl,au.set (Nat.le_refl _) _⟩
       · have HL:(((decodeL s a).2:Int)=1)=False:=eq_false (by omega)
         have tc:lz s a=(decodeL s a).2:=by unfold lz;rw [if_neg (fun q=>hw (congrArg Prod.snd q))]
         rw [Jm aN (by rw [tc];omega),tc] at br
         simp +contextual only [bF,d',kY,nX,HL,f0,f1,Int.toNat_natCast,↓ah,ao,simprocAttr]
         refine ⟨⟨au.set (Nat.le_refl _) _,_,rfl,br⟩,?_⟩
         rw [aH]
         show s.length - (a + (decodeL s a).2)<s.length-a
         omega
     · have nX:(((decodeL s a).1:Int)=65533)=False:=eq_false (by omega)
       have tc:lz s a=(decodeL s a).2:=by unfold lz;rw [if_neg (fun q=>aw (congrArg Prod.fst q))]
       rw [Jm aN (by rw [tc];omega),tc] at br
       simp +contextual only [bF,d',kY,nX,Int.toNat_natCast,↓ah,ao,simprocAttr]
       refine ⟨⟨au.set (Nat.le_refl _) _,_,rfl,br⟩,?_⟩
       rw [aH]
       show s.length - (a + (decodeL s a).2)<s.length-a
       omega
   · rw [if_neg aN] at kY
     rw [QW (by omega)] at br
     simp +contextual only [bF,d',kY,Int.toNat_natCast,↓ah,ao,simprocAttr]
     rw [br]
     exact ⟨rfl,au⟩
def b4.enc (w:b4):List V:=[.int .i64 w.kind,.int .i64 w.num,.int .i64 w.pos,.str w.text]
def hP:List b4→List V
 | []=>[]
 | w::ws=>w.enc++hP ws
theorem R0:∀a b:List b4,hP (a++b)=hP a++hP b
 | [],b=>rfl
 | w::a,b=>by simp only [hP,List.cons_append,R0 a b,List.append_assoc]
def zq (ws:List b4):Except (Int × Nat) (List b4)→Except (Int × Nat) (List b4)
 | .ok bQ=>.ok (ws++bQ)
 | .error e=>.error e
theorem ag8 (ws:List b4) (w:b4) (r:Except (Int × Nat) (List b4)):zq ws (xM w r)=zq (ws++[w]) r:=by
 cases r with
 | ok bQ=>simp [zq,xM]
 | error e=>rfl
theorem ag9 (r:Except (Int × Nat) (List b4)):zq [] r=r:=by cases r<;>rfl
def S1 (s:List UInt8) (h:af) (x:V) (ab:af):Prop:=Ext h ab∧match jX s with
 | .ok ws=>∃v,x=.tuple [v,.agg [.int .i64 0,.int .i64 0]]∧dx h.next ab 4 v ws.length (hP ws)
 | .error e=>x=.tuple [.bW,.agg [.int .i64 e.1,.int .i64 e.2]]
theorem K8 (c:UInt8):(0≤Lib.indexByte [9,10,13,32] c)=(blank c=true):=by
 have bb:∀d:UInt8,(d == c)=decide (c=d):=fun d=>by
  by_cases q:c=d
  · subst q;simp
  · have dZ:¬d=c:=fun e=>q e.symm
    simp [q,dZ]
 simp only [Lib.indexByte,bb,blank]
 by_cases aa:c=9
 · subst aa;decide
 · by_cases ae:c=10
   · subst ae;decide
   · by_cases aI:c=13
     · subst aI;decide
     · by_cases bu:c=32
       · subst bu;decide
       · simp [aa,ae,aI,bu]
theorem O7 (s:List UInt8) (h:af):bB Tryz.prog 72 [.str s] h (S1 s h):=by
 refine Xn rfl (cR ?_)
 unfold Ft
 by_cases NK:(65536:Int) < (s.length:Int)
 · simp +contextual only [NK,↓ah,ao,simprocAttr]
   refine ⟨((Ext.refl h).new _).set (Nat.le_refl _) _,?_⟩
   unfold jX
   rw [if_pos (by omega)]
   rfl
 simp +contextual only [NK,↓ah,ao,simprocAttr]
 refine bK (ahH s (by omega) _) ?_
 rintro x aa ⟨rfl,HN⟩
 have au:Ext h (h.new (.bh [.int .i64 0,.int .i64 0] 0 false)):=(Ext.refl h).new _
 have v':=au.trans HN
 have g1:aa.get (aC h.next)=.bh [.int .i64 0,.int .i64 0] 0 false:=by
  rw [HN.get _ (gz (by rw [gx];omega))]
  simp only [↓ah,ao,simprocAttr]
 have mC:h.next+1≤aa.next:=HN.next
 have cA:(aC aa.next=aC h.next)=False:=by rw [qN];exact eq_false (by omega)
 have dc:(aC h.next=aC aa.next)=False:=by rw [qN];exact eq_false (by omega)
 have mz:(aa.next=h.next)=False:=eq_false (by omega)
 have mA:(h.next=aa.next)=False:=eq_false (by omega)
 have hlen:¬65536<s.length:=by omega
 by_cases aJ:sf s<s.length
 · have qv:((sf s:Int) < (s.length:Int))=True:=eq_true (by omega)
   simp +contextual only [qv,g1,cA,dc,mz,mA,↓ah,ao,simprocAttr]
   refine ⟨v'.set (Nat.le_refl _) _,?_⟩
   unfold jX
   rw [if_neg hlen,if_pos aJ]
 have qv:((sf s:Int) < (s.length:Int))=False:=eq_false (by omega)
 have kg:jX s=po s 0:=by unfold jX;rw [if_neg hlen,if_neg aJ]
 simp +contextual only [qv,g1,cA,dc,mz,mA,↓ah,ao,simprocAttr]
 have acp:Ext h (aa.new (.bh [.str s,.int .i64 0,.int .i64 0] 0 false)):=v'.new _
 refine fD (fun r ab=>r 0=.str s∧r 3=.ptr (aC h.next) 0∧r 5=.ptr (aC aa.next) 0∧∃(a:Nat) (ws:List b4) (v:V),r 6=v∧ab.get (aC aa.next)=.bh [.str s,.int .i64 a,.int .i64 0] 0 false∧a≤s.length∧ws.length≤a∧
  ab.get (aC h.next)=.bh [.int .i64 0,.int .i64 0] 0 false∧Ext h ab∧aa.next+1≤ab.next∧dx (aa.next+1) ab 4 v ws.length (hP ws)∧jX s=zq ws (po (s.drop a) a))
  (fun r ab=>s.length - ((hj (ab.get (aC aa.next)) 1).getD .bad).toN) ?_ ?_
 · refine ⟨by simp only [↓ah,ao,simprocAttr],by simp only [↓ah,ao,simprocAttr],by simp only [↓ah,ao,simprocAttr],0,[],.bW,by simp only [↓ah,ao,simprocAttr],by simp only [↓ah,ao,simprocAttr]<;>rfl,by omega,by simp,by simp only [g1,cA,mz,dc,mA,↓ah,ao,simprocAttr],acp,?_,⟨rfl,rfl⟩,?_⟩
   · rw [gx];exact Nat.le_refl _
   · rw [kg,List.drop_zero,ag9]
 · rintro r ab ⟨bF,bX,cu,a,ws,v,ek,aH,ck,kw,bj,BZ,kY,dD,bl⟩
   unfold LC
   have fW:Old ab (aC aa.next):=gz (by omega)
   by_cases fq:(s.length:Int)≤(a:Int)
   · have br:a=s.length:=by omega
     have BR:jX s=.ok ws:=by
      rw [bl,br,List.drop_length]
      show Except.ok (ws++[])=_
      rw [List.append_nil]
     simp +contextual only [bF,bX,cu,ek,aH,bj,fq,cA,dc,mz,mA,↓ah,ao,simprocAttr]
     refine ⟨BZ.set (Nat.le_refl _) _,?_⟩
     rw [BR]
     refine ⟨v,rfl,?_⟩
     have:=dD.mod ((Mod.refl (fun q=>q=aC h.next) ab).self (.bh [.int .i64 0,.int .i64 0] 0 false)) (fun q aF e=>by
      have ae:=dD.base aF
      rw [show q=aC h.next from e,c6] at ae
      omega)
     exact this.mono (by omega)
   · have aN:a<s.length:=by omega
     rw [drop_cons aN,O6,←drop_cons aN] at bl
     have f0:(0≤(a:Int))=True:=eq_true (by omega)
     have f1:((a:Int) < (s.length:Int))=True:=eq_true (by omega)
     have bU:IntKind.i64.wrap ((a:Int)+1)=((a+1:Nat):Int):=by rw [wrap_i64 (by omega) (by omega)];rfl
     simp +contextual only [bF,bX,cu,ek,aH,bj,fq,cA,dc,mz,mA,f0,f1,List.getElem?_eq_getElem aN,Int.toNat_natCast,↓ah,ao,simprocAttr]
     refine fj (Ou _ _ _) ?_
     rw [RP]
     by_cases vy:blank s[a]=true
     · have GC:(0≤Lib.indexByte [9,10,13,32] s[a])=True:=by rw [K8,vy];exact eq_self _
       rw [if_pos vy] at bl
       simp +contextual only [GC,bU,bF,bX,cu,ek,aH,bj,fq,cA,dc,mz,mA,f0,f1,List.getElem?_eq_getElem aN,Int.toNat_natCast,↓ah,ao,simprocAttr]
       refine ⟨⟨a+1,ws,rfl,by omega,by omega,BZ.set (by omega) _,kY,?_,bl⟩,by omega⟩
       exact dD.mod ((Mod.refl (fun q=>q=aC aa.next) ab).self _) (fun q aF e=>by
        have ae:=dD.base aF
        rw [show q=aC aa.next from e,c6] at ae
        omega)
     · have GC:(0≤Lib.indexByte [9,10,13,32] s[a])=False:=by rw [K8];exact eq_false vy
       rw [if_neg vy] at bl
       simp +contextual only [GC,bU,bF,bX,cu,ek,aH,bj,fq,cA,dc,mz,mA,f0,f1,List.getElem?_eq_getElem aN,Int.toNat_natCast,↓ah,ao,simprocAttr]
       have ys:=Gy s [40,42] (a:Int) [.int .i64 0] (aC aa.next) 0 false ab aH (by omega) (by omega)
       rw [Int.toNat_natCast] at ys
       refine fj ys ?_
       cases pc:([40,42]:List UInt8).isPrefixOf (s.drop a) with
       | true=>
         rw [pc,if_pos rfl] at bl
         simp +contextual only [bU,bF,bX,cu,ek,aH,bj,fq,cA,dc,mz,mA,f0,f1,List.getElem?_eq_getElem aN,Int.toNat_natCast,↓ah,ao,simprocAttr]
         refine bK (agc s a 0 (aC aa.next) ab aH ck (by omega) fW) ?_
         rintro x ae ⟨rfl,hm,aX⟩
         have pg:ae.get (aC h.next)=.bh [.int .i64 0,.int .i64 0] 0 false:=by rw [hm.get _ (gz (by omega)) (by rw [dc];exact id),bj]
         have BX:Ext h ae:=BZ.h0 hm (fun b ai=>by rw [show b=aC aa.next from ai,c6];omega)
         have qK:=hm.next
         have jP:=dD.mod hm (fun q aF e=>by
          have ae:=dD.base aF
          rw [show q=aC aa.next from e,c6] at ae
          omega)
         cases Hl:hA (s.drop a) 0 with
         | some n=>
           rw [Hl] at aX bl
           obtain ⟨g2,hle⟩:=aX
           have yr:=CA Hl
           unfold eD at g2
           simp +contextual only [bU,bF,bX,cu,ek,g2,aH,pg,fq,cA,dc,mz,mA,f0,f1,List.getElem?_eq_getElem aN,Int.toNat_natCast,↓ah,ao,simprocAttr]
           refine ⟨⟨a+n,ws,rfl,hle,by omega,BX,by omega,jP,?_⟩,by omega⟩
           rw [bl]
           simp only [List.drop_drop]
         | none=>
           rw [Hl] at aX bl
           unfold eD at aX
           simp +contextual only [bU,bF,bX,cu,ek,aX,aH,pg,fq,cA,dc,mz,mA,f0,f1,List.getElem?_eq_getElem aN,Int.toNat_natCast,↓ah,ao,simprocAttr]
           refine ⟨BX.set (Nat.le_refl _) _,?_⟩
           rw [bl]
           rfl
       | false=>
         rw [pc,if_neg Bool.false_ne_true] at bl
         simp +contextual only [bU,bF,bX,cu,ek,aH,bj,fq,cA,dc,mz,mA,f0,f1,List.getElem?_eq_getElem aN,Int.toNat_natCast,↓ah,ao,simprocAttr]
         refine bK (af5 s a (aC aa.next) ab aH aN (by omega) fW) ?_
         rintro x ae w
         obtain ⟨hm,k,n,t,rfl,vQ⟩:=w
         have pg:ae.get (aC h.next)=.bh [.int .i64 0,.int .i64 0] 0 false:=by rw [hm.get _ (gz (by omega)) (by rw [dc];exact id),bj]
         have BX:Ext h ae:=BZ.h0 hm (fun b ai=>by rw [show b=aC aa.next from ai,c6];omega)
         have qK:=hm.next
         have jP:=dD.mod hm (fun q aF e=>by
          have ae:=dD.base aF
          rw [show q=aC aa.next from e,c6] at ae
          omega)
         have m0:(aC ae.next=aC h.next)=False:=by rw [qN];exact eq_false (by omega)
         have m1:(aC ae.next=aC aa.next)=False:=by rw [qN];exact eq_false (by omega)
         have Pk:(ae.next=h.next)=False:=eq_false (by omega)
         have Pl:(ae.next=aa.next)=False:=eq_false (by omega)
         have BY:Ext ae (((ae.new (.bh [.int .i64 0,.int .i64 0,.int .i64 0,.str []] 0 false)).set (aC ae.next) (.bh [.int .i64 k,.int .i64 n,.int .i64 0,.str t] 0 false)).set (aC ae.next) (.bh [.int .i64 k,.int .i64 n,.int .i64 a,.str t] 0 false)):=(((Ext.refl ae).new _).set (Nat.le_refl _) _).set (Nat.le_refl _) _
         obtain ⟨v3,aI,al,aq,aK,bG,di⟩:=sI (cs:=[.int .i64 k,.int .i64 n,.int .i64 a,.str t]) (by omega) (jP.ext BY) (by simp only [nx,gx];omega) (by unfold top;omega) rfl rfl
         simp only [nx,gx] at al bG
         have Oe:Ext h aI:=(BX.trans BY).h0 aK (fun b ai=>Nat.le_trans (by omega) (jP.base ai))
         have yJ:aI.get (aC h.next)=.bh [.int .i64 0,.int .i64 0] 0 false:=by
          rw [aK.get _ (gz (by simp only [nx,gx];omega)) (fun aF=>by have:=jP.base aF;rw [c6] at this;omega),BY.get _ (gz (by omega)),pg]
         have lJ:aI.get (aC aa.next)=ae.get (aC aa.next):=by
          rw [aK.get _ (gz (by simp only [nx,gx];omega)) (fun aF=>by have:=jP.base aF;rw [c6] at this;omega),BY.get _ (gz (by omega))]
         cases kY:gm (s.drop a) with
         | ok q=>
           have yr:=Iy kY
           rw [kY] at vQ bl
           obtain ⟨rfl,rfl,rfl,g2,hle⟩:=vQ
           unfold eD at g2
           rw [g2] at lJ
           simp +contextual only [al,m0,m1,Pk,Pl,bU,bF,bX,cu,ek,g2,lJ,aH,pg,fq,cA,dc,mz,mA,f0,f1,List.getElem?_eq_getElem aN,Int.toNat_natCast,↓ah,ao,simprocAttr]
           refine ⟨⟨a+q.2.2.2,ws++[⟨q.1,q.2.1,a,q.2.2.1⟩],rfl,hle,by simp;omega,yJ,Oe,by omega,?_,?_⟩,by omega⟩
           · rw [List.length_append,R0]
             exact aq
           · rw [bl,ag8]
             simp only [List.drop_drop]
         | error e=>
           rw [kY] at vQ bl
           obtain ⟨he,bk,g2⟩:=vQ
           unfold eD at g2
           rw [g2] at lJ
           simp +contextual only [he,al,m0,m1,Pk,Pl,bU,bF,bX,cu,ek,g2,lJ,yJ,aH,pg,fq,cA,dc,mz,mA,f0,f1,List.getElem?_eq_getElem aN,Int.toNat_natCast,↓ah,ao,simprocAttr]
           refine ⟨Oe.set (Nat.le_refl _) _,?_⟩
           rw [bl]
           rfl
def oD (L:List (List UInt8)):List V:=L.map V.str
theorem OL (h:af):bB Tryz.prog 79 [] h fun x ab=>x=.slice (aC h.next) 0 20 20∧ab=h.new (.bh (oD rX) 0 false):=by
 refine XC rfl (cR ?_)
 unfold Fy
 simp +contextual only [↓ah,ao,simprocAttr]
 rfl
theorem JL (L:List (List UInt8)):(oD L).length=L.length:=by simp [oD]
theorem JK {L:List (List UInt8)} {i:Nat} (av:i<L.length):(oD L)[i]? =some (.str L[i]):=by
 unfold oD
 rw [List.getElem?_map,List.getElem?_eq_getElem av]
 rfl
theorem Me {t:List UInt8} {L:List (List UInt8)} {i:Nat} (av:i<L.length):(L.drop i).contains t=(decide (L[i]=t)||(L.drop (i+1)).contains t):=by
 rw [List.drop_eq_getElem_cons av,List.contains_cons]
 congr 1
 rw [Bool.eq_iff_iff]
 simp
 exact eq_comm
theorem HX (t:List UInt8) (L:List (List UInt8)) (b:aQ) (cap:Nat) (h:af) (cI:L.length≤100000) (aH:h.get b=.bh (oD L) 0 false):
 eM Tryz.prog 59 [.str t,.slice b 0 L.length cap] h (.bool (L.contains t)) h:=by
 refine mF (Lx rfl (cR ?_))
 unfold AX
 simp +contextual only [↓ah,ao,simprocAttr]
 refine fD (fun r ab=>ab=h∧r 0=.str t∧r 1=.slice b 0 L.length cap∧∃i:Nat,r 5=.int .i64 i∧i≤L.length∧L.contains t=(L.drop i).contains t) (fun r ab=>L.length - (r 5).toN) ?_ ?_
 · exact ⟨rfl,by simp only [↓ah,ao,simprocAttr],by simp only [↓ah,ao,simprocAttr],0,by simp only [↓ah,ao,simprocAttr]<;>rfl,by omega,rfl⟩
 · rintro r ab ⟨rfl,bF,bp,i,cu,av,bl⟩
   unfold Fh
   by_cases aN:i<L.length
   · have g0:((i:Int) < (L.length:Int))=True:=eq_true (by omega)
     have g1:(0≤(i:Int))=True:=eq_true (by omega)
     rw [Me aN] at bl
     by_cases he:L[i]=t
     · simp +contextual only [bF,bp,cu,g0,g1,aH,he,Int.toNat_natCast,Nat.mul_one,JK aN,↓ah,ao,simprocAttr]
       rw [bl]
       simp [he]
     · have w:IntKind.i64.wrap ((i:Int)+1)=((i+1:Nat):Int):=by rw [wrap_i64 (by omega) (by omega)];rfl
       simp +contextual only [bF,bp,cu,g0,g1,aH,he,w,Int.toNat_natCast,Nat.mul_one,JK aN,↓ah,ao,simprocAttr]
       refine ⟨⟨i+1,rfl,aN,?_⟩,by omega⟩
       rw [bl]
       simp [he]
   · have g0:((i:Int) < (L.length:Int))=False:=eq_false (by omega)
     rw [List.drop_eq_nil_of_le (by omega)] at bl
     rw [bl]
     simp +contextual only [bF,bp,cu,g0,↓ah,ao,simprocAttr]
     rfl
def x':List UInt8→Bool
 | d::_=>lF d.toNat
 | []=>false
def dr (k:Int) (s:List UInt8):Bool:=
 decide (s≠[])&&decide (s.length≤64)&&s.all eJ&&(if k=3 then (kS s||s.head? == some 95)&&!decide (s=[95])&&!nm s else if k=4 then x' s else kS s)
theorem acI (t:List UInt8) (L:List (List UInt8)) (v:V) (h:af) (H:et h 1 v L.length (oD L)) (cI:L.length≤100000):
 bB Tryz.prog 74 [v,.str t] h fun x ab=>ab=h∧∃i:Int,x=.int .i64 i∧decide (0≤i)=L.contains t:=by
 refine Xt rfl (cR ?_)
 unfold Fv
 simp +contextual only [H.len,↓ah,ao,simprocAttr]
 refine fD (fun r ab=>ab=h∧r 0=v∧r 1=.str t∧r 7=.int .i64 L.length∧∃i:Nat,r 8=.int .i64 i∧i≤L.length∧L.contains t=(L.drop i).contains t) (fun r ab=>L.length - (r 8).toN) ?_ ?_
 · exact ⟨rfl,by simp only [↓ah,ao,simprocAttr],by simp only [↓ah,ao,simprocAttr],by simp only [↓ah,ao,simprocAttr],0,by simp only [↓ah,ao,simprocAttr]<;>rfl,by omega,rfl⟩
 · rintro r ab ⟨rfl,bF,bp,ft,i,d',av,bl⟩
   unfold LD
   by_cases aN:i<L.length
   · have g0:((i:Int) < (L.length:Int))=True:=eq_true (by omega)
     obtain ⟨bR,c_,tF,nL⟩:=H.b_ (k:=.i64) aN
     have gl:=nL.gl (i:=i * 1) (by rw [JL];omega)
     simp only [Nat.mul_one] at gl tF
     have GY:(oD L)[i]'(by rw [JL];exact aN)=.str L[i]:=by
      have:=JK aN
      rw [List.getElem?_eq_getElem (by rw [JL];exact aN)] at this
      exact Option.some.inj this
     rw [GY] at gl
     rw [Me aN] at bl
     have w:IntKind.i64.wrap ((i:Int)+1)=((i+1:Nat):Int):=by rw [wrap_i64 (by omega) (by omega)];rfl
     by_cases he:t=L[i]
     · have dO:decide (t=L[i])=true:=decide_eq_true he
       simp +contextual only [bF,bp,ft,d',g0,tF,gl,dO,↓ah,ao,simprocAttr]
       exact ⟨i,rfl,by rw [bl,←he];simp⟩
     · have dO:decide (t=L[i])=false:=decide_eq_false he
       simp +contextual only [bF,bp,ft,d',g0,tF,gl,dO,w,↓ah,ao,simprocAttr]
       refine ⟨⟨i+1,rfl,aN,?_⟩,by omega⟩
       rw [bl,decide_eq_false (fun q=>he q.symm),Bool.false_or]
   · have g0:((i:Int) < (L.length:Int))=False:=eq_false (by omega)
     rw [List.drop_eq_nil_of_le (by omega)] at bl
     simp +contextual only [bF,bp,ft,d',g0,↓ah,ao,simprocAttr]
     exact ⟨_,rfl,by rw [bl];rfl⟩
theorem Yw (t:List UInt8) (L:List (List UInt8)) (v:V) (h:af) (H:et h 1 v L.length (oD L)) (cI:L.length≤100000):
 eM Tryz.prog 63 [v,.str t] h (.bool (L.contains t)) h:=by
 refine mF (W' rfl (cR ?_))
 unfold Fl
 simp +contextual only [↓ah,ao,simprocAttr]
 refine bK (acI t L v h H cI) ?_
 rintro x aa ⟨rfl,i,rfl,av⟩
 simp +contextual only [av,↓ah,ao,simprocAttr]
def O4 (c:Int):Bool:=l4 c 97 122||l4 c 65 90||l4 c 48 57||decide (c=95)||decide (c=39)
theorem afh (c:UInt8):O4 (c.toNat:Int)=eJ c:=by
 unfold O4 eJ rZ l4 lA gn lF
 generalize (c.toNat:Int)=x
 cases decide (97≤x)<;>cases decide (x≤122)<;>cases decide (65≤x)<;>cases decide (x≤90)<;>cases decide (48≤x)<;>cases decide (x≤57)<;>cases decide (x=95)<;>cases decide (x=39)<;>rfl
theorem aa2 {s:List UInt8} {c:UInt8} {r:List UInt8} (h:s=c::r):kS s=gn c.toNat:=by rw [h];rfl
theorem py (k:Int) (s:List UInt8) (aR:s.length≤17179869184) (aD:k=3∨k=4∨k=5) (h:af):bB Tryz.prog 65 [.int .i64 k,.str s] h fun x ab=>x=.bool (dr k s)∧Ext h ab:=by
 refine Xb rfl (cR ?_)
 unfold Fm
 by_cases n':s=[]
 · subst n'
   simp +contextual only [↓ah,ao,simprocAttr]
   exact ⟨rfl,Ext.refl _⟩
 obtain ⟨c,r,yz⟩:=List.exists_cons_of_ne_nil n'
 have cT:(s=([]:List UInt8))=False:=eq_false n'
 have mq:s[0]? =some c:=by rw [yz];rfl
 by_cases hlen:(64:Int) < (s.length:Int)
 · have aX:dr k s=false:=by
    unfold dr
    rw [decide_eq_false (show ¬s.length≤64 by omega)]
    simp
   have G8:=eq_true hlen
   simp +contextual only [cT,G8,aX,↓ah,ao,simprocAttr]
   exact Ext.refl _
 have G8:=eq_false hlen
 simp +contextual only [cT,G8,↓ah,ao,simprocAttr]
 refine fD (fun r ab=>ab=h∧r 0=.int .i64 k∧r 1=.str s∧∃i:Nat,r 5=.int .i64 i∧i≤s.length∧s.all eJ=(s.drop i).all eJ) (fun r ab=>s.length - (r 5).toN) ?_ ?_
 · exact ⟨rfl,by simp only [↓ah,ao,simprocAttr],by simp only [↓ah,ao,simprocAttr],0,by simp only [↓ah,ao,simprocAttr]<;>rfl,by omega,rfl⟩
 · rintro R ab ⟨rfl,bF,bp,i,cu,av,bl⟩
   unfold Lz
   by_cases aN:i<s.length
   · have g0:((i:Int) < (s.length:Int))=True:=eq_true (by omega)
     have g1:(0≤(i:Int))=True:=eq_true (by omega)
     rw [List.drop_eq_getElem_cons aN,List.all_cons] at bl
     have w:IntKind.i64.wrap ((i:Int)+1)=((i+1:Nat):Int):=by rw [wrap_i64 (by omega) (by omega)];rfl
     simp +contextual only [bF,bp,cu,g0,g1,List.getElem?_eq_getElem aN,Int.toNat_natCast,↓ah,ao,simprocAttr]
     refine fj (S0 _ _) ?_
     rw [show (l4 (s[i].toNat:Int) 97 122||l4 (s[i].toNat:Int) 65 90||l4 (s[i].toNat:Int) 48 57||decide ((s[i].toNat:Int)=95)||decide ((s[i].toNat:Int)=39))=eJ s[i] from afh _]
     cases ak:eJ s[i] with
     | true=>
       simp +contextual only [bF,bp,cu,w,↓ah,ao,simprocAttr]
       exact ⟨⟨i+1,rfl,aN,by rw [bl,ak,Bool.true_and]⟩,by omega⟩
     | false=>
       have aX:dr k s=false:=by
        unfold dr
        rw [bl,ak]
        simp
       simp +contextual only [aX,↓ah,ao,simprocAttr]
       exact Ext.refl _
   · have g0:((i:Int) < (s.length:Int))=False:=eq_false (by omega)
     rw [List.drop_eq_nil_of_le (by omega)] at bl
     have dT:s.all eJ=true:=by rw [bl];rfl
     have f1:((0:Int) < (s.length:Int))=True:=eq_true (by rw [yz];simp only [List.length_cons];omega)
     have aX:dr k s=(if k=3 then (kS s||s.head? == some 95)&&!decide (s=[95])&&!nm s else if k=4 then x' s else kS s):=by
      unfold dr
      rw [dT,decide_eq_true (show s.length≤64 by omega),decide_eq_true (show s≠[] from n')]
      simp
     rw [aX]
     have ai:(kS s||s.head? == some 95)=(gn c.toNat||decide (c=95)):=by
      rw [yz]
      show (gn c.toNat||(some c == some 95))=_
      congr 1
     have ab6:kS s=gn c.toNat:=aa2 yz
     have abd:x' s=lF c.toNat:=by rw [yz];rfl
     rw [ai]
     have hu:((c.toNat:Int)=95)=(c=95):=ur c 95 (by omega)
     rcases aD with rfl | rfl | rfl
     · simp +contextual only [bF,bp,cu,g0,f1,mq,Int.toNat_zero,if_true,↓ah,ao,simprocAttr]
       refine fj (w0 _ _ _ _) ?_
       rw [show l4 (c.toNat:Int) 97 122=gn (c.toNat:Int) from rfl]
       cases od:gn (c.toNat:Int) with
       | false=>
         by_cases Nh:c=95
         · have nT:=eq_true Nh
           by_cases aa:s=[95]
           · have fB:=eq_true aa
             simp +contextual only [bF,bp,od,hu,nT,fB,f1,mq,Int.toNat_zero,↓ah,ao,simprocAttr]
             exact Ext.refl _
           · have fB:=eq_false aa
             simp +contextual only [bF,bp,od,hu,nT,fB,f1,mq,Int.toNat_zero,↓ah,ao,simprocAttr]
             refine bK (OL _) ?_
             rintro x aa ⟨rfl,rfl⟩
             simp +contextual only [bF,bp,od,hu,nT,fB,f1,mq,↓ah,ao,simprocAttr]
             refine fj (HX s rX _ 20 _ (by decide) (by rw [na])) ?_
             have G4:rX.contains s=nm s:=rfl
             rw [G4]
             simp +contextual only [bF,bp,od,hu,nT,fB,↓ah,ao,simprocAttr]
             exact (Ext.refl _).new _
         · have nT:=eq_false Nh
           simp +contextual only [bF,bp,od,hu,nT,f1,mq,Int.toNat_zero,↓ah,ao,simprocAttr]
           exact Ext.refl _
       | true=>
         have nT:True=True:=rfl
         by_cases aa:s=[95]
         · have fB:=eq_true aa
           simp +contextual only [bF,bp,od,hu,nT,fB,f1,mq,Int.toNat_zero,↓ah,ao,simprocAttr]
           exact Ext.refl _
         · have fB:=eq_false aa
           simp +contextual only [bF,bp,od,hu,nT,fB,f1,mq,Int.toNat_zero,↓ah,ao,simprocAttr]
           refine bK (OL _) ?_
           rintro x aa ⟨rfl,rfl⟩
           simp +contextual only [bF,bp,od,hu,nT,fB,f1,mq,↓ah,ao,simprocAttr]
           refine fj (HX s rX _ 20 _ (by decide) (by rw [na])) ?_
           have G4:rX.contains s=nm s:=rfl
           rw [G4]
           simp +contextual only [bF,bp,od,hu,nT,fB,↓ah,ao,simprocAttr]
           exact (Ext.refl _).new _
     · simp +contextual only [bF,bp,cu,g0,f1,mq,Int.toNat_zero,if_true,if_false,↓ah,ao,simprocAttr]
       refine fj (w0 _ _ _ _) ?_
       rw [abd]
       simp +contextual only [↓ah,ao,simprocAttr]
       exact ⟨rfl,Ext.refl _⟩
     · simp +contextual only [bF,bp,cu,g0,f1,mq,Int.toNat_zero,if_true,if_false,↓ah,ao,simprocAttr]
       refine fj (w0 _ _ _ _) ?_
       rw [ab6]
       simp +contextual only [↓ah,ao,simprocAttr]
       exact ⟨rfl,Ext.refl _⟩
theorem T4 {s:List UInt8} (h:∀c ∈ s,c.toNat<128):sf s=s.length:=by
 have aw:∀a,a<s.length→lz s a=1:=by
  intro a br
  have aY:decodeL s a=((s[a]).toNat,1):=by
   unfold decodeL
   rw [Lib.decode_at]
   simp only [M0,List.getElem?_eq_getElem br,Option.getD_some]
   unfold Lib.decodeN
   rw [if_pos (h _ (List.getElem_mem br))]
  unfold lz
  rw [aY,if_neg (by
   have:=h _ (List.getElem_mem br)
   simp only [Prod.mk.injEq,and_true]
   omega)]
 have:∀n a,s.length-a=n→a≤s.length→pz s a=s.length:=by
  intro n
  induction n with
  | zero=>intro a aa ae;exact QW (by omega)
  | succ n bg=>
    intro a aa ae
    have aN:a<s.length:=by omega
    rw [Jm aN (by rw [aw a aN];decide),aw a aN]
    exact bg _ (by omega) (by omega)
 exact this s.length 0 (by omega) (by omega)
theorem afj {s:List UInt8} (h:∀c ∈ s,c.toNat<128):jX s=if 65536<s.length then .error (3,0) else po s 0:=by
 unfold jX
 rw [T4 h,if_neg (Nat.lt_irrefl _)]
theorem afz {c:UInt8} (h:eJ c=true):blank c=false∧c≠40:=by
 constructor
 · cases ai:blank c with
   | false=>rfl
   | true=>
     unfold blank at ai
     simp only [Bool.or_eq_true,decide_eq_true_eq] at ai
     rcases ai with ((rfl | rfl) | rfl) | rfl<;>exact absurd h (by decide)
 · rintro rfl
   exact absurd h (by decide)
theorem af9 {c:UInt8} (h:c≠40) (r:List UInt8):([40,42]:List UInt8).isPrefixOf (c::r)=false:=by
 have:((40:UInt8) == c)=false:=by rw [beq_eq_false_iff_ne];exact fun q=>h q.symm
 simp [List.isPrefixOf,this]
theorem Rm {c:UInt8} (h:gn c.toNat=true):eH c=false∧c≠34:=by
 unfold gn at h
 simp only [Bool.and_eq_true,decide_eq_true_eq] at h
 refine ⟨?_,by rintro rfl;exact absurd h (by decide)⟩
 unfold eH lA
 simp only [Bool.and_eq_false_iff,decide_eq_false_iff_not]
 omega
theorem aal {c:UInt8} (h:lF c.toNat=true):eH c=false∧c≠34∧gn c.toNat=false∧c≠95:=by
 unfold lF at h
 simp only [Bool.and_eq_true,decide_eq_true_eq] at h
 refine ⟨?_,by rintro rfl;exact absurd h (by decide),?_,by rintro rfl;exact absurd h (by decide)⟩
 · unfold eH lA
   simp only [Bool.and_eq_false_iff,decide_eq_false_iff_not]
   omega
 · unfold gn
   simp only [Bool.and_eq_false_iff,decide_eq_false_iff_not]
   omega
theorem It {k:Int} {s:List UInt8} (h:dr k s=true):s≠[]∧s.length≤64∧s.all eJ=true∧(if k=3 then (kS s||s.head? == some 95)&&!decide (s=[95])&&!nm s else if k=4 then x' s else kS s)=true:=by
 unfold dr at h
 rw [Bool.and_eq_true,Bool.and_eq_true,Bool.and_eq_true,decide_eq_true_eq,decide_eq_true_eq] at h
 exact ⟨h.1.1.1,h.1.1.2,h.1.2,h.2⟩
theorem af6 {c:UInt8} {t:List UInt8} (h:gn c.toNat=true∨c=95):gm (c::t)=iS 3 (c::t):=by
 have aY:eH c=false:=h.elim (fun q=>(Rm q).1) (fun q=>by rw [q];decide)
 have aat:c≠34:=h.elim (fun q=>(Rm q).2) (fun q=>by rw [q];decide)
 have aR:(gn c.toNat||decide (c=95))=true:=by simpa using h
 simp only [gm,aY,aR,if_neg aat,Bool.false_eq_true,if_false,if_true]
theorem T3 {c:UInt8} (h:eJ c=true):c.toNat<128:=by
 unfold eJ rZ lA gn lF at h
 simp only [Bool.or_eq_true,Bool.and_eq_true,decide_eq_true_eq] at h
 omega
theorem RO {p:UInt8→Bool}:∀s:List UInt8,s.all p=true→s.takeWhile p=s
 | [],_=>rfl
 | c::s,h=>by
   rw [List.all_cons,Bool.and_eq_true] at h
   rw [List.takeWhile_cons,h.1,if_pos rfl,RO s h.2]
theorem KL (p:UInt8→Bool):∀s:List UInt8,(s.takeWhile p).all p=true
 | []=>rfl
 | c::s=>by
   rw [List.takeWhile_cons]
   split
   · rename_i h;rw [List.all_cons,h,KL p s];rfl
   · rfl
theorem Is {k:Int} {c:UInt8} {r:List UInt8} {q:Int × Int × List UInt8 × Nat} (aD:(k=3∧(gn c.toNat=true∨c=95))∨(k=4∧lF c.toNat=true)∨(k=5∧gn c.toNat=true)) (h:iS k (c::r)=.ok q) (aF:q.1=3∨q.1=4∨q.1=5):
 q.1=k∧dr k q.2.2.1=true:=by
 have ak:eJ c=true:=by
  rcases aD with ⟨_,q | q⟩ | ⟨_,q⟩ | ⟨_,q⟩
  · exact Jy q
  · exact RS q
  · exact M6 q
  · exact Jy q
 have aG:(c::r).takeWhile eJ=c::r.takeWhile eJ:=by rw [List.takeWhile_cons,if_pos ak]
 have br:=KL eJ (c::r)
 rw [aG] at br
 unfold iS at h
 simp only [aG] at h
 generalize r.takeWhile eJ=t at *
 split at h
 · cases h;simp at aF
 · rename_i abQ
   split at h
   · cases h;simp at aF
   · rename_i vP
     split at h
     · cases h
     · rename_i hlen
       cases h
       refine ⟨rfl,?_⟩
       have lO:(if k=3 then (kS (c::t)||(c::t).head? == some 95)&&!decide (c::t=[95])&&!nm (c::t) else if k=4 then x' (c::t) else kS (c::t))=true:=by
        rcases aD with ⟨rfl,z⟩ | ⟨rfl,z⟩ | ⟨rfl,z⟩
        · rw [if_pos rfl]
          have aa:(kS (c::t)||(c::t).head? == some 95)=true:=by
           rcases z with z | z
           · show (gn c.toNat||_)=true
             rw [z];rfl
           · subst z;simp
          rw [aa,decide_eq_false (fun z=>abQ ⟨rfl,z⟩),Bool.eq_false_iff.2 (fun z=>vP ⟨rfl,z⟩)]
          rfl
        · exact z
        · exact z
       show dr k (c::t)=true
       unfold dr
       rw [lO,br,decide_eq_true (show c::t≠[] by simp),decide_eq_true (show (c::t).length≤64 by omega)]
       rfl
theorem af1 {r:List UInt8} {q:Int × Int × List UInt8 × Nat} (h:gm r=.ok q) (aF:q.1=3∨q.1=4∨q.1=5):dr q.1 q.2.2.1=true:=by
 match r,h with
 | c::r,h=>
   simp only [gm] at h
   split at h
   · unfold wA at h
     simp only at h
     split at h
     · cases h
     · cases h;simp at aF
   · split at h
     · unfold qZ at h
       split at h
       · cases h
       · split at h
         · cases h
         · cases h;simp at aF
     · split at h
       · rename_i aR
         have:=Is (.inl ⟨rfl,by simpa using aR⟩) h aF
         rw [this.1];exact this.2
       · split at h
         · rename_i aR
           have:=Is (.inr (.inl ⟨rfl,aR⟩)) h aF
           rw [this.1];exact this.2
         · split at h
           · rename_i aR
             cases aX:iS 5 r with
             | error e=>rw [aX] at h;cases h
             | ok dZ=>
               rw [aX] at h
               cases h
               obtain ⟨d,t,rfl⟩:∃d t,r=d::t:=by
                cases r with
                | nil=>simp [kS] at aR
                | cons d t=>exact ⟨d,t,rfl⟩
               have:=Is (.inr (.inr ⟨rfl,aR.2⟩)) aX aF
               show dr dZ.1 dZ.2.2.1=true
               rw [this.1];exact this.2
           · unfold wS at h
             split at h
             · cases h;simp at aF
             · cases h
theorem yY:∀(f:Nat) (r:List UInt8) (p:Nat) (ws:List b4),lU f r p=.ok ws→∀w ∈ ws,w.kind=3∨w.kind=4∨w.kind=5→dr w.kind w.text=true
 | 0,r,p,ws,h,w,hw,_=>by simp only [lU,Except.ok.injEq] at h;subst h;cases hw
 | f+1,[],p,ws,h,w,hw,_=>by simp only [lU,Except.ok.injEq] at h;subst h;cases hw
 | f+1,c::r,p,ws,h,w,hw,aD=>by
   simp only [lU] at h
   split at h
   · exact yY f _ _ ws h w hw aD
   · split at h
     · split at h
       · cases h
       · exact yY f _ _ ws h w hw aD
     · split at h
       · cases h
       · rename_i q aX
         cases aJ:lU f ((c::r).drop q.2.2.2) (p+q.2.2.2) with
         | error aB=>rw [aJ] at h;cases h
         | ok bQ=>
           rw [aJ] at h
           simp only [xM,Except.ok.injEq] at h
           subst h
           rcases List.mem_cons.1 hw with rfl | hw
           · exact af1 aX aD
           · exact yY f _ _ bQ aJ w hw aD
theorem ahw {k:Int} {s:List UInt8} (aD:k=3∨k=4∨k=5) (h:dr k s=true):jX (if k=5 then 39::s else s)=.ok [⟨k,0,0,s⟩]:=by
 obtain ⟨g1,g2,g3,g4⟩:=It h
 obtain ⟨c,t,rfl⟩:=List.exists_cons_of_ne_nil g1
 have aaP:∀d ∈ (if k=5 then 39::c::t else c::t),d.toNat<128:=by
  intro d aY
  have aa:∀d ∈ c::t,d.toNat<128:=fun d aY=>T3 (List.all_eq_true.1 g3 d aY)
  split at aY
  · rcases List.mem_cons.1 aY with rfl | aY
    · decide
    · exact aa d aY
  · exact aa d aY
 rw [afj aaP,if_neg (by split<;>simp only [List.length_cons] at g2 ⊢<;>omega)]
 have ak:eJ c=true:=by rw [List.all_cons,Bool.and_eq_true] at g3;exact g3.1
 obtain ⟨bR,cb⟩:=afz ak
 have rd:∀j:Int,(j=3→c::t≠[95]∧nm (c::t)=false)→iS j (c::t)=.ok (j,0,c::t,(c::t).length):=by
  intro j bH
  unfold iS
  simp only [RO _ g3]
  rw [if_neg (fun q=>(bH q.1).1 q.2),if_neg (fun q=>by rw [(bH q.1).2] at q;simp at q),if_neg (by omega)]
 have fin:∀(d:UInt8) (u:List UInt8) (q:Int × Int × List UInt8 × Nat),blank d=false→d≠40→gm (d::u)=.ok q→q.2.2.2=(d::u).length→po (d::u) 0=.ok [⟨q.1,q.2.1,0,q.2.2.1⟩]:=by
  intro d u q aB aO cc fy
  rw [O6,aB,if_neg Bool.false_ne_true,af9 aO,if_neg Bool.false_ne_true,cc]
  simp only [fy,List.drop_length]
  rfl
 rcases aD with rfl | rfl | rfl
 · rw [if_neg (by decide)]
   rw [if_pos rfl] at g4
   simp only [Bool.and_eq_true,Bool.not_eq_true',decide_eq_false_iff_not,Bool.or_eq_true,beq_iff_eq] at g4
   have ba:gn c.toNat=true∨c=95:=g4.1.1.imp id (fun q=>Option.some.inj q)
   exact fin c t _ bR cb (by rw [af6 ba];exact rd 3 (fun _=>⟨g4.1.2,g4.2⟩)) rfl
 · rw [if_neg (by decide)]
   rw [if_neg (by decide),if_pos rfl] at g4
   have aH:lF c.toNat=true:=g4
   obtain ⟨dc,hJ,n3,n4⟩:=aal aH
   refine fin c t (4,0,c::t,(c::t).length) bR cb ?_ rfl
   simp only [gm,dc,n3,aH,if_neg hJ,Bool.false_eq_true,if_false,if_true,Bool.false_or,decide_eq_true_eq,if_neg n4]
   exact rd 4 (fun q=>absurd q (by decide))
 · rw [if_pos rfl]
   rw [if_neg (by decide),if_neg (by decide)] at g4
   refine fin 39 (c::t) (5,0,c::t,(c::t).length+1) (by decide) (by decide) ?_ rfl
   simp only [gm]
   rw [if_neg (by decide),if_neg (by decide),if_neg (by decide),if_neg (by decide),if_pos ⟨trivial,g4⟩,rd 5 (fun q=>absurd q (by decide))]
   rfl
def q5 (k:Int) (s:List UInt8):Bool:=decide (s.length≤64)&&decide (s≠[])&&(match jX (if k=5 then 39::s else s) with
 | .ok [w]=>decide (w.kind=k)&&decide (w.pos=0)&&decide (w.text≠[])&&decide ((if k=5 then 39::s else s)=(if w.kind=5 then 39::w.text else w.text))
 | _=>false)
theorem ajt {k:Int} (aD:k=3∨k=4∨k=5) (s:List UInt8):q5 k s=dr k s:=by
 rw [Bool.eq_iff_iff]
 refine ⟨fun h=>?_,fun h=>?_⟩
 · unfold q5 at h
   simp only [Bool.and_eq_true,decide_eq_true_eq] at h
   obtain ⟨_,aI⟩:=h
   split at aI
   · rename_i w hw
     simp only [Bool.and_eq_true,decide_eq_true_eq] at aI
     obtain ⟨⟨⟨aB,_⟩,_⟩,fy⟩:=aI
     subst aB
     have aX:dr w.kind w.text=true:=by
      generalize (if w.kind=5 then 39::s else s)=z at hw
      unfold jX at hw
      split at hw
      · cases hw
      · split at hw
        · cases hw
        · exact yY _ _ _ _ hw w (by simp) aD
     have:s=w.text:=by
      split at fy
      · exact (List.cons.inj fy).2
      · exact fy
     rw [this];exact aX
   · cases aI
 · obtain ⟨g1,g2,_,_⟩:=It h
   unfold q5
   rw [ahw aD h]
   simp [g1,g2]
theorem aM.we [Lay] {F:aQ→Prop} {h:af} {l:List aM} {v:V} (H:bI F h 5 (l.map aM.enc) v) {k:IntKind} {i:Nat} (av:i<l.length):
 ∃b off cl,hY 5 v (.int k i)=some (.ptr b (off+i * 5))∧bZ F h l[i].enc [.int .i64 l[i].k,.int .i64 l[i].n,.int .i64 l[i].a,.str l[i].s,cl]∧bI F h 5 (l[i].l.map aM.enc) cl∧
  (∀ab,Ext h ab→mx 5 (ab.get b) (off+i * 5)=some (.agg [.int .i64 l[i].k,.int .i64 l[i].n,.int .i64 l[i].a,.str l[i].s,cl]))∧
  (∀ab,Ext h ab→hj (ab.get b) (off+i * 5)=some (.int .i64 l[i].k))∧(∀ab,Ext h ab→hj (ab.get b) (off+i * 5+3)=some (.str l[i].s))∧(∀ab,Ext h ab→hj (ab.get b) (off+i * 5+4)=some cl):=by
 obtain ⟨b,off,u,aB,aO,cc,fy,ir⟩:=H.at (k:=k) (i:=i) (by rw [List.length_map];exact av)
 rw [List.getElem_map] at aO
 obtain ⟨cl,rfl,L,_⟩:=aM.open aO
 exact ⟨b,off,cl,aB,aO,L,fy,fun ab e=>by simpa using ir ab e 0 (by omega),fun ab e=>by simpa using ir ab e 3 (by omega),fun ab e=>by simpa using ir ab e 4 (by omega)⟩
theorem I8 {l:List aM} {i:Nat} (av:i<l.length):dt l[i].l<dt l:=by
 have aa:=zr (List.getElem_mem av)
 have ae:=size_eq l[i]
 omega
set_option maxHeartbeats 1000000 in
theorem Qa:∀(N:Nat) (l:List aM),dt l<N→∀(m:Int) (v:V) (h:af),bI Any h 5 (l.map aM.enc) v→bB Tryz.prog 33 [v,.int .i64 m] h fun x ab=>(∃n,x=.int .i64 n)∧ab=h
 | 0,l,aR,_,_,_,_=>by omega
 | N+1,l,aR,m,v,h,L=>by
   have ak:=L.len
   have hle:=L.le
   rw [List.length_map] at ak hle
   refine VX rfl (cR ?_)
   unfold E2
   simp +contextual only [↓ah,ao,simprocAttr]
   refine fD (fun r g=>r 0=v∧r 1=.int .i64 m∧g=h∧∃(i:Nat) (n:Int),r 5=.int .i64 n∧r 6=.int .i64 i∧i≤l.length) (fun r g=>l.length - (r 6).toN) ?_ ?_
   · exact ⟨by simp only [↓ah,bA,simprocAttr],by simp only [↓ah,bA,simprocAttr],rfl,0,0,by simp only [↓ah,bA,simprocAttr],by simp only [↓ah,bA,simprocAttr]<;>rfl,by omega⟩
   rintro r g ⟨bF,bp,rfl,i,n,cu,ek,av⟩
   unfold Lo
   by_cases aN:i<l.length
   · have g0:((i:Int) < (l.length:Int))=True:=eq_true (by omega)
     by_cases aX:n≤m
     · have ym:=eq_true aX
       obtain ⟨b,off,wl,b_,X,gr,ld,qG,Ce,Cf⟩:=aM.we L (k:=.i64) aN
       have d3:=Ce g (Ext.refl g)
       have d4:=Cf g (Ext.refl g)
       have dM:=ik aN (by unfold top at hle;omega)
       have eC:l[i].s.length≤top:=by obtain ⟨_,_,_,q⟩:=aM.open X;exact q
       have ahj:=ahk (P:=Tryz.prog) (n:=l[i].s.length) (by unfold top at eC;omega)
       simp +contextual only [bF,bp,cu,ek,ak,g0,ym,b_,d3,d4,ahj,↓ah,ao,simprocAttr]
       refine bK (Qa N l[i].l (by have:=I8 aN;omega) _ wl g gr) ?_
       rintro x g2 ⟨⟨y,rfl⟩,rfl⟩
       simp +contextual only [bF,bp,cu,ek,dM,↓ah,ao,simprocAttr]
       exact ⟨⟨i+1,_,rfl,rfl,aN⟩,by omega⟩
     · have ym:=eq_false aX
       simp +contextual only [bF,bp,cu,ek,ak,g0,ym,↓ah,ao,simprocAttr]
       exact ⟨_,rfl⟩
   · have g0:((i:Int) < (l.length:Int))=False:=eq_false (by omega)
     simp +contextual only [bF,bp,cu,ek,ak,g0,↓ah,ao,simprocAttr]
     exact ⟨_,rfl⟩
theorem aeU (l:List aM) (m:Int) (v:V) (h:af) (L:bI Any h 5 (l.map aM.enc) v):bB Tryz.prog 8 [v,.int .i64 m] h fun x ab=>(∃b,x=.bool b)∧ab=h:=by
 refine XG rfl (cR ?_)
 unfold lx
 simp +contextual only [↓ah,ao,simprocAttr]
 refine bK (Qa _ l (Nat.lt_succ_self _) m v h L) ?_
 rintro x g2 ⟨⟨y,rfl⟩,rfl⟩
 simp +contextual only [↓ah,ao,simprocAttr]
 exact ⟨_,rfl⟩
set_option maxHeartbeats 1000000 in
theorem LW:∀(N:Nat) (l:List aM),dt l<N→N≤1000000000→∀(v:V) (h:af),bI Any h 5 (l.map aM.enc) v→bB Tryz.prog 10 [v] h fun x ab=>bI (jG h) ab 5 (l.map aM.enc) x∧Ext h ab
 | 0,l,aR,_,_,_,_=>by omega
 | N+1,l,aR,bD,v,h,L=>by
   have ak:=L.len
   have hle:=L.le
   rw [List.length_map] at ak hle
   refine U4 rfl (cR ?_)
   unfold EE
   simp +contextual only [↓ah,ao,simprocAttr]
   refine fD (fun r g=>r 0=v∧∃(i:Nat) (w:V),r 3=w∧r 4=.int .i64 i∧i≤l.length∧im h.next (jG h) g 5 ((l.take i).map aM.enc) w∧Ext h g) (fun r g=>l.length - (r 4).toN) ?_ ?_
   · exact ⟨by simp only [↓ah,bA,simprocAttr],0,.bW,by simp only [↓ah,bA,simprocAttr],by simp only [↓ah,bA,simprocAttr]<;>rfl,by omega,im.nil _ _ _ _,Ext.refl h⟩
   rintro r g ⟨bF,i,w,bX,ew,av,W,E⟩
   unfold Lf
   have BU:=l3 l
   by_cases aN:i<l.length
   · have g0:((i:Int) < (l.length:Int))=True:=eq_true (by omega)
     obtain ⟨b,off,wl,b_,X,gr,ld,qG,Ce,Cf⟩:=aM.we (L.ext E) (k:=.i64) aN
     have d0:=ld g (Ext.refl g)
     obtain ⟨g1,d_,bo,Z⟩:=ja g [.int .i64 0,.int .i64 0,.int .i64 0,.str [],.bW] [.int .i64 l[i].k,.int .i64 l[i].n,.int .i64 l[i].a,.str l[i].s,wl]
     have d4:=Cf g1 bo
     have dM:=ik aN (by unfold top at hle;omega)
     have ol:=gr.one
     simp +contextual only [bF,bX,ew,ak,g0,b_,d0,d4,d_,ol.1,ol.2.1,↓ah,ao,simprocAttr]
     refine bK (LW N l[i].l (by have:=I8 aN;omega) (by omega) wl g1 (gr.ext bo)) ?_
     rintro y g2 ⟨Y,dR⟩
     have xt:=Z.ext dR
     have gZ:=Y.one
     have akW:=Z.lt
     have w2:Ext g g2:=bo.trans dR
     have TE:=xt.put [.int .i64 l[i].k,.int .i64 l[i].n,.int .i64 l[i].a,.str l[i].s,y]
     have TC:=Y.set (b:=aC g.next) (fun q=>by unfold jG at q;rw [c6] at q;omega) (.bh [.int .i64 l[i].k,.int .i64 l[i].n,.int .i64 l[i].a,.str l[i].s,y] 0 false)
     have R_:Ext g (g2.set (aC g.next) (.bh [.int .i64 l[i].k,.int .i64 l[i].n,.int .i64 l[i].a,.str l[i].s,y] 0 false)):=w2.set (Nat.le_refl _) _
     have hw:∀b,jG g1 b→jG h b∧¬w.a7 b:=fun b q=>by
      have:=E.next
      unfold jG at q ⊢
      refine ⟨by omega,fun z=>?_⟩
      have:=W.tX z
      unfold Old at this
      omega
     have au:bZ (fun b=>jG h b∧¬w.a7 b) (g2.set (aC g.next) (.bh [.int .i64 l[i].k,.int .i64 l[i].n,.int .i64 l[i].a,.str l[i].s,y] 0 false)) l[i].enc [.int .i64 l[i].k,.int .i64 l[i].n,.int .i64 l[i].a,.str l[i].s,y]:=by
      rw [wI]
      have hi:l[i].s.length≤top:=by obtain ⟨_,_,_,q⟩:=aM.open X;exact q
      exact .i (.i (.i (.s hi ((TC.hQ hw).cons .nil))))
     have pR:=W.ext R_
     have f_:=E.trans R_
     simp +contextual only [bF,bX,ew,xt.g,gZ.1,gZ.2.1,↓ah,ao,simprocAttr]
     have n3:(g2.set (aC g.next) (.bh [.int .i64 l[i].k,.int .i64 l[i].n,.int .i64 l[i].a,.str l[i].s,y] 0 false)).next=g2.next:=nx ..
     generalize g2.set (aC g.next) (.bh [.int .i64 l[i].k,.int .i64 l[i].n,.int .i64 l[i].a,.str l[i].s,y] 0 false)=g3 at *
     obtain ⟨ar,g4,al,aq,aK,bG,di⟩:=pR.add au (by omega) f_.next (by rw [List.length_map,List.length_take];unfold top;omega) rfl
     rw [n3] at al
     simp +contextual only [bF,bX,ew,TE.g,gZ.1,gZ.2.1,al,dM,↓ah,ao,simprocAttr]
     refine ⟨⟨i+1,rfl,aN,?_,f_.h0 aK fun b ai=>W.base ai⟩,by omega⟩
     rw [take_one aN,List.map_append]
     exact aq
   · have g0:((i:Int) < (l.length:Int))=False:=eq_false (by omega)
     rw [List.take_of_length_le (by omega)] at W
     simp +contextual only [bF,bX,ew,ak,g0,↓ah,ao,simprocAttr]
     exact ⟨W.eC (by rw [List.length_map];exact hle) (fun _ q=>q) fun _ q=>q,E⟩
set_option maxHeartbeats 2000000 in
theorem Ju:∀(N:Nat),(∀(t:aM),2 * t.size<N→∀(ad ws:List V) (h:af),bZ Any h t.enc ad→bZ Any h t.enc ws→bB Tryz.prog 20 [.agg ad,.agg ws] h fun x ab=>x=.bool true∧Ext h ab)∧
 (∀(l:List aM),2 * dt l+1<N→∀(v w:V) (h:af),bI Any h 5 (l.map aM.enc) v→bI Any h 5 (l.map aM.enc) w→bB Tryz.prog 17 [v,w] h fun x ab=>x=.bool true∧Ext h ab)
 | 0=>⟨fun t q=>by omega,fun l q=>by omega⟩
 | N+1=>by
   obtain ⟨B2,yM⟩:=Ju N
   refine ⟨fun t aR ad ws h H cD=>?_,fun l aR v w h L mN=>?_⟩
   · obtain ⟨cl,rfl,L,_⟩:=aM.open H
     obtain ⟨wl,rfl,mN,_⟩:=aM.open cD
     have b7:=size_eq t
     have ol:=L.one
     have ej:=mN.one
     refine Vt rfl (cR ?_)
     unfold ET
     obtain ⟨aa,al,aB,ch⟩:=fo h [.int .i64 t.k,.int .i64 t.n,.int .i64 t.a,.str t.s,cl]
     obtain ⟨ae,aq,aO,cO⟩:=fo aa [.int .i64 t.k,.int .i64 t.n,.int .i64 t.a,.str t.s,wl]
     have Se:=ch.ext aO
     simp +contextual only [ol.1,ol.2.1,ej.1,ej.2.1,al,aq,Se.g,cO.g,decide_true,↓ah,ao,simprocAttr]
     refine bK (yM t.l (by omega) cl wl ae (L.ext (aB.trans aO)) (mN.ext (aB.trans aO))) ?_
     rintro x aI ⟨rfl,cc⟩
     simp +contextual only [↓ah,ao,simprocAttr]
     exact (aB.trans aO).trans cc
   · have ak:=L.len
     have kf:=mN.len
     have hle:=L.le
     rw [List.length_map] at ak hle kf
     refine Vn rfl (cR ?_)
     unfold p1
     simp +contextual only [ak,kf,↓ah,ao,simprocAttr]
     refine fD (fun r g=>r 0=v∧r 1=w∧∃i:Nat,r 5=.int .i64 i∧i≤l.length∧Ext h g) (fun r g=>l.length - (r 5).toN) ?_ ?_
     · exact ⟨by simp only [↓ah,bA,simprocAttr],by simp only [↓ah,bA,simprocAttr],0,by simp only [↓ah,bA,simprocAttr]<;>rfl,by omega,Ext.refl h⟩
     rintro r g ⟨bF,bp,i,cu,av,E⟩
     unfold Lh
     by_cases aN:i<l.length
     · have g0:((i:Int) < (l.length:Int))=True:=eq_true (by omega)
       obtain ⟨b,off,ul,b_,X,gr,ld⟩:=aM.jV (L.ext E) (k:=.i64) aN
       obtain ⟨cb,wC,als,iB,Ax,aj0,mw⟩:=aM.jV (mN.ext E) (k:=.i64) aN
       have d1:=ld g (Ext.refl g)
       have d2:=mw g (Ext.refl g)
       have dM:=ik aN (by unfold top at hle;omega)
       have b7:=zr (List.getElem_mem aN)
       simp +contextual only [bF,bp,cu,ak,g0,b_,iB,d1,d2,↓ah,ao,simprocAttr]
       refine bK (B2 l[i] (by omega) _ _ g X Ax) ?_
       rintro x g2 ⟨rfl,aO⟩
       have d3:=ld g2 aO
       have d4:=mw g2 aO
       simp +contextual only [bF,bp,cu,dM,d1,d2,d3,d4,↓ah,ao,simprocAttr]
       exact ⟨⟨i+1,rfl,aN,E.trans aO⟩,by omega⟩
     · have g0:((i:Int) < (l.length:Int))=False:=eq_false (by omega)
       simp +contextual only [bF,bp,cu,ak,g0,↓ah,ao,simprocAttr]
       exact E
theorem ah9 (l:List aM) (v w:V) (h:af) (L:bI Any h 5 (l.map aM.enc) v) (mN:bI Any h 5 (l.map aM.enc) w):bB Tryz.prog 17 [v,w] h fun x ab=>x=.bool true∧Ext h ab:=(Ju _).2 l (Nat.lt_succ_self _) v w h L mN
theorem ah8 (t:aM) (ad ws:List V) (h:af) (H:bZ Any h t.enc ad) (cD:bZ Any h t.enc ws):bB Tryz.prog 20 [.agg ad,.agg ws] h fun x ab=>x=.bool true∧Ext h ab:=(Ju _).1 t (Nat.lt_succ_self _) ad ws h H cD
theorem Ru (k n a:Int) (t z:List UInt8) (h:af) (aG:t.length≤100000):bB Tryz.prog 73 [.agg [.int .i64 k,.int .i64 n,.int .i64 a,.str t],.str z] h fun x ab=>x=.bool (decide (z=(if k=5 then 39::t else t)))∧Ext h ab:=by
 refine Xq rfl (cR ?_)
 unfold Fu
 obtain ⟨aa,al,aB,ch⟩:=fo h [.int .i64 k,.int .i64 n,.int .i64 a,.str t]
 by_cases aD:k=5
 · have ak:(1+t.length≤17179869184)=True:=eq_true (by omega)
   simp +contextual only [al,ch.g,eq_true aD,ak,if_true,List.cons_append,List.nil_append,↓ah,ao,simprocAttr]
   exact aB
 · simp +contextual only [al,ch.g,eq_false aD,if_false,↓ah,ao,simprocAttr]
   exact aB
theorem O5:∀(f:Nat) (r:List UInt8) (p:Nat) (ws:List b4),lU f r p=.ok ws→∀w ∈ ws,w.kind=3∨w.kind=4∨w.kind=5→w.text.length≤64:=fun f r p ws h w hw aD=>by
 obtain ⟨_,g,_⟩:=It (yY f r p ws h w hw aD)
 exact g
set_option maxHeartbeats 2000000 in
theorem JZ (k:Int) (aD:k=3∨k=4∨k=5) (s:List UInt8) (h:af):bB Tryz.prog 62 [.int .i64 k,.str s] h fun x ab=>x=.bool (dr k s)∧Ext h ab:=by
 rw [←ajt aD]
 refine W7 rfl (cR ?_)
 unfold Fk
 by_cases Gr:(64:Int) < (s.length:Int)
 · have hw:q5 k s=false:=by unfold q5;rw [decide_eq_false (show ¬s.length≤64 by omega)];simp
   simp +contextual only [eq_true Gr,hw,↓ah,ao,simprocAttr]
   exact Ext.refl _
 by_cases n':s=[]
 · have hw:q5 k s=false:=by unfold q5;rw [n'];simp
   simp +contextual only [eq_false Gr,eq_true n',hw,↓ah,ao,simprocAttr]
   exact Ext.refl _
 have f64:=eq_false Gr
 have MO:=eq_false n'
 have hw:q5 k s=(match jX (if k=5 then 39::s else s) with
  | .ok [w]=>decide (w.kind=k)&&decide (w.pos=0)&&decide (w.text≠[])&&decide ((if k=5 then 39::s else s)=(if w.kind=5 then 39::w.text else w.text))
  | _=>false):=by
  unfold q5
  rw [decide_eq_true (show s.length≤64 by omega),decide_eq_true n']
  rfl
 rw [hw]
 clear hw
 have abv:(1+s.length≤17179869184)=True:=eq_true (by omega)
 generalize bj:(if k=5 then 39::s else s)=z
 have cf:(k=5∧z=39::s)∨(¬k=5∧z=s):=by
  by_cases cf:k=5
  · exact .inl ⟨cf,by rw [←bj,if_pos cf]⟩
  · exact .inr ⟨cf,by rw [←bj,if_neg cf]⟩
 clear bj
 rcases cf with ⟨cf,bj⟩ | ⟨cf,bj⟩
 · simp +contextual only [f64,MO,eq_true cf,abv,List.cons_append,List.nil_append,↓ah,ao,simprocAttr]
   rw [←bj]
   clear bj
   refine bK (O7 z h) ?_
   rintro x aa ⟨aB,au⟩
   cases cI:jX z with
   | error e=>
     rw [cI] at au
     simp only at au
     subst au
     obtain ⟨ae,aq,aO,cO⟩:=ja aa [.int .i64 0,.int .i64 0] [.int .i64 e.1,.int .i64 e.2]
     by_cases he:e.1=0
     · simp +contextual only [aq,cO.g,eq_true he,↓ah,ao,simprocAttr]
       exact aB.trans aO
     · simp +contextual only [aq,cO.g,eq_false he,↓ah,ao,simprocAttr]
       exact aB.trans aO
   | ok ws=>
     rw [cI] at au
     simp only at au
     obtain ⟨v,rfl,S⟩:=au
     obtain ⟨ae,aq,aO,cO⟩:=ja aa [.int .i64 0,.int .i64 0] [.int .i64 0,.int .i64 0]
     have kF:=(S.ext aO).v
     have ak:=kF.len
     have cW:=kF.one
     match ws,cI,kF,ak with
     | [],_,kF,ak=>
       have eA:jn v=some (.int .i64 0):=ak
       simp +contextual only [aq,cO.g,eA,cW.1,cW.2.1,↓ah,ao,simprocAttr]
       exact aB.trans aO
     | [w],cI,kF,ak=>
       have eA:jn v=some (.int .i64 1):=ak
       obtain ⟨bR,c_,tF,nL⟩:=kF.b_ (k:=.i64) (i:=0) (by simp)
       have qA:hY 4 v (.int .i64 0)=some (.ptr bR c_):=by simpa using tF
       have d0:hj (ae.get bR) c_=some (.int .i64 w.kind):=by have:=nL.gl (i:=0) (by simp [hP,b4.enc]);simpa [hP,b4.enc] using this
       have d2:hj (ae.get bR) (c_+2)=some (.int .i64 w.pos):=by have:=nL.gl (i:=2) (by simp [hP,b4.enc]);simpa [hP,b4.enc] using this
       have d3:hj (ae.get bR) (c_+3)=some (.str w.text):=by have:=nL.gl (i:=3) (by simp [hP,b4.enc]);simpa [hP,b4.enc] using this
       have h7:mx 4 (ae.get bR) c_=some (.agg [.int .i64 w.kind,.int .i64 w.num,.int .i64 w.pos,.str w.text]):=by have:=nL.iQ (i:=0) (n:=4) (by simp [hP,b4.enc]);simpa [hP,b4.enc] using this
       by_cases bz:w.kind=k
       · by_cases bN:(w.pos:Int)=0
         · by_cases c3:w.text=[]
           · have iN:((0:Int) < (w.text.length:Int))=False:=by rw [c3];simp
             simp +contextual only [aq,cO.g,eA,cW.1,cW.2.1,qA,d0,d2,d3,h7,eq_true bz,eq_true bN,iN,↓ah,ao,simprocAttr]
             exact ⟨by rw [c3];simp,aB.trans aO⟩
           · have iN:((0:Int) < (w.text.length:Int))=True:=eq_true (by have:=List.length_pos_iff.2 c3;omega)
             have aG:w.text.length≤64:=by
              have hm:w.kind=3∨w.kind=4∨w.kind=5:=by rw [bz];exact aD
              unfold jX at cI
              split at cI
              · cases cI
              · split at cI
                · cases cI
                · exact O5 _ _ _ _ cI w (by simp) hm
             simp +contextual only [aq,cO.g,eA,cW.1,cW.2.1,qA,d0,d2,d3,h7,eq_true bz,eq_true bN,iN,↓ah,ao,simprocAttr]
             refine bK (Ru _ _ _ w.text z ae (by omega)) ?_
             rintro x aI ⟨rfl,cc⟩
             simp +contextual only [↓ah,ao,simprocAttr]
             refine ⟨?_,(aB.trans aO).trans cc⟩
             have xI:w.pos=0:=by omega
             simp [bz,xI,c3]
         · simp +contextual only [aq,cO.g,eA,cW.1,cW.2.1,qA,d0,d2,d3,h7,eq_true bz,eq_false bN,↓ah,ao,simprocAttr]
           exact ⟨by have:¬w.pos=0:=by omega
                     simp [this],aB.trans aO⟩
       · simp +contextual only [aq,cO.g,eA,cW.1,cW.2.1,qA,d0,d2,d3,h7,eq_false bz,↓ah,ao,simprocAttr]
         first | exact aB.trans aO | exact ⟨by simp [bz],aB.trans aO⟩
     | w::bQ::ws,_,kF,ak=>
       have eA:(((ws.length+2:Nat):Int)=1)=False:=eq_false (by omega)
       have G6:jn v=some (.int .i64 ((ws.length+2:Nat):Int)):=ak
       simp +contextual only [aq,cO.g,G6,eA,cW.1,cW.2.1,↓ah,ao,simprocAttr]
       exact aB.trans aO
 · simp +contextual only [f64,MO,eq_false cf,↓ah,ao,simprocAttr]
   rw [←bj]
   clear bj
   refine bK (O7 z h) ?_
   rintro x aa ⟨aB,au⟩
   cases cI:jX z with
   | error e=>
     rw [cI] at au
     simp only at au
     subst au
     obtain ⟨ae,aq,aO,cO⟩:=ja aa [.int .i64 0,.int .i64 0] [.int .i64 e.1,.int .i64 e.2]
     by_cases he:e.1=0
     · simp +contextual only [aq,cO.g,eq_true he,↓ah,ao,simprocAttr]
       exact aB.trans aO
     · simp +contextual only [aq,cO.g,eq_false he,↓ah,ao,simprocAttr]
       exact aB.trans aO
   | ok ws=>
     rw [cI] at au
     simp only at au
     obtain ⟨v,rfl,S⟩:=au
     obtain ⟨ae,aq,aO,cO⟩:=ja aa [.int .i64 0,.int .i64 0] [.int .i64 0,.int .i64 0]
     have kF:=(S.ext aO).v
     have ak:=kF.len
     have cW:=kF.one
     match ws,cI,kF,ak with
     | [],_,kF,ak=>
       have eA:jn v=some (.int .i64 0):=ak
       simp +contextual only [aq,cO.g,eA,cW.1,cW.2.1,↓ah,ao,simprocAttr]
       exact aB.trans aO
     | [w],cI,kF,ak=>
       have eA:jn v=some (.int .i64 1):=ak
       obtain ⟨bR,c_,tF,nL⟩:=kF.b_ (k:=.i64) (i:=0) (by simp)
       have qA:hY 4 v (.int .i64 0)=some (.ptr bR c_):=by simpa using tF
       have d0:hj (ae.get bR) c_=some (.int .i64 w.kind):=by have:=nL.gl (i:=0) (by simp [hP,b4.enc]);simpa [hP,b4.enc] using this
       have d2:hj (ae.get bR) (c_+2)=some (.int .i64 w.pos):=by have:=nL.gl (i:=2) (by simp [hP,b4.enc]);simpa [hP,b4.enc] using this
       have d3:hj (ae.get bR) (c_+3)=some (.str w.text):=by have:=nL.gl (i:=3) (by simp [hP,b4.enc]);simpa [hP,b4.enc] using this
       have h7:mx 4 (ae.get bR) c_=some (.agg [.int .i64 w.kind,.int .i64 w.num,.int .i64 w.pos,.str w.text]):=by have:=nL.iQ (i:=0) (n:=4) (by simp [hP,b4.enc]);simpa [hP,b4.enc] using this
       by_cases bz:w.kind=k
       · by_cases bN:(w.pos:Int)=0
         · by_cases c3:w.text=[]
           · have iN:((0:Int) < (w.text.length:Int))=False:=by rw [c3];simp
             simp +contextual only [aq,cO.g,eA,cW.1,cW.2.1,qA,d0,d2,d3,h7,eq_true bz,eq_true bN,iN,↓ah,ao,simprocAttr]
             exact ⟨by rw [c3];simp,aB.trans aO⟩
           · have iN:((0:Int) < (w.text.length:Int))=True:=eq_true (by have:=List.length_pos_iff.2 c3;omega)
             have aG:w.text.length≤64:=by
              have hm:w.kind=3∨w.kind=4∨w.kind=5:=by rw [bz];exact aD
              unfold jX at cI
              split at cI
              · cases cI
              · split at cI
                · cases cI
                · exact O5 _ _ _ _ cI w (by simp) hm
             simp +contextual only [aq,cO.g,eA,cW.1,cW.2.1,qA,d0,d2,d3,h7,eq_true bz,eq_true bN,iN,↓ah,ao,simprocAttr]
             refine bK (Ru _ _ _ w.text z ae (by omega)) ?_
             rintro x aI ⟨rfl,cc⟩
             simp +contextual only [↓ah,ao,simprocAttr]
             refine ⟨?_,(aB.trans aO).trans cc⟩
             have xI:w.pos=0:=by omega
             simp [bz,xI,c3]
         · simp +contextual only [aq,cO.g,eA,cW.1,cW.2.1,qA,d0,d2,d3,h7,eq_true bz,eq_false bN,↓ah,ao,simprocAttr]
           exact ⟨by have:¬w.pos=0:=by omega
                     simp [this],aB.trans aO⟩
       · simp +contextual only [aq,cO.g,eA,cW.1,cW.2.1,qA,d0,d2,d3,h7,eq_false bz,↓ah,ao,simprocAttr]
         first | exact aB.trans aO | exact ⟨by simp [bz],aB.trans aO⟩
     | w::bQ::ws,_,kF,ak=>
       have eA:(((ws.length+2:Nat):Int)=1)=False:=eq_false (by omega)
       have G6:jn v=some (.int .i64 ((ws.length+2:Nat):Int)):=ak
       simp +contextual only [aq,cO.g,G6,eA,cW.1,cW.2.1,↓ah,ao,simprocAttr]
       exact aB.trans aO
theorem Ca {k:Int} (h:eu k≠0):k=1∨k=2∨k=3∨k=4∨k=10∨k=13∨k=11∨k=12∨k=14∨k=15∨k=16∨k=20∨k=21∨k=22∨k=23∨k=24∨k=25∨k=26∨k=28∨k=35∨k=37∨k=38∨k=34∨k=36∨k=39∨k=31∨k=27∨k=29∨k=30∨k=32∨k=33∨k=45∨k=46∨k=47∨k=51∨k=52∨k=53∨k=50:=by
 cases aJ:lb k with
 | none=>exact absurd (Q2 aJ) h
 | some r=>
   have hm:=Db (l:=qT) aJ
   simp only [qT,List.mem_cons,Prod.mk.injEq,List.not_mem_nil,or_false] at hm
   omega
theorem agM (h:af):bB Tryz.prog 66 [] h fun x ab=>x=.slice (aC h.next) 0 8 8∧ab=h.new (.bh (oD opsL) 0 false):=by
 refine Xe rfl (cR ?_)
 unfold Fo
 simp +contextual only [↓ah,ao,simprocAttr]
 rfl
set_option maxHeartbeats 4000000 in
theorem aiT (t:aM) (aD:eu t.k≠0) (ad:List V) (h:af) (H:bZ Any h t.enc ad):bB Tryz.prog 49 [.agg ad] h fun x ab=>x=.bool (uh dr t.k t.s)∧Ext h ab:=by
 obtain ⟨cl,rfl,L,aR⟩:=aM.open H
 have ol:=L.one
 obtain ⟨k,n,a,s,l⟩:=t
 simp only [aM.k,aM.n,aM.a,aM.s,aM.l] at *
 refine Wy rfl (cR ?_)
 unfold c49
 obtain ⟨aa,al,aB,ch⟩:=fo h [.int .i64 k,.int .i64 n,.int .i64 a,.str s,cl]
 have g1:=ch.g
 clear L H
 rcases Ca aD with rfl | rfl | rfl | rfl | rfl | rfl | rfl | rfl | rfl | rfl | rfl | rfl | rfl | rfl | rfl | rfl | rfl | rfl | rfl | rfl | rfl | rfl | rfl | rfl | rfl | rfl | rfl | rfl | rfl | rfl | rfl | rfl | rfl | rfl | rfl | rfl | rfl | rfl
 · simp +contextual only [ol.1,ol.2.1,al,g1,↓ah,ao,simprocAttr]
   refine bK (py 5 s aR (by simp) aa) ?_
   rintro x ae ⟨rfl,aO⟩
   simp +contextual only [↓ah,ao,simprocAttr]
   exact ⟨by rfl,aB.trans aO⟩
 · simp +contextual only [ol.1,ol.2.1,al,g1,↓ah,ao,simprocAttr]
   refine bK (py 3 s aR (by simp) aa) ?_
   rintro x ae ⟨rfl,aO⟩
   simp +contextual only [↓ah,ao,simprocAttr]
   exact ⟨by rfl,aB.trans aO⟩
 · simp +contextual only [ol.1,ol.2.1,al,g1,↓ah,ao,simprocAttr]
   exact ⟨by rfl,aB⟩
 · simp +contextual only [ol.1,ol.2.1,al,g1,↓ah,ao,simprocAttr]
   exact ⟨by rfl,aB⟩
 · simp +contextual only [ol.1,ol.2.1,al,g1,↓ah,ao,simprocAttr]
   exact ⟨by rfl,aB⟩
 · simp +contextual only [ol.1,ol.2.1,al,g1,↓ah,ao,simprocAttr]
   exact ⟨by rfl,aB⟩
 · simp +contextual only [ol.1,ol.2.1,al,g1,↓ah,ao,simprocAttr]
   refine bK (py 3 s aR (by simp) aa) ?_
   rintro x ae ⟨rfl,aO⟩
   simp +contextual only [↓ah,ao,simprocAttr]
   exact ⟨by rfl,aB.trans aO⟩
 · simp +contextual only [ol.1,ol.2.1,al,g1,↓ah,ao,simprocAttr]
   exact ⟨by rfl,aB⟩
 · simp +contextual only [ol.1,ol.2.1,al,g1,↓ah,ao,simprocAttr]
   exact ⟨by rfl,aB⟩
 · simp +contextual only [ol.1,ol.2.1,al,g1,↓ah,ao,simprocAttr]
   exact ⟨by rfl,aB⟩
 · simp +contextual only [ol.1,ol.2.1,al,g1,↓ah,ao,simprocAttr]
   refine bK (py 4 s aR (by simp) aa) ?_
   rintro x ae ⟨rfl,aO⟩
   simp +contextual only [↓ah,ao,simprocAttr]
   exact ⟨by rfl,aB.trans aO⟩
 · simp +contextual only [ol.1,ol.2.1,al,g1,↓ah,ao,simprocAttr]
   exact ⟨by rfl,aB⟩
 · simp +contextual only [ol.1,ol.2.1,al,g1,↓ah,ao,simprocAttr]
   have ba:uh dr 21 s=decide ((s.length:Int)≤4096):=by
    show decide (s.length≤4096)=_
    exact decide_eq_decide.2 ⟨fun q=>by omega,fun q=>by omega⟩
   exact ⟨by rw [ba],aB⟩
 · simp +contextual only [ol.1,ol.2.1,al,g1,↓ah,ao,simprocAttr]
   exact ⟨by rfl,aB⟩
 · simp +contextual only [ol.1,ol.2.1,al,g1,↓ah,ao,simprocAttr]
   exact ⟨by rfl,aB⟩
 · simp +contextual only [ol.1,ol.2.1,al,g1,↓ah,ao,simprocAttr]
   refine bK (py 3 s aR (by simp) aa) ?_
   rintro x ae ⟨rfl,aO⟩
   simp +contextual only [↓ah,ao,simprocAttr]
   exact ⟨by rfl,aB.trans aO⟩
 · simp +contextual only [ol.1,ol.2.1,al,g1,↓ah,ao,simprocAttr]
   refine bK (py 4 s aR (by simp) aa) ?_
   rintro x ae ⟨rfl,aO⟩
   simp +contextual only [↓ah,ao,simprocAttr]
   exact ⟨by rfl,aB.trans aO⟩
 · simp +contextual only [ol.1,ol.2.1,al,g1,↓ah,ao,simprocAttr]
   exact ⟨by rfl,aB⟩
 · simp +contextual only [ol.1,ol.2.1,al,g1,↓ah,ao,simprocAttr]
   exact ⟨by rfl,aB⟩
 · simp +contextual only [ol.1,ol.2.1,al,g1,↓ah,ao,simprocAttr]
   exact ⟨by rfl,aB⟩
 · simp +contextual only [ol.1,ol.2.1,al,g1,↓ah,ao,simprocAttr]
   exact ⟨by rfl,aB⟩
 · simp +contextual only [ol.1,ol.2.1,al,g1,↓ah,ao,simprocAttr]
   refine bK (agM aa) ?_
   rintro x ae ⟨rfl,rfl⟩
   have aO:Ext aa (aa.new (.bh (oD opsL) 0 false)):=(Ext.refl aa).new _
   have g2:=(ch.ext aO).g
   simp +contextual only [g1,g2,↓ah,ao,simprocAttr]
   refine fj (HX s opsL _ 8 _ (by decide) (by rw [na])) ?_
   simp +contextual only [g1,g2,↓ah,ao,simprocAttr]
   exact ⟨by rfl,aB.trans aO⟩
 · simp +contextual only [ol.1,ol.2.1,al,g1,↓ah,ao,simprocAttr]
   exact ⟨by rfl,aB⟩
 · simp +contextual only [ol.1,ol.2.1,al,g1,↓ah,ao,simprocAttr]
   exact ⟨by rfl,aB⟩
 · simp +contextual only [ol.1,ol.2.1,al,g1,↓ah,ao,simprocAttr]
   exact ⟨by rfl,aB⟩
 · simp +contextual only [ol.1,ol.2.1,al,g1,↓ah,ao,simprocAttr]
   exact ⟨by rfl,aB⟩
 · simp +contextual only [ol.1,ol.2.1,al,g1,↓ah,ao,simprocAttr]
   exact ⟨by rfl,aB⟩
 · simp +contextual only [ol.1,ol.2.1,al,g1,↓ah,ao,simprocAttr]
   exact ⟨by rfl,aB⟩
 · simp +contextual only [ol.1,ol.2.1,al,g1,↓ah,ao,simprocAttr]
   exact ⟨by rfl,aB⟩
 · simp +contextual only [ol.1,ol.2.1,al,g1,↓ah,ao,simprocAttr]
   exact ⟨by rfl,aB⟩
 · simp +contextual only [ol.1,ol.2.1,al,g1,↓ah,ao,simprocAttr]
   exact ⟨by rfl,aB⟩
 · simp +contextual only [ol.1,ol.2.1,al,g1,↓ah,ao,simprocAttr]
   exact ⟨by rfl,aB⟩
 · simp +contextual only [ol.1,ol.2.1,al,g1,↓ah,ao,simprocAttr]
   refine bK (py 3 s aR (by simp) aa) ?_
   rintro x ae ⟨rfl,aO⟩
   simp +contextual only [↓ah,ao,simprocAttr]
   exact ⟨by rfl,aB.trans aO⟩
 · simp +contextual only [ol.1,ol.2.1,al,g1,↓ah,ao,simprocAttr]
   refine bK (py 4 s aR (by simp) aa) ?_
   rintro x ae ⟨rfl,aO⟩
   simp +contextual only [↓ah,ao,simprocAttr]
   exact ⟨by rfl,aB.trans aO⟩
 · simp +contextual only [ol.1,ol.2.1,al,g1,↓ah,ao,simprocAttr]
   refine bK (py 4 s aR (by simp) aa) ?_
   rintro x ae ⟨rfl,aO⟩
   simp +contextual only [↓ah,ao,simprocAttr]
   exact ⟨by rfl,aB.trans aO⟩
 · simp +contextual only [ol.1,ol.2.1,al,g1,↓ah,ao,simprocAttr]
   exact ⟨by rfl,aB⟩
 · simp +contextual only [ol.1,ol.2.1,al,g1,↓ah,ao,simprocAttr]
   exact ⟨by rfl,aB⟩
 · simp +contextual only [ol.1,ol.2.1,al,g1,↓ah,ao,simprocAttr]
   refine bK (py 3 s aR (by simp) aa) ?_
   rintro x ae ⟨rfl,aO⟩
   simp +contextual only [↓ah,ao,simprocAttr]
   exact ⟨by rfl,aB.trans aO⟩
set_option maxHeartbeats 4000000 in
theorem agd (t:aM) (aD:eu t.k≠0) (ad:List V) (h:af) (H:bZ Any h t.enc ad):bB Tryz.prog 50 [.agg ad] h fun x ab=>x=.bool (hC t.k t.n t.l.length)∧Ext h ab:=by
 obtain ⟨cl,rfl,L,aR⟩:=aM.open H
 have ol:=L.one
 have ak:=L.len
 rw [List.length_map] at ak
 obtain ⟨k,n,a,s,l⟩:=t
 simp only [aM.k,aM.n,aM.a,aM.s,aM.l] at *
 refine WC rfl (cR ?_)
 unfold Fc
 obtain ⟨aa,al,aB,ch⟩:=fo h [.int .i64 k,.int .i64 n,.int .i64 a,.str s,cl]
 have g1:=ch.g
 clear L H
 rcases Ca aD with rfl | rfl | rfl | rfl | rfl | rfl | rfl | rfl | rfl | rfl | rfl | rfl | rfl | rfl | rfl | rfl | rfl | rfl | rfl | rfl | rfl | rfl | rfl | rfl | rfl | rfl | rfl | rfl | rfl | rfl | rfl | rfl | rfl | rfl | rfl | rfl | rfl | rfl
 · simp +contextual only [ol.1,ol.2.1,al,g1,↓ah,ao,simprocAttr]
   exact ⟨by rfl,aB⟩
 · simp +contextual only [ol.1,ol.2.1,al,g1,↓ah,ao,simprocAttr]
   exact ⟨by rfl,aB⟩
 · simp +contextual only [ol.1,ol.2.1,al,g1,↓ah,ao,simprocAttr]
   exact ⟨by rfl,aB⟩
 · simp +contextual only [ol.1,ol.2.1,al,g1,↓ah,ao,simprocAttr]
   exact ⟨by rfl,aB⟩
 · simp +contextual only [ol.1,ol.2.1,al,g1,↓ah,ao,simprocAttr]
   exact ⟨by rfl,aB⟩
 · simp +contextual only [ol.1,ol.2.1,al,g1,↓ah,ao,simprocAttr]
   exact ⟨by rfl,aB⟩
 · simp +contextual only [ol.1,ol.2.1,al,g1,↓ah,ao,simprocAttr]
   exact ⟨by rfl,aB⟩
 · by_cases bR:-1073741824≤n
   · simp +contextual only [ol.1,ol.2.1,al,g1,vn bR,↓ah,ao,simprocAttr]
     exact ⟨by simp [hC,bR],aB⟩
   · simp +contextual only [ol.1,ol.2.1,al,g1,xX (Int.not_le.1 bR),eq_false bR,↓ah,ao,simprocAttr]
     exact ⟨by simp [hC,bR],aB⟩
 · by_cases bR:n=0
   · simp +contextual only [ol.1,ol.2.1,al,g1,eq_true bR,↓ah,ao,simprocAttr]
     exact ⟨by simp [hC,bR],aB⟩
   · simp +contextual only [ol.1,ol.2.1,al,g1,eq_false bR,↓ah,ao,simprocAttr]
     exact ⟨by simp [hC,bR],aB⟩
 · simp +contextual only [ol.1,ol.2.1,al,g1,↓ah,ao,simprocAttr]
   exact ⟨by rfl,aB⟩
 · simp +contextual only [ol.1,ol.2.1,al,g1,↓ah,ao,simprocAttr]
   exact ⟨by rfl,aB⟩
 · by_cases bR:-1073741824≤n
   · simp +contextual only [ol.1,ol.2.1,al,g1,vn bR,↓ah,ao,simprocAttr]
     exact ⟨by simp [hC,bR],aB⟩
   · simp +contextual only [ol.1,ol.2.1,al,g1,xX (Int.not_le.1 bR),eq_false bR,↓ah,ao,simprocAttr]
     exact ⟨by simp [hC,bR],aB⟩
 · simp +contextual only [ol.1,ol.2.1,al,g1,↓ah,ao,simprocAttr]
   exact ⟨by rfl,aB⟩
 · simp +contextual only [ol.1,ol.2.1,al,g1,↓ah,ao,simprocAttr]
   exact ⟨by rfl,aB⟩
 · by_cases bR:n=0
   · simp +contextual only [ol.1,ol.2.1,al,g1,eq_true bR,↓ah,ao,simprocAttr]
     exact ⟨by simp [hC,bR],aB⟩
   · simp +contextual only [ol.1,ol.2.1,al,g1,eq_false bR,↓ah,ao,simprocAttr]
     exact ⟨by simp [hC,bR],aB⟩
 · simp +contextual only [ol.1,ol.2.1,al,g1,↓ah,ao,simprocAttr]
   exact ⟨by rfl,aB⟩
 · simp +contextual only [ol.1,ol.2.1,al,g1,↓ah,ao,simprocAttr]
   exact ⟨by rfl,aB⟩
 · simp +contextual only [ol.1,ol.2.1,al,g1,↓ah,ao,simprocAttr]
   exact ⟨by rfl,aB⟩
 · simp +contextual only [ol.1,ol.2.1,al,g1,↓ah,ao,simprocAttr]
   exact ⟨by rfl,aB⟩
 · simp +contextual only [ol.1,ol.2.1,al,g1,↓ah,ao,simprocAttr]
   exact ⟨by rfl,aB⟩
 · simp +contextual only [ol.1,ol.2.1,al,g1,↓ah,ao,simprocAttr]
   exact ⟨by rfl,aB⟩
 · simp +contextual only [ol.1,ol.2.1,al,g1,↓ah,ao,simprocAttr]
   exact ⟨by rfl,aB⟩
 · simp +contextual only [ol.1,ol.2.1,al,g1,↓ah,ao,simprocAttr]
   exact ⟨by rfl,aB⟩
 · simp +contextual only [ol.1,ol.2.1,al,g1,↓ah,ao,simprocAttr]
   exact ⟨by rfl,aB⟩
 · simp +contextual only [ol.1,ol.2.1,al,g1,↓ah,ao,simprocAttr]
   exact ⟨by rfl,aB⟩
 · simp +contextual only [ol.1,ol.2.1,al,g1,↓ah,ao,simprocAttr]
   exact ⟨by rfl,aB⟩
 · simp +contextual only [ol.1,ol.2.1,al,g1,↓ah,ao,simprocAttr]
   exact ⟨by rfl,aB⟩
 · simp +contextual only [ol.1,ol.2.1,al,g1,↓ah,ao,simprocAttr]
   exact ⟨by rfl,aB⟩
 · simp +contextual only [ol.1,ol.2.1,al,g1,↓ah,ao,simprocAttr]
   exact ⟨by rfl,aB⟩
 · simp +contextual only [ol.1,ol.2.1,al,g1,↓ah,ao,simprocAttr]
   exact ⟨by rfl,aB⟩
 · simp +contextual only [ol.1,ol.2.1,al,g1,↓ah,ao,simprocAttr]
   exact ⟨by rfl,aB⟩
 · simp +contextual only [ol.1,ol.2.1,al,g1,↓ah,ao,simprocAttr]
   exact ⟨by rfl,aB⟩
 · simp +contextual only [ol.1,ol.2.1,al,g1,↓ah,ao,simprocAttr]
   exact ⟨by rfl,aB⟩
 · simp +contextual only [ol.1,ol.2.1,al,g1,↓ah,ao,simprocAttr]
   exact ⟨by rfl,aB⟩
 · simp +contextual only [ol.1,ol.2.1,al,g1,↓ah,ao,simprocAttr]
   exact ⟨by rfl,aB⟩
 · simp +contextual only [ol.1,ol.2.1,al,g1,↓ah,ao,simprocAttr]
   exact ⟨by rfl,aB⟩
 · simp +contextual only [ol.1,ol.2.1,al,g1,↓ah,ao,simprocAttr]
   exact ⟨by rfl,aB⟩
 · by_cases bR:0≤n
   · by_cases cb:n≤64
     · simp +contextual only [ol.1,ol.2.1,al,g1,ak,vn bR,eq_true cb,↓ah,ao,simprocAttr]
       exact ⟨by simp [hC,bR,cb],aB⟩
     · simp +contextual only [ol.1,ol.2.1,al,g1,vn bR,eq_false cb,↓ah,ao,simprocAttr]
       exact ⟨by simp [hC,bR,cb],aB⟩
   · simp +contextual only [ol.1,ol.2.1,al,g1,xX (Int.not_le.1 bR),eq_false bR,↓ah,ao,simprocAttr]
     exact ⟨by simp [hC,bR],aB⟩
set_option maxHeartbeats 1000000 in
theorem hk (x m:Int) (hm:m≤2000000000) (h:af):bB Tryz.prog 67 [.int .i64 x,.int .i64 m] h fun y ab=>dx h.next ab 1 y (List.replicate m.toNat x).length (kn (List.replicate m.toNat x))∧Ext h ab:=by
 refine Xh rfl (cR ?_)
 unfold Fp
 simp +contextual only [↓ah,ao,simprocAttr]
 refine fD (fun r g=>r 0=.int .i64 x∧r 1=.int .i64 m∧∃(i:Nat) (w:V),r 5=w∧r 6=.int .i64 i∧i≤m.toNat∧dx h.next g 1 w i (kn (List.replicate i x))∧Ext h g) (fun r g=>m.toNat - (r 6).toN) ?_ ?_
 · exact ⟨by simp only [↓ah,bA,simprocAttr],by simp only [↓ah,bA,simprocAttr],0,.bW,by simp only [↓ah,bA,simprocAttr],by simp only [↓ah,bA,simprocAttr]<;>rfl,by omega,⟨rfl,rfl⟩,Ext.refl h⟩
 rintro r g ⟨bF,bp,i,w,cu,ek,av,W,E⟩
 unfold LA
 by_cases aN:i<m.toNat
 · have g0:((i:Int)<m)=True:=eq_true (by omega)
   have dM:=ik aN (by omega)
   obtain ⟨ar,g4,al,aq,aK,bG,di⟩:=sI (cs:=[.int .i64 x]) (by omega) W E.next (by unfold top;omega) rfl rfl
   simp +contextual only [bF,bp,cu,ek,g0,al,dM,↓ah,ao,simprocAttr]
   refine ⟨⟨i+1,rfl,aN,?_,E.h0 aK fun b ai=>W.base ai⟩,by omega⟩
   rw [List.replicate_succ',H3]
   exact aq
 · have g0:((i:Int)<m)=False:=eq_false (by omega)
   have:i=m.toNat:=by omega
   subst this
   simp +contextual only [bF,bp,cu,ek,g0,↓ah,ao,simprocAttr]
   exact ⟨by rw [List.length_replicate];exact W,E⟩
abbrev fi [Lay] (B:Nat) (h:af) (l:List Nm) (v:V):Prop:=dx B h 1 v l.length (l.map V.str)∧∀s ∈ l,s.length≤top
theorem PX:∀l:List Nm,eg (l.map V.str)=true
 | []=>rfl
 | s::l=>by rw [List.map_cons];simp only [eg,IL,PX l,Bool.and_self]
theorem Gc:∀l:List Nm,(l.map fun s=>[V.str s]).flatten=l.map V.str
 | []=>rfl
 | s::l=>by rw [List.map_cons,List.flatten_cons,Gc l];rfl
section
variable [Lay] {B:Nat} {h ab:af} {l:List Nm} {v:V}
theorem et.PC {F:aQ→Prop} (H:et h 1 v l.length (l.map V.str)) (aJ:sh v) (ak:l.length≤top) (aR:∀s ∈ l,s.length≤top) (aA:∀b,v.a7 b→F b):bI F h 1 (l.map aS.encS) v:=
 ⟨aJ,by rw [List.length_map];exact ak,⟨l.map fun s=>[V.str s],by rw [List.length_map,Gc];exact H,by simp,fun u hu=>by
   obtain ⟨i,_,rfl⟩:=List.mem_map.1 hu
   rfl,fun i e u al aq=>by
   rw [List.getElem?_map] at al aq
   cases av:l[i]? with
   | none=>rw [av] at al;cases al
   | some y=>
     rw [av] at al aq
     simp only [Option.map_some,Option.some.injEq] at al aq
     subst al aq
     exact .s (aR y (List.mem_of_getElem? av)) .nil⟩,aA⟩
theorem af8 {F:aQ→Prop} (H:bI F h 1 (l.map aS.encS) v):et h 1 v l.length (l.map V.str)∧∀s ∈ l,s.length≤top:=by
 obtain ⟨us,a,b,c,d⟩:=H.ex
 rw [List.length_map] at a b
 have key:∀(i:Nat) (av:i<l.length),us[i]? =some [V.str l[i]]∧l[i].length≤top:=fun i av=>by
  have aa:us[i]? =some us[i]:=List.getElem?_eq_getElem (by omega)
  have ae:=d i (aS.encS l[i]) us[i] (by rw [List.getElem?_map,List.getElem?_eq_getElem av];rfl) aa
  obtain ⟨ws,aB,aO,cc⟩:=bZ.str ae
  rw [aa,aB,cc.no]
  exact ⟨rfl,aO⟩
 have:us.flatten=l.map V.str:=by
  rw [←Gc]
  congr 1
  apply List.ext_getElem?
  intro i
  by_cases av:i<l.length
  · rw [(key i av).1,List.getElem?_map,List.getElem?_eq_getElem av]
    rfl
  · rw [List.getElem?_eq_none (by omega),List.getElem?_eq_none (by rw [List.length_map];omega)]
 refine ⟨by rw [←this];exact a,fun s aR=>?_⟩
 obtain ⟨i,av,rfl⟩:=List.getElem_of_mem aR
 exact (key i av).2
theorem fi.eC {F:aQ→Prop} (H:fi B h l v) (ak:l.length≤top) (ka:∀b,B≤cd b→F b):bI F h 1 (l.map aS.encS) v:=et.PC H.1.v H.1.room ak H.2 fun b q=>ka b (H.1.base q)
theorem fi.nil (B:Nat) (h:af):fi B h [] .bW:=⟨⟨rfl,rfl⟩,fun s aR=>by cases aR⟩
theorem fi.ext (H:fi B h l v) (e:Ext h ab):fi B ab l v:=⟨H.1.ext e,H.2⟩
theorem fi.mod {M:aQ→Prop} (H:fi B h l v) (m:Mod M h ab) (hm:∀b,v.a7 b→¬M b):fi B ab l v:=⟨H.1.mod m hm,H.2⟩
theorem fi.add (H:fi B h l v) (cS:B≤h.next) (hlen:l.length+1≤top) {s:Nm} (aR:s.length≤top):
 ∃cG ab,kH 1 v (.slice (aC h.next) 0 1 1) (h.new (.bh [.str s] 0 false))=.val cG ab∧fi B ab (l++[s]) cG∧Mod v.a7 h ab∧h.next+1≤ab.next∧cG.one=true∧cG.cells=[cG]∧∀b,cG.a7 b→v.a7 b∨h.next<cd b:=by
 obtain ⟨cG,ab,al,aq,aK,bG,di⟩:=sI (cs:=[.str s]) (Nat.le_refl _) H.1 cS (by omega) rfl rfl
 refine ⟨cG,ab,al,⟨by simpa using aq,fun x au=>?_⟩,aK,bG,aq.v.one.1,aq.v.one.2.1,di⟩
 rcases List.mem_append.1 au with au | au
 · exact H.2 x au
 · rw [List.mem_singleton] at au;subst au;exact aR
theorem fi.apps {m:List Nm} {w:V} {F:aQ→Prop} (H:fi B h l v) (W:bI F h 1 (m.map aS.encS) w) (cS:B≤h.next) (hlen:l.length+m.length≤top):
 ∃cG ab,kH 1 v w h=.val cG ab∧fi B ab (l++m) cG∧Mod v.a7 h ab∧cG.one=true∧cG.cells=[cG]∧∀b,cG.a7 b→v.a7 b∨h.next≤cd b:=by
 obtain ⟨bU,bQ⟩:=af8 W
 obtain ⟨cG,ab,al,aq,aK,bG⟩:=xv (Nat.le_refl _) H.1 bU cS (by omega) (PX m)
 refine ⟨cG,ab,al,⟨by rw [List.length_append,List.map_append];exact aq,fun x au=>?_⟩,aK,aq.v.one.1,aq.v.one.2.1,bG⟩
 rcases List.mem_append.1 au with au | au
 · exact H.2 x au
 · exact bQ x au
end
set_option maxHeartbeats 4000000 in
theorem zx:∀(N:Nat) (t:aM),t.size≤N→N≤1000000000→∀(ad:List V) (h:af),bZ Any h t.enc ad→bB Tryz.prog 26 [.agg ad] h fun x ab=>fi h.next ab t.names x∧Ext h ab
 | 0,t,aR,_,_,_,_=>by have:=mE t;omega
 | N+1,t,aR,vv,ad,h,H=>by
   obtain ⟨cl,rfl,L,hi⟩:=aM.open H
   have bD:N≤1000000000:=by omega
   have ol:=L.one
   have ak:=L.len
   have hle:=L.le
   rw [List.length_map] at ak hle
   have b7:=size_eq t
   refine VL rfl (cR ?_)
   unfold E0
   obtain ⟨aa,al,aB,ch⟩:=fo h [.int .i64 t.k,.int .i64 t.n,.int .i64 t.a,.str t.s,cl]
   by_cases c:t.k=11
   case' pos=>
    have aU:pv t=[t.s]:=by unfold pv;rw [if_pos c]
    obtain ⟨v0,g0,b1,ma,cZ,fX,fM,j8,_⟩:=(fi.nil aa.next aa).add (Nat.le_refl _) (by unfold top;simp) hi
    have fQ:Ext aa g0:=cZ.ext fun b _ q=>q
    rw [List.nil_append,←aU] at ma
    have HI:True:=trivial
    simp +contextual only [ol.1,ol.2.1,al,ch.g,eq_true c,b1,fM,j8,↓ah,ao,simprocAttr]
   case' neg=>
    have aU:pv t=[]:=by unfold pv;rw [if_neg c]
    obtain ⟨v0,HI⟩:∃v0,v0=V.bW:=⟨_,rfl⟩
    obtain ⟨g0,NB⟩:∃g0,g0=aa:=⟨_,rfl⟩
    have ma:fi aa.next g0 (pv t) v0:=by rw [aU,HI];exact fi.nil _ _
    have fQ:Ext aa g0:=by rw [NB];exact Ext.refl _
    simp +contextual only [ol.1,ol.2.1,al,ch.g,eq_false c,↓ah,ao,simprocAttr]
    rw [←NB]
   all_goals
    refine fD (fun r g=>r 1=.ptr (aC h.next) 0∧∃(i:Nat) (w:V),r 3=w∧r 4=.int .i64 i∧i≤t.l.length∧fi aa.next g (pv t++nw (t.l.take i)) w∧Ext aa g) (fun r g=>t.l.length - (r 4).toN) ?_ ?_
    · exact ⟨by simp only [↓ah,bA,simprocAttr],0,v0,by first | (simp only [↓ah,bA,simprocAttr];done) | simp only [HI,↓ah,bA,simprocAttr],by simp only [↓ah,bA,simprocAttr]<;>rfl,by omega,by rw [List.take_zero];simpa [nw,hL] using ma,fQ⟩
    rintro r g ⟨bp,i,w,bX,ew,av,W,E⟩
    unfold Lm
    have hn:=ch.ext E
    have mO:=L.ext (aB.trans E)
    have mC:=aB.next
    have qK:=E.next
    by_cases aN:i<t.l.length
    · have qa:((i:Int) < (t.l.length:Int))=True:=eq_true (by omega)
      obtain ⟨b,off,wl,b_,X,gr,ld⟩:=aM.jV mO (k:=.i64) aN
      have d1:=ld g (Ext.refl g)
      have dM:=ik aN (by unfold top at hle;omega)
      have bj:=mD (t:=t) (List.getElem_mem aN)
      have ej:=W.1.v.one
      simp +contextual only [bp,bX,ew,hn.g,ak,qa,b_,d1,↓ah,ao,simprocAttr]
      refine bK (zx N t.l[i] (by omega) bD _ g X) ?_
      rintro x g2 ⟨Y,dR⟩
      have jg:=CY t.l i
      have o7:=afV (t.l.take i)
      have akv:=Cp t.l[i]
      have akw:(pv t).length≤1:=by unfold pv;split<;>simp
      have y_:=dR.next
      obtain ⟨cG,g3,b1,cg,cZ,fX,iV,agV⟩:=(W.ext dR).apps (Y.eC (F:=Any) (by unfold top;omega) fun _ _=>trivial) (by omega) (by rw [List.length_append];unfold top;omega)
      have f_:Ext aa g3:=(E.trans dR).h0 cZ fun b q=>W.1.base q
      simp +contextual only [bp,bX,ew,b1,iV,agV,dM,↓ah,ao,simprocAttr]
      refine ⟨⟨i+1,rfl,aN,?_,f_⟩,by omega⟩
      rw [take_one aN,afU,afW,←List.append_assoc]
      exact cg
    · have qa:((i:Int) < (t.l.length:Int))=False:=eq_false (by omega)
      rw [List.take_of_length_le (by omega)] at W
      simp +contextual only [bp,bX,ew,hn.g,ak,qa,↓ah,ao,simprocAttr]
      exact ⟨by rw [afX];exact ⟨W.1.mono mC,W.2⟩,aB.trans E⟩
end Go.Proofs.YtkehcalakofigaaGreatDoor
namespace Go.Proofs.YtkehcalakofigaaGreatDoor
open Go aS
structure DG (jD:Nat) (nn:aQ) (I:List aM→(aQ→Prop)→af→Prop):Prop where
 ext:∀{d:List aM} {X:aQ→Prop} {h ab:af},I d X h→Ext h ab→I d X ab
 FZ:∀{d:List aM} {X:aQ→Prop} {h:af} (p:aM) {ad:List V},I d X h→d.length+1≤1000000000→bZ (fun b=>cd b<jD) h p.enc ad→xr Tryz.prog [.agg ad] nn h fun x ab=>x=.bool true∧∃hq,I (d++[p]) hq ab∧Mod X h ab∧∀b,hq b→X b∨h.next≤cd b
 b0:∀{d:List aM} {X:aQ→Prop} {h:af},I d X h→∀b,X b→Old h b
 bm:∀{d:List aM} {X:aQ→Prop} {h:af},I d X h→∀b,X b→jD≤cd b
theorem Bu {X hq:aQ→Prop} {h:af} {n:Nat} (c4:∀b,hq b→X b∨h.next≤cd b) (aX:n<h.next) (bb:¬X (aC n)):¬hq (aC n):=fun q=>by
 rcases c4 _ q with q | q
 · exact bb q
 · rw [c6] at q;omega
theorem afM {X hq:aQ→Prop} {h ab kP:af} (a:Mod X h ab) (c:Mod hq ab kP) (g:∀b,hq b→X b∨h.next≤cd b):Mod X h kP:=
 ⟨Nat.le_trans a.next c.next,fun b ai q=>(c.get b (a.b0 ai) fun z=>by
   rcases g b z with z | z
   · exact q z
   · unfold Old at ai;omega).trans (a.get b ai q)⟩
set_option maxHeartbeats 1000000 in
theorem OA {jD:Nat} {nn:aQ} {I:List aM→(aQ→Prop)→af→Prop} (E:DG jD nn I) {su rP:Nat}:∀(N:Nat) (p:aM),p.size≤N→∀(d:List aM) (X:aQ→Prop) (ad:List V) (h:af),d.length+p.size≤1000000000→¬X (aC su)→¬X (aC rP)→bZ (fun b=>cd b<jD) h p.enc ad→
 Has h su [.func 4294967296 [.ptr nn 0]]→Has h rP [.func 53 [.ptr (aC su) 0,.ptr (aC rP) 0]]→I d X h→bB Tryz.prog 53 [.agg ad,.ptr (aC su) 0,.ptr (aC rP) 0] h fun x ab=>x=.bool true∧∃hq,I (d++p.pre) hq ab∧Mod X h ab∧∀b,hq b→X b∨h.next≤cd b
 | 0,p,aR,_,_,_,_,_,_,_,_,_,_,_=>by have:=mE p;omega
 | N+1,p,aR,d,X,ad,h,BG,a1,av,H,Y,B,J=>by
   have akI:=size_eq p
   obtain ⟨cl,rfl,L,_⟩:=aM.open H
   have ol:=L.one
   have ak:=L.len
   have hle:=L.le
   rw [List.length_map] at ak hle
   refine WM rfl (cR ?_)
   unfold sP
   obtain ⟨aa,al,aB,ch⟩:=fo h [.int .i64 p.k,.int .i64 p.n,.int .i64 p.a,.str p.s,cl]
   have tu:¬X (aC h.next):=fun q=>Cz (Nat.le_refl _) (E.b0 J _ q)
   have mC:=aB.next
   have xq:=Y.ext aB
   simp +contextual only [ol.1,ol.2.1,al,ch.g,xq.g,p5,List.cons_append,List.nil_append,if_true,↓ah,ao,simprocAttr]
   refine ajO (cm:=[_]) (E.FZ p (E.ext J aB) (by omega) (H.ext aB)) ?_
   rintro x ae ⟨rfl,Ax,c0,m2,s2⟩
   have gC:=Bu s2 xq.lt a1
   have i2:=Bu s2 (B.ext aB).lt av
   have ah0:∀b,Ax b→X b∨h.next≤cd b:=fun b q=>by
    rcases s2 b q with q | q
    · exact .inl q
    · exact .inr (by omega)
   have cO:=ch.mod m2 tu
   have TB:=xq.mod m2 a1
   have eh:=(B.ext aB).mod m2 av
   have afA:Mod X h ae:=(aB.mod X).trans m2
   simp +contextual only [cO.g,ak,↓ah,ao,simprocAttr]
   refine fD (fun r g=>r 1=.ptr (aC su) 0∧r 2=.ptr (aC rP) 0∧r 12=cl∧r 13=.int .i64 p.l.length∧∃i:Nat,r 14=.int .i64 i∧i≤p.l.length∧Has g su [.func 4294967296 [.ptr nn 0]]∧Has g rP [.func 53 [.ptr (aC su) 0,.ptr (aC rP) 0]]∧
    ∃hq,I (d++[p]++hL (p.l.take i)) hq g∧Mod X h g∧(∀b,hq b→X b∨h.next≤cd b)∧¬hq (aC su)∧¬hq (aC rP)) (fun r g=>p.l.length - (r 14).toN) ?_ ?_
   · exact ⟨by simp only [↓ah,bA,simprocAttr],by simp only [↓ah,bA,simprocAttr],by simp only [↓ah,bA,simprocAttr],by simp only [↓ah,bA,simprocAttr],0,by simp only [↓ah,bA,simprocAttr]<;>rfl,by omega,TB,eh,Ax,by rw [List.take_zero,hL,List.append_nil];exact c0,afA,ah0,gC,i2⟩
   rintro r g ⟨bp,bT,I9,I',i,uc,akA,TD,Sq,hq,D5,Cm,Jx,J2,HW⟩
   unfold Lu
   have mO:=L.mod (dJ:=fun b=>cd b<jD) Cm fun b q _=>⟨fun z=>by have:=E.bm J b z;omega,q⟩
   by_cases aN:i<p.l.length
   · have g0:((i:Int) < (p.l.length:Int))=True:=eq_true (by omega)
     obtain ⟨b,off,wl,b_,Tz,gr,ld⟩:=aM.jV mO (k:=.i64) aN
     have qG:=ld g (Ext.refl g)
     have ej:=gr.one
     have dM:=ik aN (by unfold top at hle;omega)
     have b7:=mD (t:=p) (List.getElem_mem aN)
     obtain ⟨g1,d_,bo,Z⟩:=ja g [.int .i64 0,.int .i64 0,.int .i64 0,.str [],.bW] [.int .i64 p.l[i].k,.int .i64 p.l[i].n,.int .i64 p.l[i].a,.str p.l[i].s,wl]
     have zT:=Sq.ext bo
     have Ef:=TD.ext bo
     simp +contextual only [bp,bT,I9,I',uc,g0,b_,qG,d_,Z.g,zT.g,ej.1,ej.2.1,p5,List.cons_append,List.nil_append,show (53=4294967296)=False from by simp,if_false,↓ah,ao,simprocAttr]
     have akN:=Qt (l:=p.l) aN
     have akO:=CY p.l (i+1)
     refine bK (OA E N p.l[i] (by omega) _ hq _ g1 (by rw [List.length_append,List.length_append,List.length_singleton,CW];omega) J2 HW (Tz.ext bo) Ef zT (E.ext D5 bo)) ?_
     rintro x g2 ⟨rfl,Ay,c8,m3,ky⟩
     have qK:=bo.next
     have y_:=Cm.next
     have ah2:∀b,Ay b→X b∨h.next≤cd b:=fun b q=>by
      rcases ky b q with q | q
      · exact Jx b q
      · exact .inr (by omega)
     simp +contextual only [bp,bT,I9,I',uc,dM,↓ah,ao,simprocAttr]
     exact ⟨⟨i+1,rfl,aN,Ef.mod m3 J2,zT.mod m3 HW,Ay,by rw [take_one aN,I3,hL,hL,List.append_nil,←List.append_assoc];exact c8,afM Cm ((bo.mod hq).trans m3) Jx,ah2,Bu ky Ef.lt J2,Bu ky zT.lt HW⟩,by omega⟩
   · have g0:((i:Int) < (p.l.length:Int))=False:=eq_false (by omega)
     rw [List.take_of_length_le (by omega)] at D5
     simp +contextual only [bp,bT,I9,I',uc,g0,↓ah,ao,simprocAttr]
     exact ⟨hq,by rw [I2,←List.singleton_append,←List.append_assoc];exact D5,Cm,Jx⟩
set_option maxHeartbeats 1000000 in
theorem ajo {jD:Nat} {nn:aQ} {I:List aM→(aQ→Prop)→af→Prop} (E:DG jD nn I) {k9:Nat} (p:aM) (aj:p.size≤1000000000) (X:aQ→Prop) (ad:List V) (h:af) (H:bZ (fun b=>cd b<jD) h p.enc ad) (Sr:Has h k9 ad) (J:I [] X h):
 bB Tryz.prog 52 [.func 4294967296 [.ptr nn 0],.ptr (aC k9) 0] h fun x ab=>∃hq,I p.pre hq ab∧Mod X h ab∧∀b,hq b→X b∨h.next≤cd b:=by
 obtain ⟨cl,rfl,L,_⟩:=aM.open H
 refine WJ rfl (cR ?_)
 unfold Fe
 obtain ⟨aa,al,aB,xq⟩:=fo h [.func 4294967296 [.ptr nn 0]]
 obtain ⟨ae,aq,aO,eh⟩:=ja aa [.js] [.func 53 [.ptr (aC h.next) 0,.ptr (aC aa.next) 0]]
 have eX:=aB.trans aO
 have rm:=Sr.ext eX
 have dc:¬X (aC h.next):=fun q=>Cz (Nat.le_refl _) (E.b0 J _ q)
 have hJ:¬X (aC aa.next):=fun q=>Cz (Nat.le_refl _) (E.b0 (E.ext J aB) _ q)
 have ol:=L.one
 simp +contextual only [al,aq,eh.g,rm.g,ol.1,ol.2.1,p5,List.cons_append,List.nil_append,show (53=4294967296)=False from by simp,if_false,↓ah,ao,simprocAttr]
 refine bK (OA E p.size p (Nat.le_refl _) [] X _ ae (by simpa using aj) dc hJ (H.ext eX) (xq.ext aO) eh (E.ext J eX)) ?_
 rintro x aI ⟨rfl,Ay,c8,m3,ky⟩
 have tU:=eX.next
 simp +contextual only [↓ah,ao,simprocAttr]
 exact ⟨Ay,c8,(eX.mod X).trans m3,fun b q=>by
  rcases ky b q with q | q
  · exact .inl q
  · exact .inr (by omega)⟩
structure Ko (B cq j_ m:Nat) (l:mP) (d:List aM) (X:aQ→Prop) (h:af):Prop where
 ex:∃v,Has h cq [v]∧fi B h ((d.filter fun p=>decide (p.k=11)).map aM.s) v∧(∀b,X b↔b=aC cq∨b=aC m∨v.a7 b)
 bm:m<h.next
 l:h.get (aC m)=.dk l
 u7:j_<h.next
 d:h.get (aC j_)=.fb
 B:B≤h.next
theorem Jp (v:V) (r:aT):pA [7] [v] r 3=r 3:=by simp [pA,aT.t_,aT.set,ey]
theorem ahN (v:V) (r:aT):pA [7] [v] r 7=v:=by simp [pA,aT.t_,aT.set,ey]
set_option maxHeartbeats 4000000 in
theorem aao {jD B cq j_ m:Nat} {l:mP} {r:aT} (cS:jD≤cq) (s8:jD≤m) (dn:m≠cq) (GI:j_≠cq) (BG:j_≠m) (bR:cq<B) (cb:m<B) (hr:j_<B) (F:Al Tryz.prog l 17 r [7] EY EZ) (bb:l.st=0) (aj:l.ed=none) (aJ:r 3=.ptr (aC cq) 0):
 DG jD (aC m) (fun d X h=>Ko B cq j_ m l d X h) where
 ext:=fun {d X h ab} J e=>by
  obtain ⟨v,bM,a2,a3⟩:=J.ex
  exact ⟨⟨v,bM.ext e,a2.ext e,a3⟩,Nat.lt_of_lt_of_le J.bm e.next,(e.get _ (gz J.bm)).trans J.l,Nat.lt_of_lt_of_le J.u7 e.next,(e.get _ (gz J.u7)).trans J.d,Nat.le_trans J.B e.next⟩
 b0:=fun {d X h} J b ai=>by
  obtain ⟨v,bM,a2,a3⟩:=J.ex
  rcases (a3 b).1 ai with rfl | rfl | ai
  · exact gz bM.lt
  · exact gz J.bm
  · exact a2.1.v.b0 ai
 bm:=fun {d X h} J b ai=>by
  obtain ⟨v,bM,a2,a3⟩:=J.ex
  rcases (a3 b).1 ai with rfl | rfl | ai
  · rw [c6];exact cS
  · rw [c6];exact s8
  · have:=a2.1.base ai;omega
 FZ:=fun {d X h} p ad J aY H=>by
  obtain ⟨v,bM,a2,a3⟩:=J.ex
  obtain ⟨cl,rfl,L,hi⟩:=aM.open H
  have ol:=L.one
  refine ajP (by decide) follows cP F J.l bb rfl ?_
  obtain ⟨aa,al,aB,ch⟩:=ja h [.int .i64 0,.int .i64 0,.int .i64 0,.str [],.bW] [.int .i64 p.k,.int .i64 p.n,.int .i64 p.a,.str p.s,cl]
  have bE:aa.get (aC m)=.dk l:=(aB.get _ (gz J.bm)).trans J.l
  have bm:=J.bm
  have u7:=J.u7
  have aj3:=bM.lt
  have aku:=J.B
  refine cR ?_
  unfold EY
  simp +contextual only [Jp,ahN,al,ol.1,ol.2.1,↓ah,ao,simprocAttr]
  refine ⟨bE,cR ?_⟩
  have cO:=ch.set (m:=m) (by omega) (.dk (l.go 1 l.ed))
  have oO:=(bM.ext aB).set (m:=m) (fun q=>dn q.symm) (.dk (l.go 1 l.ed))
  have yF:∀k:Nat,k<B→¬v.a7 (aC k):=fun k aD q=>by have:=a2.1.base q;rw [c6] at this;omega
  have m1:Mod (fun b=>b=aC m) aa (aa.set (aC m) (.dk (l.go 1 l.ed))):=(Mod.refl (fun b=>b=aC m) aa).set (fun _=>rfl) _
  have KE:=(a2.ext aB).mod m1 fun b q z=>yF m cb (by rw [←show b=aC m from z];exact q)
  have akE:(aa.set (aC m) (.dk (l.go 1 l.ed))).next=aa.next:=rfl
  have mC:=aB.next
  have ee:l.go 0 none=l:=by obtain ⟨st,ed,_,_,_,_,_,_⟩:=l;simp only at bb aj;subst bb aj;rfl
  have M3:(aa.set (aC m) (.dk (l.go 1 l.ed))).get (aC m)=.dk (l.go 1 l.ed):=by rw [dG,if_pos rfl]
  have vm:(aa.set (aC m) (.dk (l.go 1 l.ed))).get (aC j_)=.fb:=by rw [dG,if_neg (fun q=>BG (g' q).symm)];exact (aB.get _ (gz J.u7)).trans J.d
  generalize aaA:aa.set (aC m) (.dk (l.go 1 l.ed))=ae at *
  have M2:Mod X h ae:=by rw [←aaA];exact (aB.mod X).set (fun _=>(a3 _).2 (.inr (.inl rfl))) _
  unfold EZ
  by_cases c:p.k=11
  · have hf:((d++[p]).filter fun p=>decide (p.k=11)).map aM.s=(d.filter fun p=>decide (p.k=11)).map aM.s++[p.s]:=by
     rw [List.filter_append,List.map_append];congr 1;rw [List.filter_cons,if_pos (decide_eq_true c)];rfl
    obtain ⟨cG,aI,b1,ma,cZ,fX,fM,j8,dB⟩:=KE.add (by omega) (by rw [List.length_map];have:=List.length_filter_le (fun p:aM=>decide (p.k=11)) d;unfold top;omega) hi
    have As:=oO.mod cZ (yF cq bR)
    have Oa:∀k:Nat,k<B→¬cG.a7 (aC k):=fun k aD q=>by have:=ma.1.base q;rw [c6] at this;omega
    have Z5:aI.get (aC m)=.dk (l.go 1 l.ed):=(cZ.get _ (gz (by omega)) (yF m cb)).trans M3
    have Z3:aI.get (aC j_)=.fb:=(cZ.get _ (gz (by omega)) (yF j_ hr)).trans vm
    simp +contextual only [aJ,Jp,cO.g,eq_true c,oO.g,b1,fM,j8,As.g,↓ah,ao,simprocAttr]
    refine ⟨by rw [if_neg (fun q=>dn q.symm)];exact Z5,fun b=>b=aC cq∨b=aC m∨cG.a7 b,⟨⟨cG,?_,?_,fun b=>Iff.rfl⟩,?_,?_,?_,?_,?_⟩,?_,?_⟩
    · exact (As.put _).set (fun q=>dn q.symm) _
    · rw [hf]
      refine (ma.mod ((Mod.refl (fun b=>b=aC cq) aI).set (fun _=>rfl) _) fun b q z=>Oa cq bR (by rw [←show b=aC cq from z];exact q)).mod ((Mod.refl (fun b=>b=aC m) _).set (fun _=>rfl) _) fun b q z=>Oa m cb (by rw [←show b=aC m from z];exact q)
    · show m<aI.next;omega
    · rw [dG,if_pos rfl,ee]
    · show j_<aI.next;omega
    · rw [dG,if_neg (fun q=>BG (g' q).symm),dG,if_neg (fun q=>GI (g' q).symm)];exact Z3
    · show B≤aI.next;omega
    · exact ((M2.trans (cZ.mono fun b _ q=>(a3 b).2 (.inr (.inr q)))).set (fun _=>(a3 _).2 (.inl rfl)) _).set (fun _=>(a3 _).2 (.inr (.inl rfl))) _
    · intro b q
      rcases q with q | q | q
      · exact .inl ((a3 b).2 (.inl q))
      · exact .inl ((a3 b).2 (.inr (.inl q)))
      · by_cases z:v.a7 b
        · exact .inl ((a3 b).2 (.inr (.inr z)))
        · rcases dB b q with z2 | z2
          · exact absurd z2 z
          · exact .inr (by omega)
  · have hf:((d++[p]).filter fun p=>decide (p.k=11)).map aM.s=(d.filter fun p=>decide (p.k=11)).map aM.s:=by
     rw [List.filter_append,List.map_append,List.filter_cons,if_neg (by simpa using c)];simp
    simp +contextual only [aJ,Jp,cO.g,eq_false c,oO.g,↓ah,ao,simprocAttr]
    refine ⟨M3,X,⟨⟨v,oO.set (fun q=>dn q.symm) _,?_,a3⟩,?_,?_,?_,?_,?_⟩,?_,fun b q=>.inl q⟩
    · rw [hf]
      exact KE.mod ((Mod.refl (fun b=>b=aC m) _).set (fun _=>rfl) _) fun b q z=>yF m cb (by rw [←show b=aC m from z];exact q)
    · show m<ae.next;omega
    · rw [dG,if_pos rfl,ee]
    · show j_<ae.next;omega
    · rw [dG,if_neg (fun q=>BG (g' q).symm)];exact vm
    · show B≤ae.next;omega
    · exact M2.set (fun _=>(a3 _).2 (.inr (.inl rfl))) _
set_option maxHeartbeats 4000000 in
theorem Co (p:aM) (aR:p.size≤1000000000) (ad:List V) (h:af) (H:bZ Any h p.enc ad):bB Tryz.prog 25 [.agg ad] h fun x ab=>fi h.next ab p.names x∧Ext h ab:=by
 have hE:=H.zd
 have aU:=H.eg
 obtain ⟨cl,cT,L,_⟩:=aM.open H
 have v7:ad.length≤top:=by rw [cT];simp [top]
 have cf:ad.length=5:=by rw [cT];rfl
 have acj:(ad.length≤17179869184)=True:=eq_true v7
 refine VI rfl (cR ?_)
 unfold EX
 obtain ⟨aa,al,aB,ch⟩:=fo h ad
 obtain ⟨ae,aq,aO,Ar⟩:=fo aa [.bW]
 have cO:=ch.ext aO
 have g5:mx 5 (b3.bh ad 0 false) 0=some (.agg ad):=by rw [Ic,if_pos (by omega),List.drop_zero,List.take_of_length_le (by omega)]
 simp +contextual only [al,aq,aU,acj,cO.g,g5,↓ah,ao,simprocAttr]
 refine bK (ajn ad ae aU v7) ?_
 rintro x aI ⟨n,rfl,xm,cc⟩
 simp +contextual only [↓ah,ao,simprocAttr]
 refine aht (g:=52) (cs:=[.ptr (aC n) 0]) (by simp only [↓ah,bA,simprocAttr]) (by decide) ⟨_,Tryz.func52,by kernel_rfl⟩ ?_
 intro l F bb aj
 have Y1:Ext h aI:=aB.trans (aO.trans cc)
 have h8:Ext aI ((aI.new .fb).new (.dk l)):=((Ext.refl aI).new _).new _
 have Mf:=Y1.trans h8
 have fC:=aB.next
 have ig:=aO.next
 have Cb:=cc.next
 have ie:=Ar.lt
 have D9:Has ((aI.new .fb).new (.dk l)) aa.next [.bW]:=(Ar.ext cc).ext h8
 have E:=aao (jD:=h.next) (B:=aI.next+2) (cq:=aa.next) (j_:=aI.next) (m:=aI.next+1) (by omega) (by omega) (by omega) (by omega) (by omega) (by omega) (by omega) (by omega) F bb aj (by simp only [↓ah,bA,simprocAttr])
 have ag:Ko (aI.next+2) aa.next aI.next (aI.next+1) l [] (fun b=>b=aC aa.next∨b=aC (aI.next+1)) ((aI.new .fb).new (.dk l)):=by
  refine ⟨⟨.bW,D9,fi.nil _ _,fun b=>?_⟩,by rw [gx,gx];omega,na _,by rw [gx,gx];omega,?_,by rw [gx,gx];omega⟩
  · simp [V.a7]
  · rw [ht,if_neg (fun q=>by have:=g' q;rw [gx] at this;omega),na]
 refine (ajo E p aR _ ad _ (hE.ext Mf) (xm.ext h8) ag).mono ?_
 rintro x cf ⟨ajZ,dm,m5,alh⟩
 obtain ⟨v5,a5,rq,alB⟩:=dm.ex
 refine ⟨l,dm.l,by rw [bb];decide,?_⟩
 rw [aj]
 have NV:∀k:Nat,k<aI.next+2→¬v5.a7 (aC k):=fun k aD q=>by have:=rq.1.base q;rw [c6] at this;omega
 have S8:=a5.set (m:=aI.next+1) (by omega) .dead
 have md:aS.Mod (fun b=>b=aC (aI.next+1)) cf (cf.set (aC (aI.next+1)) .dead):=(Mod.refl (fun b=>b=aC (aI.next+1)) cf).set (fun _=>rfl) _
 have KG:=rq.mod md fun b q z=>NV (aI.next+1) (by omega) (by rw [←show b=aC (aI.next+1) from z];exact q)
 have vm:(cf.set (aC (aI.next+1)) .dead).get (aC aI.next)=.fb:=by rw [dG,if_neg (fun q=>by have:=g' q;omega)];exact dm.d
 have tV:=rq.1.v.one
 have Y5:Ext h (cf.set (aC (aI.next+1)) .dead):=by
  refine (Mf.h0 m5 fun b ai=>?_).set (by omega) _
  rcases ai with rfl | rfl
  · rw [c6];omega
  · rw [c6];omega
 simp +contextual only [Option.getD_none,S8.g,ey,V.list,aT.bh,rY,vm,tV.1,tV.2.1,↓ah,ao,simprocAttr]
 refine ⟨⟨(KG.mod ((Mod.refl (fun b=>b=aC aI.next) _).set (fun _=>rfl) _) fun b q z=>NV aI.next (by omega) (by rw [←show b=aC aI.next from z];exact q)).1.mono (by omega),KG.2⟩,Y5.set (by omega) _⟩
theorem e' {k n:Int} {l:List aM} {gs:List Int} {p q:Prop} [Decidable p] [Decidable q] (h:da k n l=(gs,decide p)) (e:p↔q):da k n l=(gs,decide q):=h.trans (by rw [decide_eq_decide.2 e])
set_option maxHeartbeats 4000000 in
theorem aam (t:aM) (aD:eu t.k≠0) (aX:hC t.k t.n t.l.length=true) (gR:t.l.length≤1000000000) (ad:List V) (h:af) (H:bZ Any h t.enc ad):
 bB Tryz.prog 51 [.agg ad] h fun x ab=>∃v,x=.tuple [v,.bool (da t.k t.n t.l).2]∧bI Any ab 1 ((da t.k t.n t.l).1.map aS.encI) v∧Ext h ab:=by
 obtain ⟨cl,rfl,L,aR⟩:=aM.open H
 have ol:=L.one
 have ak:=L.len
 rw [List.length_map] at ak
 obtain ⟨k,n,a,s,l⟩:=t
 simp only [aM.k,aM.n,aM.a,aM.s,aM.l] at *
 refine WG rfl (cR ?_)
 unfold c51
 obtain ⟨aa,al,aB,ch⟩:=fo h [.int .i64 k,.int .i64 n,.int .i64 a,.str s,cl]
 have g1:=ch.g
 have sC:=L.ext aB
 clear L H
 rcases Ca aD with rfl | rfl | rfl | rfl | rfl | rfl | rfl | rfl | rfl | rfl | rfl | rfl | rfl | rfl | rfl | rfl | rfl | rfl | rfl | rfl | rfl | rfl | rfl | rfl | rfl | rfl | rfl | rfl | rfl | rfl | rfl | rfl | rfl | rfl | rfl | rfl | rfl | rfl
 · rw [e' (q:=(l.length:Int)=0) (show da 1 n l=([],decide (l.length=0)) from rfl) ⟨fun q=>by omega,fun q=>by omega⟩]
   simp +contextual only [ol.1,ol.2.1,al,g1,ak,↓ah,ao,simprocAttr]
   exact ⟨_,rfl,bI.nil _ _ _,aB⟩
 · rw [e' (q:=(l.length:Int)≤64) (show da 2 n l=(List.replicate (l.length:Int).toNat 1,decide (l.length≤64)) from rfl) ⟨fun q=>by omega,fun q=>by omega⟩]
   simp +contextual only [ol.1,ol.2.1,al,g1,ak,↓ah,ao,simprocAttr]
   refine bK (hk 1 (l.length:Int) (by omega) aa) ?_
   rintro y ae ⟨Y,aO⟩
   simp +contextual only [↓ah,ao,simprocAttr]
   exact ⟨_,rfl,Y.fO (by rw [List.length_replicate];unfold top;omega),aB.trans aO⟩
 · rw [e' (q:=(l.length:Int)=2) (show da 3 n l=(List.replicate (2:Int).toNat 1,decide (l.length=2)) from rfl) ⟨fun q=>by omega,fun q=>by omega⟩]
   simp +contextual only [ol.1,ol.2.1,al,g1,ak,↓ah,ao,simprocAttr]
   refine bK (hk 1 (2:Int) (by omega) aa) ?_
   rintro y ae ⟨Y,aO⟩
   simp +contextual only [↓ah,ao,simprocAttr]
   exact ⟨_,rfl,Y.fO (by rw [List.length_replicate];unfold top;omega),aB.trans aO⟩
 · rw [e' (q:=(l.length:Int)=2) (show da 4 n l=(List.replicate (2:Int).toNat 1,decide (l.length=2)) from rfl) ⟨fun q=>by omega,fun q=>by omega⟩]
   simp +contextual only [ol.1,ol.2.1,al,g1,ak,↓ah,ao,simprocAttr]
   refine bK (hk 1 (2:Int) (by omega) aa) ?_
   rintro y ae ⟨Y,aO⟩
   simp +contextual only [↓ah,ao,simprocAttr]
   exact ⟨_,rfl,Y.fO (by rw [List.length_replicate];unfold top;omega),aB.trans aO⟩
 · rw [e' (q:=(l.length:Int)=0) (show da 10 n l=([],decide (l.length=0)) from rfl) ⟨fun q=>by omega,fun q=>by omega⟩]
   simp +contextual only [ol.1,ol.2.1,al,g1,ak,↓ah,ao,simprocAttr]
   exact ⟨_,rfl,bI.nil _ _ _,aB⟩
 · rw [e' (q:=(l.length:Int)=0) (show da 13 n l=([],decide (l.length=0)) from rfl) ⟨fun q=>by omega,fun q=>by omega⟩]
   simp +contextual only [ol.1,ol.2.1,al,g1,ak,↓ah,ao,simprocAttr]
   exact ⟨_,rfl,bI.nil _ _ _,aB⟩
 · rw [e' (q:=(l.length:Int)=0) (show da 11 n l=([],decide (l.length=0)) from rfl) ⟨fun q=>by omega,fun q=>by omega⟩]
   simp +contextual only [ol.1,ol.2.1,al,g1,ak,↓ah,ao,simprocAttr]
   exact ⟨_,rfl,bI.nil _ _ _,aB⟩
 · rw [e' (q:=(l.length:Int)=0) (show da 12 n l=([],decide (l.length=0)) from rfl) ⟨fun q=>by omega,fun q=>by omega⟩]
   simp +contextual only [ol.1,ol.2.1,al,g1,ak,↓ah,ao,simprocAttr]
   exact ⟨_,rfl,bI.nil _ _ _,aB⟩
 · rw [e' (q:=(l.length:Int)=0) (show da 14 n l=([],decide (l.length=0)) from rfl) ⟨fun q=>by omega,fun q=>by omega⟩]
   simp +contextual only [ol.1,ol.2.1,al,g1,ak,↓ah,ao,simprocAttr]
   exact ⟨_,rfl,bI.nil _ _ _,aB⟩
 · rw [e' (q:=(l.length:Int)=2) (show da 15 n l=(List.replicate (2:Int).toNat 2,decide (l.length=2)) from rfl) ⟨fun q=>by omega,fun q=>by omega⟩]
   simp +contextual only [ol.1,ol.2.1,al,g1,ak,↓ah,ao,simprocAttr]
   refine bK (hk 2 (2:Int) (by omega) aa) ?_
   rintro y ae ⟨Y,aO⟩
   simp +contextual only [↓ah,ao,simprocAttr]
   exact ⟨_,rfl,Y.fO (by rw [List.length_replicate];unfold top;omega),aB.trans aO⟩
 · rw [e' (q:=(l.length:Int)≤1) (show da 16 n l=(List.replicate (l.length:Int).toNat 2,decide (l.length≤1)) from rfl) ⟨fun q=>by omega,fun q=>by omega⟩]
   simp +contextual only [ol.1,ol.2.1,al,g1,ak,↓ah,ao,simprocAttr]
   refine bK (hk 2 (l.length:Int) (by omega) aa) ?_
   rintro y ae ⟨Y,aO⟩
   simp +contextual only [↓ah,ao,simprocAttr]
   exact ⟨_,rfl,Y.fO (by rw [List.length_replicate];unfold top;omega),aB.trans aO⟩
 · rw [e' (q:=(l.length:Int)=0) (show da 20 n l=([],decide (l.length=0)) from rfl) ⟨fun q=>by omega,fun q=>by omega⟩]
   simp +contextual only [ol.1,ol.2.1,al,g1,ak,↓ah,ao,simprocAttr]
   exact ⟨_,rfl,bI.nil _ _ _,aB⟩
 · rw [e' (q:=(l.length:Int)=0) (show da 21 n l=([],decide (l.length=0)) from rfl) ⟨fun q=>by omega,fun q=>by omega⟩]
   simp +contextual only [ol.1,ol.2.1,al,g1,ak,↓ah,ao,simprocAttr]
   exact ⟨_,rfl,bI.nil _ _ _,aB⟩
 · rw [e' (q:=(l.length:Int)=0) (show da 22 n l=([],decide (l.length=0)) from rfl) ⟨fun q=>by omega,fun q=>by omega⟩]
   simp +contextual only [ol.1,ol.2.1,al,g1,ak,↓ah,ao,simprocAttr]
   exact ⟨_,rfl,bI.nil _ _ _,aB⟩
 · rw [e' (q:=(l.length:Int)=0) (show da 23 n l=([],decide (l.length=0)) from rfl) ⟨fun q=>by omega,fun q=>by omega⟩]
   simp +contextual only [ol.1,ol.2.1,al,g1,ak,↓ah,ao,simprocAttr]
   exact ⟨_,rfl,bI.nil _ _ _,aB⟩
 · rw [e' (q:=(l.length:Int)=0) (show da 24 n l=([],decide (l.length=0)) from rfl) ⟨fun q=>by omega,fun q=>by omega⟩]
   simp +contextual only [ol.1,ol.2.1,al,g1,ak,↓ah,ao,simprocAttr]
   exact ⟨_,rfl,bI.nil _ _ _,aB⟩
 · rw [e' (q:=(l.length:Int)≤1) (show da 25 n l=(List.replicate (l.length:Int).toNat 3,decide (l.length≤1)) from rfl) ⟨fun q=>by omega,fun q=>by omega⟩]
   simp +contextual only [ol.1,ol.2.1,al,g1,ak,↓ah,ao,simprocAttr]
   refine bK (hk 3 (l.length:Int) (by omega) aa) ?_
   rintro y ae ⟨Y,aO⟩
   simp +contextual only [↓ah,ao,simprocAttr]
   exact ⟨_,rfl,Y.fO (by rw [List.length_replicate];unfold top;omega),aB.trans aO⟩
 · rw [e' (q:=(l.length:Int)=2) (show da 26 n l=(List.replicate (2:Int).toNat 3,decide (l.length=2)) from rfl) ⟨fun q=>by omega,fun q=>by omega⟩]
   simp +contextual only [ol.1,ol.2.1,al,g1,ak,↓ah,ao,simprocAttr]
   refine bK (hk 3 (2:Int) (by omega) aa) ?_
   rintro y ae ⟨Y,aO⟩
   simp +contextual only [↓ah,ao,simprocAttr]
   exact ⟨_,rfl,Y.fO (by rw [List.length_replicate];unfold top;omega),aB.trans aO⟩
 · rw [e' (q:=(l.length:Int)=2) (show da 28 n l=(List.replicate (2:Int).toNat 3,decide (l.length=2)) from rfl) ⟨fun q=>by omega,fun q=>by omega⟩]
   simp +contextual only [ol.1,ol.2.1,al,g1,ak,↓ah,ao,simprocAttr]
   refine bK (hk 3 (2:Int) (by omega) aa) ?_
   rintro y ae ⟨Y,aO⟩
   simp +contextual only [↓ah,ao,simprocAttr]
   exact ⟨_,rfl,Y.fO (by rw [List.length_replicate];unfold top;omega),aB.trans aO⟩
 · rw [e' (q:=(l.length:Int)=2) (show da 35 n l=(List.replicate (2:Int).toNat 3,decide (l.length=2)) from rfl) ⟨fun q=>by omega,fun q=>by omega⟩]
   simp +contextual only [ol.1,ol.2.1,al,g1,ak,↓ah,ao,simprocAttr]
   refine bK (hk 3 (2:Int) (by omega) aa) ?_
   rintro y ae ⟨Y,aO⟩
   simp +contextual only [↓ah,ao,simprocAttr]
   exact ⟨_,rfl,Y.fO (by rw [List.length_replicate];unfold top;omega),aB.trans aO⟩
 · rw [e' (q:=(l.length:Int)=2) (show da 37 n l=(List.replicate (2:Int).toNat 3,decide (l.length=2)) from rfl) ⟨fun q=>by omega,fun q=>by omega⟩]
   simp +contextual only [ol.1,ol.2.1,al,g1,ak,↓ah,ao,simprocAttr]
   refine bK (hk 3 (2:Int) (by omega) aa) ?_
   rintro y ae ⟨Y,aO⟩
   simp +contextual only [↓ah,ao,simprocAttr]
   exact ⟨_,rfl,Y.fO (by rw [List.length_replicate];unfold top;omega),aB.trans aO⟩
 · rw [e' (q:=(l.length:Int)=2) (show da 38 n l=(List.replicate (2:Int).toNat 3,decide (l.length=2)) from rfl) ⟨fun q=>by omega,fun q=>by omega⟩]
   simp +contextual only [ol.1,ol.2.1,al,g1,ak,↓ah,ao,simprocAttr]
   refine bK (hk 3 (2:Int) (by omega) aa) ?_
   rintro y ae ⟨Y,aO⟩
   simp +contextual only [↓ah,ao,simprocAttr]
   exact ⟨_,rfl,Y.fO (by rw [List.length_replicate];unfold top;omega),aB.trans aO⟩
 · rw [e' (q:=(l.length:Int)=1) (show da 34 n l=(List.replicate (1:Int).toNat 3,decide (l.length=1)) from rfl) ⟨fun q=>by omega,fun q=>by omega⟩]
   simp +contextual only [ol.1,ol.2.1,al,g1,ak,↓ah,ao,simprocAttr]
   refine bK (hk 3 (1:Int) (by omega) aa) ?_
   rintro y ae ⟨Y,aO⟩
   simp +contextual only [↓ah,ao,simprocAttr]
   exact ⟨_,rfl,Y.fO (by rw [List.length_replicate];unfold top;omega),aB.trans aO⟩
 · rw [e' (q:=(l.length:Int)=1) (show da 36 n l=(List.replicate (1:Int).toNat 3,decide (l.length=1)) from rfl) ⟨fun q=>by omega,fun q=>by omega⟩]
   simp +contextual only [ol.1,ol.2.1,al,g1,ak,↓ah,ao,simprocAttr]
   refine bK (hk 3 (1:Int) (by omega) aa) ?_
   rintro y ae ⟨Y,aO⟩
   simp +contextual only [↓ah,ao,simprocAttr]
   exact ⟨_,rfl,Y.fO (by rw [List.length_replicate];unfold top;omega),aB.trans aO⟩
 · rw [e' (q:=(l.length:Int)=1) (show da 39 n l=(List.replicate (1:Int).toNat 3,decide (l.length=1)) from rfl) ⟨fun q=>by omega,fun q=>by omega⟩]
   simp +contextual only [ol.1,ol.2.1,al,g1,ak,↓ah,ao,simprocAttr]
   refine bK (hk 3 (1:Int) (by omega) aa) ?_
   rintro y ae ⟨Y,aO⟩
   simp +contextual only [↓ah,ao,simprocAttr]
   exact ⟨_,rfl,Y.fO (by rw [List.length_replicate];unfold top;omega),aB.trans aO⟩
 · rw [e' (q:=(l.length:Int)=3) (show da 31 n l=(List.replicate (3:Int).toNat 3,decide (l.length=3)) from rfl) ⟨fun q=>by omega,fun q=>by omega⟩]
   simp +contextual only [ol.1,ol.2.1,al,g1,ak,↓ah,ao,simprocAttr]
   refine bK (hk 3 (3:Int) (by omega) aa) ?_
   rintro y ae ⟨Y,aO⟩
   simp +contextual only [↓ah,ao,simprocAttr]
   exact ⟨_,rfl,Y.fO (by rw [List.length_replicate];unfold top;omega),aB.trans aO⟩
 · rw [e' (q:=(l.length:Int)=2) (show da 27 n l=([2,3],decide (l.length=2)) from rfl) ⟨fun q=>by omega,fun q=>by omega⟩]
   obtain ⟨ae,aq,aO,Y⟩:=ns aa 1 2 [.int .i64 2,.int .i64 3] rfl (by unfold top;omega)
   simp +contextual only [ol.1,ol.2.1,al,aq,g1,ak,↓ah,ao,simprocAttr]
   exact ⟨_,rfl,dx.fO (l:=[2,3]) Y (by simp [top]),aB.trans aO⟩
 · rw [e' (q:=(l.length:Int)=3) (show da 29 n l=([2,3,3],decide (l.length=3)) from rfl) ⟨fun q=>by omega,fun q=>by omega⟩]
   obtain ⟨ae,aq,aO,Y⟩:=ns aa 1 3 [.int .i64 2,.int .i64 3,.int .i64 3] rfl (by unfold top;omega)
   simp +contextual only [ol.1,ol.2.1,al,aq,g1,ak,↓ah,ao,simprocAttr]
   exact ⟨_,rfl,dx.fO (l:=[2,3,3]) Y (by simp [top]),aB.trans aO⟩
 · rw [e' (q:=(l.length:Int)≥2) (show da 30 n l=(List.replicate (l.length-1) (5:Int)++[3],decide (2≤l.length)) from rfl) ⟨fun q=>by omega,fun q=>by omega⟩]
   have bU:IntKind.i64.wrap ((l.length:Int)-1)=(l.length:Int)-1:=wrap_i64 (by omega) (by omega)
   simp +contextual only [ol.1,ol.2.1,al,g1,ak,bU,↓ah,ao,simprocAttr]
   refine bK (hk 5 ((l.length:Int)-1) (by omega) aa) ?_
   rintro y ae ⟨Y,aO⟩
   rw [show ((l.length:Int)-1).toNat=l.length-1 from by omega] at Y
   obtain ⟨ar,aI,aq,aK,bG,di,e0⟩:=sI (cs:=[.int .i64 3]) (by omega) Y aO.next (by rw [List.length_replicate];unfold top;omega) rfl rfl
   simp +contextual only [aq,↓ah,ao,simprocAttr]
   have Z:dx aa.next aI 1 ar (List.replicate (l.length-1) (5:Int)++[3]).length (kn (List.replicate (l.length-1) (5:Int)++[3])):=by
    rw [List.length_append,H3];exact aK
   exact ⟨_,rfl,Z.fO (by rw [List.length_append,List.length_replicate];simp only [List.length_singleton];unfold top;omega),(aB.trans aO).h0 bG fun b ai=>Nat.le_trans aB.next (Y.base ai)⟩
 · rw [e' (q:=(l.length:Int)≥2) (show da 32 n l=(3::List.replicate (l.length-1) (4:Int),decide (2≤l.length)) from rfl) ⟨fun q=>by omega,fun q=>by omega⟩]
   have bU:IntKind.i64.wrap ((l.length:Int)-1)=(l.length:Int)-1:=wrap_i64 (by omega) (by omega)
   obtain ⟨ae,aq,aO,Y⟩:=ns aa 1 1 [.int .i64 3] rfl (by unfold top;omega)
   simp +contextual only [ol.1,ol.2.1,al,aq,g1,ak,bU,↓ah,ao,simprocAttr]
   refine bK (hk 4 ((l.length:Int)-1) (by omega) ae) ?_
   rintro y aI ⟨Z,cc⟩
   rw [show ((l.length:Int)-1).toNat=l.length-1 from by omega] at Z
   obtain ⟨ar,bu,cg,cZ,fX,iV⟩:=xv (by omega) (Y.ext cc) Z.v (Nat.le_trans aO.next cc.next) (by rw [List.length_replicate];unfold top;omega) (CH _)
   simp +contextual only [cg,↓ah,ao,simprocAttr]
   have W:dx aa.next bu 1 ar (3::List.replicate (l.length-1) (4:Int)).length (kn (3::List.replicate (l.length-1) (4:Int))):=by
    rw [List.length_cons,Nat.add_comm];exact cZ
   exact ⟨_,rfl,W.fO (by rw [List.length_cons,List.length_replicate];unfold top;omega),((aB.trans aO).trans cc).h0 fX fun b ai=>Nat.le_trans aB.next (Y.base ai)⟩
 · rw [e' (q:=(l.length:Int)≥2) (show da 33 n l=(3::List.replicate (l.length-1) (4:Int),decide (2≤l.length)) from rfl) ⟨fun q=>by omega,fun q=>by omega⟩]
   have bU:IntKind.i64.wrap ((l.length:Int)-1)=(l.length:Int)-1:=wrap_i64 (by omega) (by omega)
   obtain ⟨ae,aq,aO,Y⟩:=ns aa 1 1 [.int .i64 3] rfl (by unfold top;omega)
   simp +contextual only [ol.1,ol.2.1,al,aq,g1,ak,bU,↓ah,ao,simprocAttr]
   refine bK (hk 4 ((l.length:Int)-1) (by omega) ae) ?_
   rintro y aI ⟨Z,cc⟩
   rw [show ((l.length:Int)-1).toNat=l.length-1 from by omega] at Z
   obtain ⟨ar,bu,cg,cZ,fX,iV⟩:=xv (by omega) (Y.ext cc) Z.v (Nat.le_trans aO.next cc.next) (by rw [List.length_replicate];unfold top;omega) (CH _)
   simp +contextual only [cg,↓ah,ao,simprocAttr]
   have W:dx aa.next bu 1 ar (3::List.replicate (l.length-1) (4:Int)).length (kn (3::List.replicate (l.length-1) (4:Int))):=by
    rw [List.length_cons,Nat.add_comm];exact cZ
   exact ⟨_,rfl,W.fO (by rw [List.length_cons,List.length_replicate];unfold top;omega),((aB.trans aO).trans cc).h0 fX fun b ai=>Nat.le_trans aB.next (Y.base ai)⟩
 · rw [e' (q:=(l.length:Int)=2) (show da 45 n l=([2,3],decide (l.length=2)) from rfl) ⟨fun q=>by omega,fun q=>by omega⟩]
   obtain ⟨ae,aq,aO,Y⟩:=ns aa 1 2 [.int .i64 2,.int .i64 3] rfl (by unfold top;omega)
   simp +contextual only [ol.1,ol.2.1,al,aq,g1,ak,↓ah,ao,simprocAttr]
   exact ⟨_,rfl,dx.fO (l:=[2,3]) Y (by simp [top]),aB.trans aO⟩
 · by_cases x0:l.length=1
   · obtain ⟨u,rfl⟩:∃u,l=[u]:=by
      match l,x0 with
      | [u],_=>exact ⟨u,rfl⟩
     rw [show da 46 n [u]=(List.replicate (1:Int).toNat 3,decide (u.k=27)) from by simp [da,Gg]]
     obtain ⟨b,off,wl,b_,X,gr,ld,qG,_,_⟩:=aM.we sC (k:=.i64) (i:=0) (by simp)
     have On:hY 5 cl (.int .i64 0)=some (.ptr b off):=by simpa using b_
     have d0:∀ab,Ext aa ab→hj (ab.get b) off=some (.int .i64 u.k):=fun ab e=>by simpa using qG ab e
     have d1:=d0 aa (Ext.refl _)
     simp +contextual only [ol.1,ol.2.1,al,g1,ak,On,d1,List.length_cons,List.length_nil,↓ah,ao,simprocAttr]
     refine bK (hk 3 1 (by omega) aa) ?_
     rintro y ae ⟨Y,aO⟩
     have d2:=d0 ae aO
     have g2:=(ch.ext aO).g
     simp +contextual only [g1,g2,On,d1,d2,↓ah,ao,simprocAttr]
     exact ⟨_,rfl,Y.fO (by simp [top]),aB.trans aO⟩
   · rw [show da 46 n l=(List.replicate (1:Int).toNat 3,false) from by simp [da,x0]]
     have f1:((l.length:Int)=1)=False:=eq_false (by omega)
     simp +contextual only [ol.1,ol.2.1,al,g1,ak,f1,↓ah,ao,simprocAttr]
     refine bK (hk 3 1 (by omega) aa) ?_
     rintro y ae ⟨Y,aO⟩
     have g2:=(ch.ext aO).g
     simp +contextual only [g1,g2,f1,↓ah,ao,simprocAttr]
     exact ⟨_,rfl,Y.fO (by simp [top]),aB.trans aO⟩
 · rw [e' (q:=(l.length:Int)≤1) (show da 47 n l=(List.replicate (l.length:Int).toNat 1,decide (l.length≤1)) from rfl) ⟨fun q=>by omega,fun q=>by omega⟩]
   simp +contextual only [ol.1,ol.2.1,al,g1,ak,↓ah,ao,simprocAttr]
   refine bK (hk 1 (l.length:Int) (by omega) aa) ?_
   rintro y ae ⟨Y,aO⟩
   simp +contextual only [↓ah,ao,simprocAttr]
   exact ⟨_,rfl,Y.fO (by rw [List.length_replicate];unfold top;omega),aB.trans aO⟩
 · rw [e' (q:=(l.length:Int)≤1) (show da 51 n l=(List.replicate (l.length:Int).toNat 1,decide (l.length≤1)) from rfl) ⟨fun q=>by omega,fun q=>by omega⟩]
   simp +contextual only [ol.1,ol.2.1,al,g1,ak,↓ah,ao,simprocAttr]
   refine bK (hk 1 (l.length:Int) (by omega) aa) ?_
   rintro y ae ⟨Y,aO⟩
   simp +contextual only [↓ah,ao,simprocAttr]
   exact ⟨_,rfl,Y.fO (by rw [List.length_replicate];unfold top;omega),aB.trans aO⟩
 · rw [e' (q:=(l.length:Int)=2) (show da 52 n l=([2,3],decide (l.length=2)) from rfl) ⟨fun q=>by omega,fun q=>by omega⟩]
   obtain ⟨ae,aq,aO,Y⟩:=ns aa 1 2 [.int .i64 2,.int .i64 3] rfl (by unfold top;omega)
   simp +contextual only [ol.1,ol.2.1,al,aq,g1,ak,↓ah,ao,simprocAttr]
   exact ⟨_,rfl,dx.fO (l:=[2,3]) Y (by simp [top]),aB.trans aO⟩
 · rw [e' (q:=(l.length:Int)≥1) (show da 53 n l=(List.replicate (l.length:Int).toNat 5,decide (1≤l.length)) from rfl) ⟨fun q=>by omega,fun q=>by omega⟩]
   simp +contextual only [ol.1,ol.2.1,al,g1,ak,↓ah,ao,simprocAttr]
   refine bK (hk 5 (l.length:Int) (by omega) aa) ?_
   rintro y ae ⟨Y,aO⟩
   simp +contextual only [↓ah,ao,simprocAttr]
   exact ⟨_,rfl,Y.fO (by rw [List.length_replicate];unfold top;omega),aB.trans aO⟩
 · have ym:0≤n∧n≤64∧n<l.length:=by simpa [hC,and_assoc] using aX
   obtain ⟨dc,hJ,n3⟩:=ym
   rw [show da 50 n l=(List.replicate n.toNat (8:Int)++List.replicate (l.length-n.toNat) (6:Int),true) from rfl]
   have bU:IntKind.i64.wrap ((l.length:Int)-n)=(l.length:Int)-n:=wrap_i64 (by omega) (by omega)
   simp +contextual only [ol.1,ol.2.1,al,g1,ak,bU,↓ah,ao,simprocAttr]
   refine bK (hk 8 n (by omega) aa) ?_
   rintro y ae ⟨Y,aO⟩
   have g2:=(ch.ext aO).g
   simp +contextual only [g1,g2,ak,bU,↓ah,ao,simprocAttr]
   refine bK (hk 6 ((l.length:Int)-n) (by omega) ae) ?_
   rintro z aI ⟨Z,cc⟩
   have g3:=((ch.ext aO).ext cc).g
   rw [show ((l.length:Int)-n).toNat=l.length-n.toNat from by omega] at Z
   obtain ⟨ar,bu,cg,cZ,fX,iV⟩:=xv (by omega) (Y.ext cc) Z.v (Nat.le_trans aO.next cc.next) (by rw [List.length_replicate,List.length_replicate];unfold top;omega) (CH _)
   simp +contextual only [cg,g1,g2,g3,ak,bU,↓ah,ao,simprocAttr]
   have W:dx aa.next bu 1 ar (List.replicate n.toNat (8:Int)++List.replicate (l.length-n.toNat) (6:Int)).length (kn (List.replicate n.toNat (8:Int)++List.replicate (l.length-n.toNat) (6:Int))):=by
    rw [List.length_append,H3];exact cZ
   exact ⟨_,rfl,W.fO (by rw [List.length_append,List.length_replicate,List.length_replicate];unfold top;omega),((aB.trans aO).trans cc).h0 fX fun b ai=>Nat.le_trans aB.next (Y.base ai)⟩
theorem ahF {k n:Int} {l:List aM} (aD:eu k≠0) (aX:hC k n l.length=true) (h:(da k n l).2=true):(da k n l).1.length=l.length:=by
 rcases Ca aD with rfl | rfl | rfl | rfl | rfl | rfl | rfl | rfl | rfl | rfl | rfl | rfl | rfl | rfl | rfl | rfl | rfl | rfl | rfl | rfl | rfl | rfl | rfl | rfl | rfl | rfl | rfl | rfl | rfl | rfl | rfl | rfl | rfl | rfl | rfl | rfl | rfl | rfl<;>
 simp [da,hC] at h aX ⊢<;>first | omega | simp_all
theorem ahL (t:aM):t.la dr=(decide (eu t.k≠0)&&uh dr t.k t.s&&hC t.k t.n t.l.length&&decide (0≤t.a)&&decide (t.a≤65536)&&(da t.k t.n t.l).2&&l2 dr (da t.k t.n t.l).1 t.l):=by
 cases t;rw [aM.la];rfl
set_option maxHeartbeats 4000000 in
theorem Jn:∀(N:Nat) (t:aM),t.size≤N→N≤1000000000→∀(ad:List V) (h:af),bZ Any h t.enc ad→bB Tryz.prog 39 [.agg ad] h fun x ab=>x=.bool (t.la dr)∧Ext h ab
 | 0,t,aR,_,_,_,_=>by have:=mE t;omega
 | N+1,t,aR,vv,ad,h,H=>by
   have hE:=H
   obtain ⟨cl,rfl,L,_⟩:=aM.open H
   have bD:N≤1000000000:=by omega
   have ol:=L.one
   have ak:=L.len
   have hle:=L.le
   rw [List.length_map] at ak hle
   have b7:=size_eq t
   have hX:=l3 t.l
   refine V9 rfl (cR ?_)
   unfold E6
   obtain ⟨aa,al,aB,ch⟩:=fo h [.int .i64 t.k,.int .i64 t.n,.int .i64 t.a,.str t.s,cl]
   simp +contextual only [ol.1,ol.2.1,al,ch.g,↓ah,ao,simprocAttr]
   refine bK (Jl t.k aa) ?_
   rintro x ae ⟨rfl,rfl⟩
   rw [ahL]
   by_cases aH:eu t.k=0
   · simp +contextual only [eq_true aH,↓ah,ao,simprocAttr]
     exact ⟨by simp [aH],aB⟩
   have s4:=eq_false aH
   simp +contextual only [s4,ch.g,↓ah,ao,simprocAttr]
   refine bK (aiT t aH _ ae (hE.ext aB)) ?_
   rintro x aI ⟨rfl,cc⟩
   have lh:=ch.ext cc
   cases bz:uh dr t.k t.s with
   | false=>
     simp +contextual only [s4,lh.g,↓ah,ao,simprocAttr]
     exact aB.trans cc
   | true=>
   simp +contextual only [s4,lh.g,↓ah,ao,simprocAttr]
   refine bK (agd t aH _ aI (hE.ext (aB.trans cc))) ?_
   rintro x bu ⟨rfl,fy⟩
   have oG:=lh.ext fy
   have iX:=(aB.trans cc).trans fy
   cases bN:hC t.k t.n t.l.length with
   | false=>
     simp +contextual only [s4,oG.g,↓ah,ao,simprocAttr]
     exact iX
   | true=>
   by_cases c3:t.a<0
   · simp +contextual only [s4,oG.g,eq_true c3,↓ah,ao,simprocAttr]
     exact ⟨by rw [decide_eq_false (show ¬0≤t.a by omega)];simp,iX⟩
   by_cases gb:65536<t.a
   · simp +contextual only [s4,oG.g,eq_false c3,eq_true gb,↓ah,ao,simprocAttr]
     exact ⟨by rw [decide_eq_false (show ¬t.a≤65536 by omega)];simp,iX⟩
   simp +contextual only [s4,oG.g,eq_false c3,eq_false gb,↓ah,ao,simprocAttr]
   refine bK (aam t aH bN (by omega) _ bu (hE.ext iX)) ?_
   rintro x cf ⟨aap,rfl,Kn,ir⟩
   have sx:=oG.ext ir
   have ga:=iX.trans ir
   rw [decide_eq_true (show eu t.k≠0 from aH),decide_eq_true (show 0≤t.a by omega),decide_eq_true (show t.a≤65536 by omega)]
   cases c5:(da t.k t.n t.l).2 with
   | false=>
     simp +contextual only [sx.g,↓ah,ao,simprocAttr]
     exact ga
   | true=>
   have qk:=ahF aH bN c5
   generalize (da t.k t.n t.l).1=gs at Kn qk ⊢
   simp +contextual only [sx.g,↓ah,ao,simprocAttr]
   refine fD (fun r g=>r 1=.ptr (aC h.next) 0∧r 3=aap∧∃i:Nat,r 5=.int .i64 i∧i≤t.l.length∧Ext cf g∧l2 dr gs t.l=l2 dr (gs.drop i) (t.l.drop i)) (fun r g=>t.l.length - (r 5).toN) ?_ ?_
   · exact ⟨by simp only [↓ah,bA,simprocAttr],by simp only [↓ah,bA,simprocAttr],0,by simp only [↓ah,bA,simprocAttr]<;>rfl,by omega,Ext.refl cf,rfl⟩
   rintro r g ⟨bp,bX,i,cu,av,E,bl⟩
   unfold Lq
   have A:=sx.ext E
   have mO:=L.ext (ga.trans E)
   by_cases aN:i<t.l.length
   · have g0:((i:Int) < (t.l.length:Int))=True:=eq_true (by omega)
     obtain ⟨b,off,wl,b_,X,gr,ld,qG,_,_⟩:=aM.we mO (k:=.i64) aN
     obtain ⟨cb,wC,iB,ae8⟩:=(Kn.ext E).H2 (k:=.i64) (i:=i) (by omega)
     have h7:=ld g (Ext.refl g)
     have d0:=qG g (Ext.refl g)
     have dg:=ae8 g (Ext.refl g)
     have dM:=ik aN (by unfold top at hle;omega)
     have NH:=mD (t:=t) (List.getElem_mem aN)
     rw [List.drop_eq_getElem_cons aN,List.drop_eq_getElem_cons (show i<gs.length by omega),l2] at bl
     have fin:∀(aL:List hb) (R:aT),True:=fun _ _=>trivial
     by_cases lx:gs[i]=8
     · have eY:sg t.l[i].k gs[i]=decide (t.l[i].k=1):=by unfold sg;rw [if_pos lx]
       by_cases p6:t.l[i].k=1
       · simp +contextual only [bp,bX,cu,A.g,ak,g0,b_,iB,h7,d0,dg,eq_true lx,eq_true p6,↓ah,ao,simprocAttr]
         refine bK (Jn N t.l[i] (by omega) bD _ g X) ?_
         rintro x g2 ⟨rfl,dR⟩
         rw [eY,decide_eq_true p6,Bool.true_and] at bl
         cases xL:t.l[i].la dr with
         | true=>
           rw [xL,Bool.true_and] at bl
           simp +contextual only [bp,bX,cu,dM,↓ah,ao,simprocAttr]
           exact ⟨⟨i+1,rfl,aN,E.trans dR,bl⟩,by omega⟩
         | false=>
           rw [xL,Bool.false_and] at bl
           simp +contextual only [bp,bX,cu,dM,↓ah,ao,simprocAttr]
           exact ⟨by rw [bl],ga.trans (E.trans dR)⟩
       · rw [eY,decide_eq_false p6,Bool.false_and,Bool.false_and] at bl
         simp +contextual only [bp,bX,cu,A.g,ak,g0,b_,iB,h7,d0,dg,eq_true lx,eq_false p6,↓ah,ao,simprocAttr]
         exact ⟨by rw [bl],ga.trans E⟩
     · have eY:sg t.l[i].k gs[i]=decide (eu t.l[i].k=gs[i]):=by unfold sg;rw [if_neg lx]
       simp +contextual only [bp,bX,cu,A.g,ak,g0,b_,iB,h7,d0,dg,eq_false lx,↓ah,ao,simprocAttr]
       refine bK (Jl t.l[i].k g) ?_
       rintro x g2 ⟨rfl,rfl⟩
       by_cases p6:eu t.l[i].k=gs[i]
       · simp +contextual only [bp,bX,cu,A.g,ak,g0,b_,iB,h7,d0,dg,eq_false lx,eq_true p6,↓ah,ao,simprocAttr]
         refine bK (Jn N t.l[i] (by omega) bD _ g2 X) ?_
         rintro x g3 ⟨rfl,dR⟩
         rw [eY,decide_eq_true p6,Bool.true_and] at bl
         cases xL:t.l[i].la dr with
         | true=>
           rw [xL,Bool.true_and] at bl
           simp +contextual only [bp,bX,cu,dM,↓ah,ao,simprocAttr]
           exact ⟨⟨i+1,rfl,aN,E.trans dR,bl⟩,by omega⟩
         | false=>
           rw [xL,Bool.false_and] at bl
           simp +contextual only [bp,bX,cu,dM,↓ah,ao,simprocAttr]
           exact ⟨by rw [bl],ga.trans (E.trans dR)⟩
       · rw [eY,decide_eq_false p6,Bool.false_and,Bool.false_and] at bl
         simp +contextual only [bp,bX,cu,A.g,ak,g0,b_,iB,h7,d0,dg,eq_false lx,eq_false p6,↓ah,ao,simprocAttr]
         exact ⟨by rw [bl],ga.trans E⟩
   · have g0:((i:Int) < (t.l.length:Int))=False:=eq_false (by omega)
     rw [List.drop_eq_nil_of_le (show t.l.length≤i by omega),l2] at bl
     simp +contextual only [bp,bX,cu,A.g,ak,g0,↓ah,ao,simprocAttr]
     exact ⟨by rw [bl],ga.trans E⟩
end Go.Proofs.YtkehcalakofigaaGreatDoor
