/- The chapter's functions, walked by the abstract machine: plain lemmas, no condition. Printed by a program from longer texts: names made short. -/
import Derived.Test.YtkehcalakofigaaGreatDoorM6
import Derived.Test.YtkehcalakofigaaGreatDoorM7
import Derived.Shelf.Unicode.Decode
import Derived.Shelf.Unicode.DecodeSlow
import Derived.Shelf.Unicode.DecodeAny
import Derived.Shelf.Strconv.Atoi
import Derived.Shelf.Pu.ParseUintPublic10
import Derived.Lib.LaidU8T
set_option linter.unusedSectionVars false
set_option linter.unusedSimpArgs false
set_option linter.unusedVariables false
namespace Go.Proofs.YtkehcalakofigaaGreatDoor
open Go aY
theorem SF:Extern.findNext Tryz.f114=none:=by kernel_rfl
theorem SE:(Extern.find Tryz.f114)=some Extern.BytealgIndexByte.indexByte:=by kernel_rfl
theorem VR (s:List UInt8) (c:Int) (h:ae):eh Tryz.prog 114 [.str s,.int .u8 c] h (.int .i64 (Lib.indexByte s c.toNat.toUInt8)) h:=
 VU (by decide) Tryz.func114 (by kernel_rfl) (by kernel_rfl) SF SE s c h
theorem VQ (s:List UInt8) (c:Int) (h:ae):eh Tryz.prog 103 [.str s,.int .u8 c] h (.int .i64 (Lib.indexByte s c.toNat.toUInt8)) h:=by
 refine k0 (OC rfl (dn ?_))
 unfold Be
 simp +contextual only [↓al,aw,simprocAttr]
 refine eO (VR _ _ _) ?_
 simp +contextual only [↓al,aw,simprocAttr]
theorem JK (s:List UInt8) (c:Int) (h:ae):eh Tryz.prog 92 [.str s,.int .u8 c] h (.int .i64 (Lib.indexByte s c.toNat.toUInt8)) h:=by
 refine k0 (QS rfl (dn ?_))
 unfold BX
 simp +contextual only [↓al,aw,simprocAttr]
 refine eO (VQ _ _ _) ?_
 simp +contextual only [↓al,aw,simprocAttr]
end Go.Proofs.YtkehcalakofigaaGreatDoor
namespace Go.Proofs.YtkehcalakofigaaGreatDoor
open Go Go.Shelf
def Tryz.Ya:Go.Shelf.Ren:=⟨fun | 197=>102 | 260=>113 | n=>n,fun | 9=>9 | 21=>21 | 3=>3 | 4=>4 | 5=>5 | 105=>128 | 119=>141 | 0=>0 | 46=>80 | 139=>144 | 138=>143 | n=>n,fun | 3=>0 | 4=>1 | n=>n⟩
theorem Tryz.X_:Go.Proofs.Lays.n197 Tryz.prog Tryz.Ya:={
 mixed:=by kernel_rfl,
 f197:=Tryz.func102.trans (congrArg some (by kernel_rfl)),
 f260:=Tryz.func113.trans (congrArg some (by kernel_rfl)),
 t0:=Tryz.underlying0,
 a0:=Tryz.isAgg0,
 z0:=Tryz.sizeOf0,
 v0:=Tryz.zeroValue0,
 t3:=Tryz.underlying3,
 a3:=Tryz.isAgg3,
 z3:=Tryz.sizeOf3,
 v3:=Tryz.zeroValue3,
 t4:=Tryz.underlying4,
 a4:=Tryz.isAgg4,
 z4:=Tryz.sizeOf4,
 v4:=Tryz.zeroValue4,
 t5:=Tryz.underlying5,
 a5:=Tryz.isAgg5,
 z5:=Tryz.sizeOf5,
 v5:=Tryz.zeroValue5,
 t9:=Tryz.underlying9,
 a9:=Tryz.isAgg9,
 z9:=Tryz.sizeOf9,
 v9:=Tryz.zeroValue9,
 t21:=Tryz.underlying21,
 a21:=Tryz.isAgg21,
 z21:=Tryz.sizeOf21,
 v21:=Tryz.zeroValue21,
 t46:=Tryz.underlying80,
 a46:=Tryz.isAgg80,
 z46:=Tryz.sizeOf80,
 v46:=Tryz.zeroValue80,
 t105:=Tryz.underlying128,
 a105:=Tryz.isAgg128,
 z105:=Tryz.sizeOf128,
 v105:=Tryz.zeroValue128,
 t119:=Tryz.underlying141,
 a119:=Tryz.isAgg141,
 z119:=Tryz.sizeOf141,
 t138:=Tryz.underlying143,
 a138:=Tryz.isAgg143,
 z138:=Tryz.sizeOf143,
 v138:=Tryz.zeroValue143,
 t139:=Tryz.underlying144,
 a139:=Tryz.isAgg144,
 z139:=Tryz.sizeOf144,
 v139:=Tryz.zeroValue144,
 g3:=by kernel_rfl,
 g4:=by kernel_rfl}
def Tryz.X':Go.Shelf.Ren:=⟨fun | 172=>123 | 244=>131 | 245=>122 | 247=>136 | 279=>127 | 280=>128 | 281=>129 | 282=>130 | 287=>121 | 316=>133 | 171=>135 | 205=>134 | 321=>125 | 322=>126 | 243=>140 | 246=>142 | 283=>143 | 284=>144 | 285=>145 | 286=>146 | 129=>90 | 317=>147 | 318=>148 | 319=>149 | 320=>150 | 337=>151 | 338=>152 | n=>n,fun | 9=>9 | 3=>3 | 75=>135 | 76=>146 | 4=>4 | 5=>5 | 167=>149 | 37=>139 | 0=>0 | 85=>159 | 2=>2 | 168=>151 | 53=>100 | 175=>136 | 46=>80 | 210=>156 | 127=>161 | 145=>164 | 143=>162 | 21=>21 | 171=>167 | 173=>169 | 212=>172 | 51=>97 | 20=>20 | 213=>173 | 232=>175 | 233=>176 | 80=>177 | n=>n,fun | 15=>3 | 16=>4 | 17=>5 | 18=>6 | 19=>7 | n=>n⟩
theorem Tryz.X9:Go.Proofs.Lays.n172 Tryz.prog Tryz.X':={
 mixed:=by kernel_rfl,
 f129:=Tryz.func90.trans (congrArg some (by kernel_rfl)),
 f171:=Tryz.func135.trans (congrArg some (by kernel_rfl)),
 f172:=Tryz.func123.trans (congrArg some (by kernel_rfl)),
 f205:=Tryz.func134.trans (congrArg some (by kernel_rfl)),
 f243:=Tryz.func140.trans (congrArg some (by kernel_rfl)),
 f244:=Tryz.func131.trans (congrArg some (by kernel_rfl)),
 f245:=Tryz.func122.trans (congrArg some (by kernel_rfl)),
 f246:=Tryz.func142.trans (congrArg some (by kernel_rfl)),
 f247:=Tryz.func136.trans (congrArg some (by kernel_rfl)),
 f279:=Tryz.func127.trans (congrArg some (by kernel_rfl)),
 f280:=Tryz.func128.trans (congrArg some (by kernel_rfl)),
 f281:=Tryz.func129.trans (congrArg some (by kernel_rfl)),
 f282:=Tryz.func130.trans (congrArg some (by kernel_rfl)),
 f283:=Tryz.func143.trans (congrArg some (by kernel_rfl)),
 f284:=Tryz.func144.trans (congrArg some (by kernel_rfl)),
 f285:=Tryz.func145.trans (congrArg some (by kernel_rfl)),
 f286:=Tryz.func146.trans (congrArg some (by kernel_rfl)),
 f287:=Tryz.func121.trans (congrArg some (by kernel_rfl)),
 f316:=Tryz.func133.trans (congrArg some (by kernel_rfl)),
 f317:=Tryz.func147.trans (congrArg some (by kernel_rfl)),
 f318:=Tryz.func148.trans (congrArg some (by kernel_rfl)),
 f319:=Tryz.func149.trans (congrArg some (by kernel_rfl)),
 f320:=Tryz.func150.trans (congrArg some (by kernel_rfl)),
 f321:=Tryz.func125.trans (congrArg some (by kernel_rfl)),
 f322:=Tryz.func126.trans (congrArg some (by kernel_rfl)),
 f337:=Tryz.func151.trans (congrArg some (by kernel_rfl)),
 f338:=Tryz.func152.trans (congrArg some (by kernel_rfl)),
 t0:=Tryz.underlying0,
 a0:=Tryz.isAgg0,
 z0:=Tryz.sizeOf0,
 v0:=Tryz.zeroValue0,
 t2:=Tryz.underlying2,
 a2:=Tryz.isAgg2,
 z2:=Tryz.sizeOf2,
 v2:=Tryz.zeroValue2,
 t3:=Tryz.underlying3,
 a3:=Tryz.isAgg3,
 z3:=Tryz.sizeOf3,
 v3:=Tryz.zeroValue3,
 t4:=Tryz.underlying4,
 a4:=Tryz.isAgg4,
 z4:=Tryz.sizeOf4,
 v4:=Tryz.zeroValue4,
 t5:=Tryz.underlying5,
 a5:=Tryz.isAgg5,
 z5:=Tryz.sizeOf5,
 v5:=Tryz.zeroValue5,
 t9:=Tryz.underlying9,
 a9:=Tryz.isAgg9,
 z9:=Tryz.sizeOf9,
 v9:=Tryz.zeroValue9,
 t20:=Tryz.underlying20,
 a20:=Tryz.isAgg20,
 z20:=Tryz.sizeOf20,
 v20:=Tryz.zeroValue20,
 t21:=Tryz.underlying21,
 a21:=Tryz.isAgg21,
 z21:=Tryz.sizeOf21,
 v21:=Tryz.zeroValue21,
 t37:=Tryz.underlying139,
 a37:=Tryz.isAgg139,
 z37:=Tryz.sizeOf139,
 v37:=Tryz.zeroValue139,
 t46:=Tryz.underlying80,
 a46:=Tryz.isAgg80,
 z46:=Tryz.sizeOf80,
 v46:=Tryz.zeroValue80,
 t51:=Tryz.underlying97,
 a51:=Tryz.isAgg97,
 z51:=Tryz.sizeOf97,
 v51:=Tryz.zeroValue97,
 t53:=Tryz.underlying100,
 a53:=Tryz.isAgg100,
 z53:=Tryz.sizeOf100,
 v53:=Tryz.zeroValue100,
 t75:=Tryz.underlying135,
 a75:=Tryz.isAgg135,
 z75:=Tryz.sizeOf135,
 v75:=Tryz.zeroValue135,
 t76:=Tryz.underlying146,
 a76:=Tryz.isAgg146,
 z76:=Tryz.sizeOf146,
 v76:=Tryz.zeroValue146,
 t85:=Tryz.underlying159,
 a85:=Tryz.isAgg159,
 z85:=Tryz.sizeOf159,
 v85:=Tryz.zeroValue159,
 t127:=Tryz.underlying161,
 a127:=Tryz.isAgg161,
 z127:=Tryz.sizeOf161,
 v127:=Tryz.zeroValue161,
 t143:=Tryz.underlying162,
 a143:=Tryz.isAgg162,
 z143:=Tryz.sizeOf162,
 v143:=Tryz.zeroValue162,
 t145:=Tryz.underlying164,
 a145:=Tryz.isAgg164,
 z145:=Tryz.sizeOf164,
 v145:=Tryz.zeroValue164,
 t167:=Tryz.underlying149,
 a167:=Tryz.isAgg149,
 z167:=Tryz.sizeOf149,
 v167:=Tryz.zeroValue149,
 t168:=Tryz.underlying151,
 a168:=Tryz.isAgg151,
 z168:=Tryz.sizeOf151,
 v168:=Tryz.zeroValue151,
 t171:=Tryz.underlying167,
 a171:=Tryz.isAgg167,
 z171:=Tryz.sizeOf167,
 v171:=Tryz.zeroValue167,
 t173:=Tryz.underlying169,
 a173:=Tryz.isAgg169,
 z173:=Tryz.sizeOf169,
 v173:=Tryz.zeroValue169,
 t175:=Tryz.underlying136,
 a175:=Tryz.isAgg136,
 z175:=Tryz.sizeOf136,
 v175:=Tryz.zeroValue136,
 t210:=Tryz.underlying156,
 a210:=Tryz.isAgg156,
 z210:=Tryz.sizeOf156,
 v210:=Tryz.zeroValue156,
 t212:=Tryz.underlying172,
 a212:=Tryz.isAgg172,
 z212:=Tryz.sizeOf172,
 v212:=Tryz.zeroValue172,
 t213:=Tryz.underlying173,
 a213:=Tryz.isAgg173,
 z213:=Tryz.sizeOf173,
 t232:=Tryz.underlying175,
 a232:=Tryz.isAgg175,
 z232:=Tryz.sizeOf175,
 v232:=Tryz.zeroValue175,
 t233:=Tryz.underlying176,
 a233:=Tryz.isAgg176,
 z233:=Tryz.sizeOf176,
 v233:=Tryz.zeroValue176,
 g15:=by kernel_rfl,
 g16:=by kernel_rfl,
 g17:=by kernel_rfl,
 g18:=by kernel_rfl,
 g19:=by kernel_rfl}
def Tryz.Ec:Go.Shelf.Ren:=⟨fun | 14=>116 | 16=>121 | 17=>122 | 19=>125 | 20=>126 | 21=>127 | 22=>128 | 23=>129 | 24=>130 | 25=>133 | 27=>135 | 26=>134 | 28=>140 | 29=>142 | 30=>143 | 31=>144 | 32=>145 | 33=>146 | 35=>90 | 34=>147 | 36=>148 | 37=>149 | 38=>150 | 39=>151 | 40=>152 | n=>n,fun | 9=>9 | 3=>3 | 22=>100 | 24=>135 | 25=>136 | 4=>4 | 34=>149 | 5=>5 | 36=>80 | 37=>139 | 0=>0 | 39=>151 | 21=>21 | 44=>156 | 47=>161 | 50=>164 | 48=>162 | 2=>2 | 52=>167 | 55=>169 | 59=>172 | 60=>97 | 20=>20 | 61=>173 | 65=>175 | 66=>176 | 67=>177 | n=>n,fun | 0=>3 | 1=>4 | 2=>5 | 3=>6 | 4=>7 | n=>n⟩
theorem Tryz.J3:Go.Proofs.LaysPu.n14 Tryz.prog Tryz.Ec:={
 mixed:=by kernel_rfl,
 f14:=Tryz.func116.trans (congrArg some (by kernel_rfl)),
 f16:=Tryz.func121.trans (congrArg some (by kernel_rfl)),
 f17:=Tryz.func122.trans (congrArg some (by kernel_rfl)),
 f19:=Tryz.func125.trans (congrArg some (by kernel_rfl)),
 f20:=Tryz.func126.trans (congrArg some (by kernel_rfl)),
 f21:=Tryz.func127.trans (congrArg some (by kernel_rfl)),
 f22:=Tryz.func128.trans (congrArg some (by kernel_rfl)),
 f23:=Tryz.func129.trans (congrArg some (by kernel_rfl)),
 f24:=Tryz.func130.trans (congrArg some (by kernel_rfl)),
 f25:=Tryz.func133.trans (congrArg some (by kernel_rfl)),
 f26:=Tryz.func134.trans (congrArg some (by kernel_rfl)),
 f27:=Tryz.func135.trans (congrArg some (by kernel_rfl)),
 f28:=Tryz.func140.trans (congrArg some (by kernel_rfl)),
 f29:=Tryz.func142.trans (congrArg some (by kernel_rfl)),
 f30:=Tryz.func143.trans (congrArg some (by kernel_rfl)),
 f31:=Tryz.func144.trans (congrArg some (by kernel_rfl)),
 f32:=Tryz.func145.trans (congrArg some (by kernel_rfl)),
 f33:=Tryz.func146.trans (congrArg some (by kernel_rfl)),
 f34:=Tryz.func147.trans (congrArg some (by kernel_rfl)),
 f35:=Tryz.func90.trans (congrArg some (by kernel_rfl)),
 f36:=Tryz.func148.trans (congrArg some (by kernel_rfl)),
 f37:=Tryz.func149.trans (congrArg some (by kernel_rfl)),
 f38:=Tryz.func150.trans (congrArg some (by kernel_rfl)),
 f39:=Tryz.func151.trans (congrArg some (by kernel_rfl)),
 f40:=Tryz.func152.trans (congrArg some (by kernel_rfl)),
 t0:=Tryz.underlying0,
 a0:=Tryz.isAgg0,
 z0:=Tryz.sizeOf0,
 v0:=Tryz.zeroValue0,
 i0:=by kernel_rfl,
 t2:=Tryz.underlying2,
 a2:=Tryz.isAgg2,
 z2:=Tryz.sizeOf2,
 v2:=Tryz.zeroValue2,
 i2:=by kernel_rfl,
 t3:=Tryz.underlying3,
 a3:=Tryz.isAgg3,
 z3:=Tryz.sizeOf3,
 v3:=Tryz.zeroValue3,
 i3:=by kernel_rfl,
 t4:=Tryz.underlying4,
 a4:=Tryz.isAgg4,
 z4:=Tryz.sizeOf4,
 v4:=Tryz.zeroValue4,
 i4:=by kernel_rfl,
 t5:=Tryz.underlying5,
 a5:=Tryz.isAgg5,
 z5:=Tryz.sizeOf5,
 v5:=Tryz.zeroValue5,
 i5:=by kernel_rfl,
 t9:=Tryz.underlying9,
 a9:=Tryz.isAgg9,
 z9:=Tryz.sizeOf9,
 v9:=Tryz.zeroValue9,
 i9:=by kernel_rfl,
 t20:=Tryz.underlying20,
 a20:=Tryz.isAgg20,
 z20:=Tryz.sizeOf20,
 v20:=Tryz.zeroValue20,
 i20:=by kernel_rfl,
 t21:=Tryz.underlying21,
 a21:=Tryz.isAgg21,
 z21:=Tryz.sizeOf21,
 v21:=Tryz.zeroValue21,
 i21:=by kernel_rfl,
 t22:=Tryz.underlying100,
 a22:=Tryz.isAgg100,
 z22:=Tryz.sizeOf100,
 v22:=Tryz.zeroValue100,
 i22:=by kernel_rfl,
 t24:=Tryz.underlying135,
 a24:=Tryz.isAgg135,
 z24:=Tryz.sizeOf135,
 v24:=Tryz.zeroValue135,
 i24:=by kernel_rfl,
 t25:=Tryz.underlying136,
 a25:=Tryz.isAgg136,
 z25:=Tryz.sizeOf136,
 v25:=Tryz.zeroValue136,
 i25:=by kernel_rfl,
 t34:=Tryz.underlying149,
 a34:=Tryz.isAgg149,
 z34:=Tryz.sizeOf149,
 v34:=Tryz.zeroValue149,
 i34:=by kernel_rfl,
 c34:=by kernel_rfl,
 t36:=Tryz.underlying80,
 a36:=Tryz.isAgg80,
 z36:=Tryz.sizeOf80,
 v36:=Tryz.zeroValue80,
 i36:=by kernel_rfl,
 t37:=Tryz.underlying139,
 a37:=Tryz.isAgg139,
 z37:=Tryz.sizeOf139,
 v37:=Tryz.zeroValue139,
 i37:=by kernel_rfl,
 t39:=Tryz.underlying151,
 a39:=Tryz.isAgg151,
 z39:=Tryz.sizeOf151,
 v39:=Tryz.zeroValue151,
 i39:=by kernel_rfl,
 t44:=Tryz.underlying156,
 a44:=Tryz.isAgg156,
 z44:=Tryz.sizeOf156,
 v44:=Tryz.zeroValue156,
 i44:=by kernel_rfl,
 t47:=Tryz.underlying161,
 a47:=Tryz.isAgg161,
 z47:=Tryz.sizeOf161,
 v47:=Tryz.zeroValue161,
 i47:=by kernel_rfl,
 t48:=Tryz.underlying162,
 a48:=Tryz.isAgg162,
 z48:=Tryz.sizeOf162,
 v48:=Tryz.zeroValue162,
 i48:=by kernel_rfl,
 t50:=Tryz.underlying164,
 a50:=Tryz.isAgg164,
 z50:=Tryz.sizeOf164,
 v50:=Tryz.zeroValue164,
 i50:=by kernel_rfl,
 t52:=Tryz.underlying167,
 a52:=Tryz.isAgg167,
 z52:=Tryz.sizeOf167,
 v52:=Tryz.zeroValue167,
 i52:=by kernel_rfl,
 t55:=Tryz.underlying169,
 a55:=Tryz.isAgg169,
 z55:=Tryz.sizeOf169,
 v55:=Tryz.zeroValue169,
 i55:=by kernel_rfl,
 t59:=Tryz.underlying172,
 a59:=Tryz.isAgg172,
 z59:=Tryz.sizeOf172,
 v59:=Tryz.zeroValue172,
 i59:=by kernel_rfl,
 t60:=Tryz.underlying97,
 a60:=Tryz.isAgg97,
 z60:=Tryz.sizeOf97,
 v60:=Tryz.zeroValue97,
 i60:=by kernel_rfl,
 t61:=Tryz.underlying173,
 a61:=Tryz.isAgg173,
 z61:=Tryz.sizeOf173,
 t65:=Tryz.underlying175,
 a65:=Tryz.isAgg175,
 z65:=Tryz.sizeOf175,
 v65:=Tryz.zeroValue175,
 i65:=by kernel_rfl,
 t66:=Tryz.underlying176,
 a66:=Tryz.isAgg176,
 z66:=Tryz.sizeOf176,
 v66:=Tryz.zeroValue176,
 i66:=by kernel_rfl,
 t67:=Tryz.underlying177,
 a67:=Tryz.isAgg177,
 z67:=Tryz.sizeOf177,
 v67:=Tryz.zeroValue177,
 i67:=by kernel_rfl,
 g0:=by kernel_rfl,
 m0:=by kernel_rfl,
 g1:=by kernel_rfl,
 m1:=by kernel_rfl,
 g2:=by kernel_rfl,
 m2:=by kernel_rfl,
 g3:=by kernel_rfl,
 m3:=by kernel_rfl,
 g4:=by kernel_rfl,
 m4:=by kernel_rfl}
def Tryz.vX:Go.Shelf.Ren:=⟨fun | 260=>113 | n=>n,fun | 9=>9 | 21=>21 | 3=>3 | 4=>4 | 5=>5 | 119=>141 | 0=>0 | 46=>80 | 139=>144 | 138=>143 | n=>n,fun | 3=>0 | 4=>1 | n=>n⟩
theorem Tryz.Yb:Go.Proofs.Lays.n260 Tryz.prog Tryz.vX:={
 mixed:=by kernel_rfl,
 f260:=Tryz.func113.trans (congrArg some (by kernel_rfl)),
 t0:=Tryz.underlying0,
 a0:=Tryz.isAgg0,
 z0:=Tryz.sizeOf0,
 v0:=Tryz.zeroValue0,
 t3:=Tryz.underlying3,
 a3:=Tryz.isAgg3,
 z3:=Tryz.sizeOf3,
 v3:=Tryz.zeroValue3,
 t4:=Tryz.underlying4,
 a4:=Tryz.isAgg4,
 z4:=Tryz.sizeOf4,
 v4:=Tryz.zeroValue4,
 t5:=Tryz.underlying5,
 a5:=Tryz.isAgg5,
 z5:=Tryz.sizeOf5,
 v5:=Tryz.zeroValue5,
 t9:=Tryz.underlying9,
 a9:=Tryz.isAgg9,
 z9:=Tryz.sizeOf9,
 v9:=Tryz.zeroValue9,
 t21:=Tryz.underlying21,
 a21:=Tryz.isAgg21,
 z21:=Tryz.sizeOf21,
 v21:=Tryz.zeroValue21,
 t46:=Tryz.underlying80,
 a46:=Tryz.isAgg80,
 z46:=Tryz.sizeOf80,
 v46:=Tryz.zeroValue80,
 t119:=Tryz.underlying141,
 a119:=Tryz.isAgg141,
 z119:=Tryz.sizeOf141,
 t138:=Tryz.underlying143,
 a138:=Tryz.isAgg143,
 z138:=Tryz.sizeOf143,
 v138:=Tryz.zeroValue143,
 t139:=Tryz.underlying144,
 a139:=Tryz.isAgg144,
 z139:=Tryz.sizeOf144,
 v139:=Tryz.zeroValue144,
 g3:=by kernel_rfl,
 g4:=by kernel_rfl}
end Go.Proofs.YtkehcalakofigaaGreatDoor
namespace Go.Proofs.YtkehcalakofigaaGreatDoor
open Go aY Go.RowKit
section
open Go.Shelf
theorem RX (s:ByteArray) (w:World) (dw:Lib.Utf8Tabs 0 1 w):
 Calls Tryz.prog 102 #[.string s] w fun e ak=>e=.returned (.tuple #[.int .i32 (Lib.decodeGo s).1,.int .i64 (Lib.decodeGo s).2])∧Below w.heap.size w ak:=Any.utf8_DecodeRuneInString Tryz.X_ s w dw
theorem N_ (s:ByteArray) (n:Int) (aj:s.size≤18) (h:Lib.atoi s.data.toList=some n) (w:World):
 Calls Tryz.prog 123 #[.string s] w fun e ak=>e=.returned (.tuple #[.int .i64 n,.nilIface])∧Below w.heap.size w ak:=(Any.strconv_Atoi Tryz.X9 s n aj h w).mono fun e ak q=>⟨q.1,by obtain ⟨t,rfl⟩:=q.2;exact Lib.bytesWorld_below _ _ _⟩
theorem Z1 (s:ByteArray) (s':s.size≤9223372036854775806) (u:Nat) (h:Lib.parseUintB 64 s.data.toList=.ok u) (w:World):
 Calls Tryz.prog 116 #[.string s,.int .i64 10,.int .i64 64] w fun e ak=>e=.returned (.tuple #[.int .u64 u,.nilIface])∧Below w.heap.size w ak:=(Any.strconv_ParseUint_10_at64_ok Tryz.J3 s s' u h w).mono fun e ak q=>⟨q.1,by
  rcases q.2 with rfl | rfl
  · exact Below.refl _ _
  · exact Lib.bytesWorld_below _ _ _⟩
theorem Z3 (s:ByteArray) (rh:s.size≤281474976710656) (h:Lib.parseUintB 64 s.data.toList=.range) (w:World) (he:sa w 4):
 Calls Tryz.prog 116 #[.string s,.int .i64 10,.int .i64 64] w fun e ak=>(∃p,e=.returned (.tuple #[.int .u64 18446744073709551615,.iface (Tryz.Ec.t 39) p]))∧Below w.heap.size w ak:=by
 obtain ⟨aU,U,ad⟩:=he
 refine (Any.strconv_ParseUint_10_at64_range Tryz.J3 s rh h aU w U ad).mono fun e ak q=>?_
 obtain ⟨N,aI,_,_,fY⟩:=q
 exact ⟨⟨_,aI⟩,fY⟩
end
theorem vU {f:FuncId} (a1:Nat.beq f cJ=false) {args:List V} {v:V} {h:ae} (gk:∃fn,Tryz.prog.funcs[f]? =some fn∧fn.body.isSome=true) (H:∀E xs w,AO w→aZ E args xs→Calls Tryz.prog f xs.toArray w fun e ak=>∃x,e=.returned x∧Rel E v x∧Below w.heap.size w ak):eh Tryz.prog f args h v h:=by
 refine ⟨fun e=>by subst e;simp at a1,.inl ⟨gk,fun au E w xs ao s=>?_⟩⟩
 refine (H E xs w (Lay.fH s.laid s.frame) ao).mono fun e ak q=>?_
 obtain ⟨x,rfl,bw,af⟩:=q
 exact ⟨E,x,rfl,fun _ _ q=>q,bw,s.below af⟩
theorem RV (s:List UInt8) (h:ae):eh Tryz.prog 102 [.str s] h (.tuple [.int .i32 (Lib.decodeGo ⟨⟨s⟩⟩).1,.int .i64 (Lib.decodeGo ⟨⟨s⟩⟩).2]) h:=by
 refine vU (by decide) ⟨_,Tryz.func102,by kernel_rfl⟩ fun E xs w aj ao=>?_
 obtain ⟨y,bZ,rfl,ai,rfl⟩:=ao
 simp only [Rel] at ai
 subst ai
 refine (RX ⟨⟨s⟩⟩ w aj.MH).mono fun e ak q=>?_
 obtain ⟨rfl,af⟩:=q
 refine ⟨_,rfl,?_,af⟩
 simp only [Rel]
 exact ⟨_,rfl,_,_,rfl,rfl,_,_,rfl,rfl,rfl⟩
theorem RG (s sub:List UInt8) (aR:s.length≤100000) (h:ae):eh Tryz.prog 120 [.str s,.str sub] h (.bool (Lib.contains s sub)) h:=by
 refine vU (by decide) ⟨_,Tryz.func120,by kernel_rfl⟩ fun E xs w aj ao=>?_
 obtain ⟨y,bZ,rfl,ai,z,im,rfl,ay,rfl⟩:=ao
 simp only [Rel] at ai ay
 subst ai ay
 obtain ⟨m,hm⟩:=aj.maxLen
 refine (Hf ⟨⟨s⟩⟩ ⟨⟨sub⟩⟩ m w (by show s.length<4294967281;omega) hm).mono fun e ak q=>?_
 obtain ⟨rfl,rfl⟩:=q
 refine ⟨_,rfl,?_,Below.refl _ _⟩
 simp only [Rel]
theorem N' (s:List UInt8) (n:Int) (aj:s.length≤18) (h:Lib.atoi s=some n) (ag:ae):eh Tryz.prog 123 [.str s] ag (.tuple [.int .i64 n,.nilIface]) ag:=by
 refine vU (by decide) ⟨_,Tryz.func123,by kernel_rfl⟩ fun E xs w rf ao=>?_
 obtain ⟨y,bZ,rfl,ai,rfl⟩:=ao
 simp only [Rel] at ai
 subst ai
 refine (N_ ⟨⟨s⟩⟩ n aj h w).mono fun e ak q=>?_
 obtain ⟨rfl,af⟩:=q
 refine ⟨_,rfl,?_,af⟩
 simp only [Rel]
 exact ⟨_,rfl,_,_,rfl,rfl,_,_,rfl,rfl,rfl⟩
theorem Z0 (s:List UInt8) (u:Nat) (aj:s.length≤100000) (h:Lib.parseUintB 64 s=.ok u) (ag:ae):eh Tryz.prog 116 [.str s,.int .i64 10,.int .i64 64] ag (.tuple [.int .u64 u,.nilIface]) ag:=by
 refine vU (by decide) ⟨_,Tryz.func116,by kernel_rfl⟩ fun E xs w rf ao=>?_
 obtain ⟨y,bZ,rfl,ai,z,im,rfl,ay,t,b7,rfl,aK,rfl⟩:=ao
 simp only [Rel] at ai ay aK
 subst ai ay aK
 refine (Z1 ⟨⟨s⟩⟩ (by show s.length≤9223372036854775806;omega) u h w).mono fun e ak q=>?_
 obtain ⟨rfl,af⟩:=q
 refine ⟨_,rfl,?_,af⟩
 simp only [Rel]
 exact ⟨_,rfl,_,_,rfl,rfl,_,_,rfl,rfl,rfl⟩
def Sk:TypeId:=Tryz.Ec.t 39
theorem Z2 (s:List UInt8) (aj:s.length≤100000) (h:Lib.parseUintB 64 s=.range) (ag:ae):eh Tryz.prog 116 [.str s,.int .i64 10,.int .i64 64] ag (.tuple [.int .u64 18446744073709551615,.iface Sk .bad]) ag:=by
 refine vU (by decide) ⟨_,Tryz.func116,by kernel_rfl⟩ fun E xs w rf ao=>?_
 obtain ⟨y,bZ,rfl,ai,z,im,rfl,ay,t,b7,rfl,aK,rfl⟩:=ao
 simp only [Rel] at ai ay aK
 subst ai ay aK
 refine (Z3 ⟨⟨s⟩⟩ (by show s.length≤281474976710656;omega) h w rf.HT).mono fun e ak q=>?_
 obtain ⟨⟨p,rfl⟩,af⟩:=q
 refine ⟨_,rfl,?_,af⟩
 simp only [Rel]
 exact ⟨_,rfl,_,_,rfl,rfl,_,_,rfl,⟨p,rfl,trivial⟩,rfl⟩
end Go.Proofs.YtkehcalakofigaaGreatDoor
namespace Go.Proofs.YtkehcalakofigaaGreatDoor
open Go aY
def j7 (s:List UInt8) (i:Nat):Nat:=if decodeL s i=(65533,1) then 0 else (decodeL s i).2
def oP:Nat→List UInt8→Nat→Nat
 | 0,s,_=>s.length
 | f+1,s,a=>if a<s.length then (if j7 s a=0 then a else oP f s (a+j7 s a)) else s.length
def nz (s:List UInt8) (a:Nat):Nat:=oP (s.length-a) s a
def p7 (s:List UInt8):Nat:=nz s 0
theorem LR (s:List UInt8):∀(f g a:Nat),s.length-a≤f→s.length-a≤g→oP f s a=oP g s a
 | 0,g,a,U,ad=>by
   cases g with
   | zero=>rfl
   | succ g=>simp only [oP];rw [if_neg (by omega)]
 | f+1,0,a,U,ad=>by simp only [oP];rw [if_neg (by omega)]
 | f+1,g+1,a,U,ad=>by
   simp only [oP]
   by_cases bm:a<s.length
   · rw [if_pos bm,if_pos bm]
     by_cases aq:j7 s a=0
     · rw [if_pos aq,if_pos aq]
     · rw [if_neg aq,if_neg aq]
       exact LR s f g _ (by omega) (by omega)
   · rw [if_neg bm,if_neg bm]
theorem LQ {s:List UInt8} {a:Nat} (h:s.length≤a):nz s a=s.length:=by
 unfold nz
 rw [show s.length-a=0 from by omega]
 rfl
theorem aaz {s:List UInt8} {a:Nat} (h:a<s.length) (aq:j7 s a=0):nz s a=a:=by
 unfold nz
 rw [show s.length-a=s.length-a-1+1 from by omega,oP,if_pos h,if_pos aq]
theorem Fc {s:List UInt8} {a:Nat} (h:a<s.length) (aq:j7 s a≠0):nz s a=nz s (a+j7 s a):=by
 unfold nz
 rw [show s.length-a=s.length-a-1+1 from by omega,oP,if_pos h,if_neg aq]
 exact LR s _ _ _ (by omega) (by omega)
def ec (c:UInt8):Bool:=j8 c.toNat
def ee (c:UInt8):Bool:=pS c.toNat
def g' (l:List UInt8):Nat:=l.foldl (fun n c=>10 * n + (c.toNat-48)) 0
abbrev pg:=Except Int (Int × Int × List UInt8 × Nat)
def tK (r:List UInt8):pg:=
 let t:=r.takeWhile ec
 if 2147483647<g' t then .error 254 else .ok (1,(if 1073741823 < (g' t:Int) then (g' t:Int)-2147483648 else g' t),[],t.length)
def l6:List UInt8→Option (UInt8 × Nat)
 | []=>none
 | c::r=>if c=110 then some (10,1) else if c=116 then some (9,1) else if c=34 then some (34,1) else if c=92 then some (92,1) else
   if 2≤r.length∧ec c∧ec (r[0]?.getD 0)∧ec (r[1]?.getD 0)∧g' (c::r.take 2)<256 then some ((g' (c::r.take 2)).toUInt8,3) else none
def r3:Nat→List UInt8→Option (List UInt8 × Nat)
 | 0,_=>none
 | _+1,[]=>none
 | f+1,c::r=>if c=34 then some ([],1) else if c=92 then (match l6 r with
    | none=>none
    | some (b,n)=>(r3 f (r.drop n)).map fun q=>(b::q.1,q.2+n+1))
   else if c<32∨c=127 then none else (r3 f r).map fun q=>(c::q.1,q.2+1)
def mJ (r:List UInt8):Option (List UInt8 × Nat):=r3 r.length r
def oX (r:List UInt8):pg:=
 match mJ r with
 | none=>.error 252
 | some (b,n)=>if 4096<b.length then .error 255 else .ok (2,0,b,n+1)
def pQ:List (List UInt8):=[[97,110,100],[98,101,103,105,110],[101,108,115,101],[101,110,100],[101,120,99,101,112,116,105,111,110],[102,97,108,115,101],[102,117,110],[105,102],[105,110],[108,101,116],[109,97,116,99,104],[109,111,100],[111,102],[114,97,105,115,101],[114,101,99],[116,104,101,110],[116,114,117,101],[116,114,121],[116,121,112,101],[119,105,116,104]]
def hq:List (List UInt8):=[[59,59],[58,61],[45,62],[60,61],[59],[40],[41],[44],[61],[60],[43],[45],[42],[47],[124],[33],[95]]
def lz (t:List UInt8):Bool:=pQ.contains t
def hU (kind:Int) (r:List UInt8):pg:=
 let t:=r.takeWhile ee
 if kind=3∧t=[95] then .ok (7,0,t,t.length) else if kind=3∧lz t then .ok (6,0,t,t.length) else if 64<t.length then .error 255 else .ok (kind,0,t,t.length)
def ud (r:List UInt8):pg:=
 match hq.find? (·.isPrefixOf r) with
 | some t=>.ok (7,0,t,t.length)
 | none=>.error 251
def jE:List UInt8→Bool
 | d::_=>fz d.toNat
 | []=>false
def fy:List UInt8→pg
 | []=>.error 0
 | c::r=>if ec c then tK (c::r) else if c=34 then oX r else if fz c.toNat||c=95 then hU 3 (c::r) else if ka c.toNat then hU 4 (c::r) else
   if c=39∧jE r then (hU 5 r).map fun q=>(q.1,q.2.1,q.2.2.1,q.2.2.2+1) else ud (c::r)
structure bQ where
 kind:Int
 num:Int
 pos:Nat
 text:List UInt8
deriving DecidableEq
def blank (c:UInt8):Bool:=c=9||c=10||c=13||c=32
def u0 (w:bQ):Except (Int × Nat) (List bQ)→Except (Int × Nat) (List bQ)
 | .ok ws=>.ok (w::ws)
 | .error e=>.error e
def kl:Nat→List UInt8→Nat→Except (Int × Nat) (List bQ)
 | 0,_,_=>.ok []
 | _+1,[],_=>.ok []
 | f+1,c::r,p=>if blank c then kl f r (p+1) else if ([40,42]:List UInt8).isPrefixOf (c::r) then (match gz (c::r) 0 with
    | none=>.error (253,p)
    | some n=>kl f ((c::r).drop n) (p+n))
   else match fy (c::r) with
    | .error e=>.error (e,p)
    | .ok q=>u0 ⟨q.1,q.2.1,p,q.2.2.1⟩ (kl f ((c::r).drop q.2.2.2) (p+q.2.2.2))
def nt (r:List UInt8) (p:Nat):Except (Int × Nat) (List bQ):=kl r.length r p
def iI (s:List UInt8):Except (Int × Nat) (List bQ):=
 if 65536<s.length then .error (3,0) else if p7 s<s.length then .error (250,p7 s) else nt s 0
theorem Fy {p:UInt8→Bool} {c:UInt8} {r:List UInt8} (h:p c=true):1≤((c::r).takeWhile p).length:=by
 simp only [List.takeWhile_cons,h,if_true,List.length_cons]
 omega
theorem aa6 {t:List UInt8} (h:t ∈ hq):1≤t.length:=by
 revert t
 decide
theorem Fm {c:UInt8} (h:fz c.toNat=true):ee c=true:=by unfold ee pS;rw [h];simp
theorem Il {c:UInt8} (h:ka c.toNat=true):ee c=true:=by unfold ee pS;rw [h];simp
theorem MC {c:UInt8} (h:c=95):ee c=true:=by subst h;decide
theorem KD {k:Int} {r:List UInt8} {q:Int × Int × List UInt8 × Nat} (h:hU k r=.ok q):q.2.2.2=(r.takeWhile ee).length:=by
 unfold hU at h
 simp only at h
 split at h
 · cases h;rfl
 · split at h
   · cases h;rfl
   · split at h
     · cases h
     · cases h;rfl
theorem Ex {r:List UInt8} {q:Int × Int × List UInt8 × Nat} (h:fy r=.ok q):1≤q.2.2.2:=by
 match r,h with
 | c::r,h=>
   simp only [fy] at h
   split at h
   · rename_i aV
     unfold tK at h
     simp only at h
     split at h
     · cases h
     · cases h
       exact Fy aV
   · split at h
     · unfold oX at h
       split at h
       · cases h
       · split at h
         · cases h
         · cases h;simp only;omega
     · split at h
       · rename_i aR
         rw [KD h]
         simp only [Bool.or_eq_true,decide_eq_true_eq] at aR
         exact Fy (aR.elim Fm MC)
       · split at h
         · rename_i aR
           rw [KD h]
           exact Fy (Il aR)
         · split at h
           · cases a7:hU 5 r with
             | error e=>rw [a7] at h;cases h
             | ok dK=>rw [a7] at h;cases h;simp only;omega
           · unfold ud at h
             split at h
             · rename_i t aB
               cases h
               exact aa6 (List.mem_of_find?_eq_some aB)
             · cases h
theorem zg:∀{r:List UInt8} {d:Int} {n:Nat},gz r d=some n→2≤n
 | [],d,n,h=>by simp [gz] at h
 | [_],d,n,h=>by simp [gz] at h
 | x::y::r,d,n,h=>by
   rw [gz] at h
   split at h
   · cases aE:gz r (d+1) with
     | none=>rw [aE] at h;cases h
     | some m=>rw [aE] at h;cases h;simp only;omega
   · split at h
     · split at h
       · cases h;omega
       · cases aE:gz r (d-1) with
         | none=>rw [aE] at h;cases h
         | some m=>rw [aE] at h;cases h;simp only;omega
     · cases aE:gz (y::r) d with
       | none=>rw [aE] at h;cases h
       | some m=>rw [aE] at h;cases h;have:=zg aE;simp only;omega
theorem v7:∀(f g:Nat) (r:List UInt8) (p:Nat),r.length≤f→r.length≤g→kl f r p=kl g r p
 | 0,g,r,p,U,ad=>by
   have:r=[]:=List.length_eq_zero_iff.1 (by omega)
   subst this
   cases g<;>rfl
 | f+1,0,r,p,U,ad=>by
   have:r=[]:=List.length_eq_zero_iff.1 (by omega)
   subst this
   rfl
 | f+1,g+1,[],p,U,ad=>rfl
 | f+1,g+1,c::r,p,U,ad=>by
   simp only [List.length_cons] at U ad
   simp only [kl]
   split
   · exact v7 f g _ _ (by omega) (by omega)
   · split
     · split
       · rfl
       · rename_i n a7
         have:=zg a7
         exact v7 f g _ _ (by rw [List.length_drop,List.length_cons];omega) (by rw [List.length_drop,List.length_cons];omega)
     · split
       · rfl
       · rename_i q aE
         have:=Ex aE
         rw [v7 f g _ _ (by rw [List.length_drop,List.length_cons];omega) (by rw [List.length_drop,List.length_cons];omega)]
theorem Ki (c:UInt8) (r:List UInt8) (p:Nat):nt (c::r) p=if blank c then nt r (p+1) else if ([40,42]:List UInt8).isPrefixOf (c::r) then (match gz (c::r) 0 with
 | none=>.error (253,p)
 | some n=>nt ((c::r).drop n) (p+n))
 else match fy (c::r) with
  | .error e=>.error (e,p)
  | .ok q=>u0 ⟨q.1,q.2.1,p,q.2.2.1⟩ (nt ((c::r).drop q.2.2.2) (p+q.2.2.2)):=by
 unfold nt
 simp only [List.length_cons,kl]
 split
 · rfl
 · split
   · split
     · rfl
     · rename_i n a7
       have:=zg a7
       exact v7 _ _ _ _ (by rw [List.length_drop,List.length_cons];omega) (Nat.le_refl _)
   · split
     · rfl
     · rename_i q aE
       have:=Ex aE
       rw [v7 _ _ _ _ (by rw [List.length_drop,List.length_cons];omega) (Nat.le_refl _)]
theorem FA:∀(f g:Nat) (r:List UInt8),r.length≤f→r.length≤g→r3 f r=r3 g r
 | 0,g,r,U,ad=>by
   have:r=[]:=List.length_eq_zero_iff.1 (by omega)
   subst this
   cases g<;>rfl
 | f+1,0,r,U,ad=>by
   have:r=[]:=List.length_eq_zero_iff.1 (by omega)
   subst this
   rfl
 | f+1,g+1,[],U,ad=>rfl
 | f+1,g+1,c::r,U,ad=>by
   simp only [List.length_cons] at U ad
   simp only [r3]
   split
   · rfl
   · split
     · split
       · rfl
       · rw [FA f g _ (by rw [List.length_drop];omega) (by rw [List.length_drop];omega)]
     · split
       · rfl
       · rw [FA f g _ (by omega) (by omega)]
theorem abL:mJ []=none:=rfl
theorem abK (c:UInt8) (r:List UInt8):mJ (c::r)=if c=34 then some ([],1) else if c=92 then (match l6 r with
 | none=>none
 | some (b,n)=>(mJ (r.drop n)).map fun q=>(b::q.1,q.2+n+1))
 else if c<32∨c=127 then none else (mJ r).map fun q=>(c::q.1,q.2+1):=by
 unfold mJ
 simp only [List.length_cons,r3]
 split
 · rfl
 · split
   · split
     · rfl
     · rw [FA _ _ _ (by rw [List.length_drop];omega) (Nat.le_refl _)]
   · rfl
theorem Ia:∀(l:List UInt8) (a:Nat),a≤l.foldl (fun n c=>10 * n + (c.toNat-48)) a
 | [],a=>Nat.le_refl _
 | c::l,a=>by
   simp only [List.foldl_cons]
   exact Nat.le_trans (by omega) (Ia l _)
def iz (a:Nat) (l:List UInt8):Nat:=l.foldl (fun n c=>10 * n + (c.toNat-48)) a
theorem SR (a:Nat) (c:UInt8) (l:List UInt8):iz a (c::l)=iz (10 * a + (c.toNat-48)) l:=by unfold iz;rw [List.foldl_cons]
theorem ZZ (M:Nat) (cO:M<18446744073709551620) (l:List UInt8):∀(a:Nat),(∀c ∈ l,ec c=true)→(iz a l≤M→Lib.parseUintM M a l=.ok (iz a l))∧(a≤M→¬iz a l≤M→Lib.parseUintM M a l=.range):=by
 induction l with
 | nil=>
   intro a _
   refine ⟨fun _=>?_,fun U ad=>absurd U ad⟩
   simp only [Lib.parseUintM,iz,List.foldl_nil]
 | cons c l VL=>
   intro a h
   have aq:=h c (List.mem_cons_self ..)
   simp only [ec,j8,Bool.and_eq_true,decide_eq_true_eq] at aq
   have TY:48≤c.toNat∧c.toNat≤57:=by omega
   have bh:=VL (10 * a + (c.toNat-48)) (fun x ao=>h x (List.mem_cons_of_mem _ ao))
   have hm:10 * a + (c.toNat-48)≤iz (10 * a + (c.toNat-48)) l:=Ia l (10 * a + (c.toNat-48))
   simp only [Lib.parseUintM,TY,and_self,if_true]
   rw [Nat.mul_comm a 10,SR]
   have kI:10 * a≤10 * a + (c.toNat-48):=Nat.le_add_right _ _
   generalize 10 * a + (c.toNat-48)=A at bh hm kI ⊢
   refine ⟨fun aO=>?_,fun bm hy=>?_⟩
   · rw [if_neg (by omega),if_neg (by omega)]
     exact bh.1 aO
   · by_cases U:1844674407370955162≤a
     · rw [if_pos U]
     · rw [if_neg U]
       by_cases ad:M<A
       · rw [if_pos ad]
       · rw [if_neg ad]
         exact bh.2 (by omega) hy
theorem ZY (l:List UInt8) (h:∀c ∈ l,ec c=true) (aj:l≠[]):(g' l≤18446744073709551615→Lib.parseUintB 64 l=.ok (g' l))∧(¬g' l≤18446744073709551615→Lib.parseUintB 64 l=.range):=by
 unfold Lib.parseUintB
 rw [if_neg aj,show (2 ^ 64-1:Nat)=18446744073709551615 from by decide]
 have:=ZZ 18446744073709551615 (by omega) l 0 h
 exact ⟨this.1,this.2 (Nat.zero_le _)⟩
structure la (s:List UInt8) (p:Nat) (b:aN) (h:ae) (res:pg) (x:V) (aa:ae):Prop where
 mod:Mod (fun q=>q=b) h aa
 res:∃k n t,x=.agg [.int .i64 k,.int .i64 n,.int .i64 0,.str t]∧match res with
  | .ok q=>k=q.1∧n=q.2.1∧t=q.2.2.1∧aa.get b=d_ s ((p+q.2.2.2:Nat):Int) 0∧p+q.2.2.2≤s.length
  | .error e=>e≠0∧∃bf:Int,aa.get b=d_ s bf e
theorem Eu {P:Program}:(dN.iy true 5).run P .nilIface .nilIface=some (.bool false):=rfl
theorem YW {P:Program} (T:TypeId) (x:V):(dN.iy true 5).run P (.iface T x) .nilIface=some (.bool true):=rfl
theorem Mq {p:UInt8→Bool} {l:List UInt8}:∀c ∈ l.takeWhile p,p c=true:=fun c aq=>by
 induction l with
 | nil=>simp at aq
 | cons x l bh=>
   simp only [List.takeWhile_cons] at aq
   split at aq
   · rename_i ao
     rcases List.mem_cons.1 aq with rfl | aq
     · exact ao
     · exact bh aq
   · simp at aq
theorem Mr (p:UInt8→Bool) (s:List UInt8) (a:Nat):((s.drop a).takeWhile p).length≤s.length-a:=by
 have:=Ms p (s.drop a)
 rwa [List.length_drop] at this
theorem Y' (s:List UInt8) (a0:Nat) (b:aN) (h:ae) (af:h.get b=d_ s a0 0) (a6:a0<s.length) (aR:s.length≤100000) (fi:Old h b) (aV:ec s[a0]=true):
 bK Tryz.prog 106 [.ptr b 0] h (la s a0 b h (tK (s.drop a0))):=by
 refine OL rfl (dn ?_)
 unfold Bh
 have ck:(b=aG h.next)=False:=we fi (Nat.le_refl _)
 have cx:(aG h.next=b)=False:=by rw [←ck];exact propext eq_comm
 simp +contextual only [af,ck,cx,↓al,aw,simprocAttr]
 have ao:Ext h (h.new (.bk [.int .i64 0,.int .i64 0,.int .i64 0,.str []] 0 false)):=(Ext.refl h).new _
 refine bV (LW s a0 0 b 105 j8 _ (by rw [ao.get _ fi,af]) (by omega) aR (by decide) (fun c h=>sD c h)) ?_
 rintro x U ⟨rfl,hm,aD⟩
 have h3:(fun c:UInt8=>j8 (c.toNat:Int))=ec:=rfl
 rw [h3] at aD ⊢
 have ri:Mod (fun q=>q=b) h U:=(ao.mod _).trans hm
 have g1:U.get (aG h.next)=.bk [.int .i64 0,.int .i64 0,.int .i64 0,.str []] 0 false:=by
  rw [hm.get _ (gL (by rw [gn];omega)) (by rw [cx];exact id)]
  simp only [↓al,aw,simprocAttr]
 have c2:(s.drop a0).takeWhile ec≠[]:=by
  rw [drop_cons a6,List.takeWhile_cons,aV]
  simp
 have hlen:=Mr ec s a0
 have ag:=ZY ((s.drop a0).takeWhile ec) Mq c2
 unfold d_ at aD
 have rk:tK (s.drop a0)=if 2147483647<g' ((s.drop a0).takeWhile ec) then .error 254 else .ok (1,(if 1073741823 < (g' ((s.drop a0).takeWhile ec):Int) then (g' ((s.drop a0).takeWhile ec):Int)-2147483648 else g' ((s.drop a0).takeWhile ec)),[],((s.drop a0).takeWhile ec).length):=rfl
 rw [rk]
 generalize (s.drop a0).takeWhile ec=t at *
 simp +contextual only [↓al,aw,simprocAttr]
 by_cases vc:g' t≤18446744073709551615
 · refine eO (Z0 t (g' t) (by omega) (ag.1 vc) U) ?_
   generalize g' t=u at *
   by_cases CB:(2147483647:Int) < (u:Int)
   · have sT:2147483647<u:=by omega
     simp +contextual only [Eu,CB,g1,aD,ck,cx,↓al,aw,simprocAttr]
     refine ⟨(ri.set (fun _=>rfl) _).set (fun q=>absurd (show cB (aG h.next)<h.next from q) (by rw [dV];omega)) _,?_⟩
     rw [if_pos sT]
     refine ⟨_,_,_,rfl,by decide,((a0+t.length:Nat):Int),?_⟩
     simp only [d_,ck,cx,↓al,aw,simprocAttr]
   · have sT:¬2147483647<u:=by omega
     have bL:IntKind.i64.wrap (u:Int)=(u:Int):=wrap_i64 (by omega) (by omega)
     have bH:IntKind.i64.wrap ((u:Int)-2147483648)=(u:Int)-2147483648:=wrap_i64 (by omega) (by omega)
     by_cases Iu:(1073741823:Int) < (u:Int)
     · simp +contextual only [Eu,CB,sT,Iu,g1,aD,ck,cx,bL,bH,↓al,aw,simprocAttr]
       refine ⟨(ri.set (fun q=>absurd (show cB (aG h.next)<h.next from q) (by rw [dV];omega)) _),?_⟩
       refine ⟨_,_,_,rfl,rfl,rfl,rfl,?_,by show a0+t.length≤s.length;omega⟩
       simp only [d_,aD,ck,cx,↓al,aw,simprocAttr]
     · simp +contextual only [Eu,CB,sT,Iu,g1,aD,ck,cx,bL,bH,↓al,aw,simprocAttr]
       refine ⟨(ri.set (fun q=>absurd (show cB (aG h.next)<h.next from q) (by rw [dV];omega)) _),?_⟩
       refine ⟨_,_,_,rfl,rfl,rfl,rfl,?_,by show a0+t.length≤s.length;omega⟩
       simp only [d_,aD,ck,cx,↓al,aw,simprocAttr]
 · refine eO (Z2 t (by omega) (ag.2 vc) U) ?_
   have sT:2147483647<g' t:=by omega
   rw [if_pos sT]
   simp +contextual only [YW,g1,aD,ck,cx,↓al,aw,simprocAttr]
   refine ⟨(ri.set (fun _=>rfl) _).set (fun q=>absurd (show cB (aG h.next)<h.next from q) (by rw [dV];omega)) _,?_⟩
   refine ⟨_,_,_,rfl,by decide,((a0+t.length:Nat):Int),?_⟩
   simp only [d_,ck,cx,↓al,aw,simprocAttr]
theorem Mz (c:UInt8):((c.toNat:Int)).toNat.toUInt8=c:=by
 rw [Int.toNat_natCast]
 simp
theorem r5 (c:UInt8) (n:Nat) (a7:n<256):((c.toNat:Int)=(n:Int))=(c=n.toUInt8):=by
 apply propext
 constructor
 · intro q
   have:c.toNat=n:=by omega
   rw [←UInt8.toNat_inj,this]
   simp
   omega
 · intro q
   subst q
   simp
   omega
theorem Sn (c:UInt8):Lib.indexByte [110,116,34,92] c=if c=110 then 0 else if c=116 then 1 else if c=34 then 2 else if c=92 then 3 else -1:=by
 simp only [Lib.indexByte,beq_iff_eq]
 by_cases U:c=110
 · subst U;decide
 · by_cases ad:c=116
   · subst ad;decide
   · by_cases aI:c=34
     · subst aI;decide
     · by_cases bq:c=92
       · subst bq;decide
       · have aF:¬(110:UInt8)=c:=fun q=>U q.symm
         have aM:¬(116:UInt8)=c:=fun q=>ad q.symm
         have cm:¬(34:UInt8)=c:=fun q=>aI q.symm
         have gH:¬(92:UInt8)=c:=fun q=>bq q.symm
         simp only [U,ad,aI,bq,aF,aM,cm,gH,if_false]
         rfl
theorem B_ {c:UInt8} (h:ec c=true):Lib.digitVal c=some (c.toNat-48):=by
 unfold Lib.digitVal
 unfold ec j8 at h
 simp only [Bool.and_eq_true,decide_eq_true_eq] at h
 rw [if_pos (by omega)]
theorem N9 {a b c:UInt8} (U:ec a=true) (ad:ec b=true) (aI:ec c=true):Lib.atoi [a,b,c]=some ((g' [a,b,c]:Nat):Int):=by
 have bm:=U
 unfold ec j8 at bm
 simp only [Bool.and_eq_true,decide_eq_true_eq] at bm
 have c8:(a == 45)=false:=by rw [beq_eq_false_iff_ne];rintro rfl;revert bm;decide
 have kX:(a == 43)=false:=by rw [beq_eq_false_iff_ne];rintro rfl;revert bm;decide
 simp [Lib.atoi,c8,kX,Lib.decNat,Lib.decFrom,B_ U,B_ ad,B_ aI,g']
 omega
theorem Sp (s:List UInt8) (a0:Nat) (b:aN) (h:ae) (af:h.get b=d_ s a0 0) (a6:a0<s.length) (aR:s.length≤100000) (fi:Old h b):
 bK Tryz.prog 118 [.ptr b 0] h fun x aa=>Mod (fun q=>q=b) h aa∧match l6 (s.drop (a0+1)) with
  | some (c,n)=>x=.int .u8 (c.toNat:Int)∧aa.get b=d_ s ((a0+1+n:Nat):Int) 0∧a0+1+n≤s.length
  | none=>x=.int .u8 0∧aa.get b=d_ s ((a0+1:Nat):Int) 252:=by
 refine O9 rfl (dn ?_)
 unfold Bq
 unfold d_ at af ⊢
 have bL:IntKind.i64.wrap ((a0:Int)+1)=((a0+1:Nat):Int):=by rw [wrap_i64 (by omega) (by omega)];rfl
 have f0:(0≤((a0+1:Nat):Int))=True:=eq_true (by omega)
 have f1:(((a0+1:Nat):Int)≤(s.length:Int))=True:=eq_true (by omega)
 have re:(s.drop (a0+1)).length=s.length - (a0+1):=List.length_drop
 have z0:((0:Int)≤0)=True:=eq_true (by omega)
 have lF:∀v,aY.Mod (fun q=>q=b) h ((h.set b v)):=fun v=>(Mod.refl (fun q=>q=b) h).set (fun _=>rfl) _
 cases cn:s.drop (a0+1) with
 | nil=>
   simp +contextual only [af,bL,f0,f1,Int.toNat_natCast,cn,List.length_nil,Int.natCast_zero,↓al,aw,simprocAttr]
   refine ⟨(lF _).set (fun _=>rfl) _,?_⟩
   simp only [l6,dH,if_true,true_and]
 | cons c r=>
   rw [cn] at re
   rw [List.length_cons] at re
   have cE:(c::r=[])=False:=eq_false (by simp)
   have f2:((0:Int) < ((r.length+1:Nat):Int))=True:=eq_true (by omega)
   simp +contextual only [af,bL,f0,f1,f2,cE,Int.toNat_natCast,cn,Int.reduceToNat,z0,↓al,aw,simprocAttr]
   refine eO (JK _ _ _) ?_
   rw [Mz,Sn]
   have bH:IntKind.i64.wrap (((a0+1:Nat):Int)+1)=((a0+2:Nat):Int):=by rw [wrap_i64 (by omega) (by omega)];omega
   by_cases bB:c=110
   · subst bB
     simp +contextual only [af,bL,bH,f0,f1,f2,cE,Int.toNat_natCast,cn,Int.reduceToNat,z0,List.length_cons,List.length_nil,Nat.reduceAdd,Int.reduceLT,Int.cast_ofNat_Int,↓al,aw,simprocAttr]
     refine ⟨(lF _).set (fun _=>rfl) _,rfl,?_⟩
     simp only [dH,if_true]
     refine ⟨trivial,by omega⟩
   by_cases bX:c=116
   · subst bX
     simp +contextual only [af,bL,bH,f0,f1,f2,cE,Int.toNat_natCast,cn,Int.reduceToNat,z0,List.length_cons,List.length_nil,Nat.reduceAdd,Int.reduceLT,Int.cast_ofNat_Int,bB,↓al,aw,simprocAttr]
     refine ⟨(lF _).set (fun _=>rfl) _,rfl,?_⟩
     simp only [dH,if_true]
     refine ⟨trivial,by omega⟩
   by_cases c3:c=34
   · subst c3
     simp +contextual only [af,bL,bH,f0,f1,f2,cE,Int.toNat_natCast,cn,Int.reduceToNat,z0,List.length_cons,List.length_nil,Nat.reduceAdd,Int.reduceLT,Int.cast_ofNat_Int,bB,bX,↓al,aw,simprocAttr]
     refine ⟨(lF _).set (fun _=>rfl) _,rfl,?_⟩
     simp only [dH,if_true]
     refine ⟨trivial,by omega⟩
   by_cases fq:c=92
   · subst fq
     simp +contextual only [af,bL,bH,f0,f1,f2,cE,Int.toNat_natCast,cn,Int.reduceToNat,z0,List.length_cons,List.length_nil,Nat.reduceAdd,Int.reduceLT,Int.cast_ofNat_Int,bB,bX,c3,↓al,aw,simprocAttr]
     refine ⟨(lF _).set (fun _=>rfl) _,rfl,?_⟩
     simp only [dH,if_true]
     refine ⟨trivial,by omega⟩
   match r,cn,re,f2,cE with
   | [],cn,re,f2,cE=>
     simp +contextual only [af,bL,bH,f0,f1,f2,cE,Int.toNat_natCast,cn,Int.reduceToNat,z0,List.length_cons,List.length_nil,Nat.reduceAdd,Int.reduceLT,Int.cast_ofNat_Int,bB,bX,c3,fq,↓al,aw,simprocAttr]
     refine ⟨(lF _).set (fun _=>rfl) _,?_⟩
     simp [l6,bB,bX,c3,fq,dH]
   | [_],cn,re,f2,cE=>
     simp +contextual only [af,bL,bH,f0,f1,f2,cE,Int.toNat_natCast,cn,Int.reduceToNat,z0,List.length_cons,List.length_nil,Nat.reduceAdd,Int.reduceLT,Int.cast_ofNat_Int,bB,bX,c3,fq,↓al,aw,simprocAttr]
     refine ⟨(lF _).set (fun _=>rfl) _,?_⟩
     simp [l6,bB,bX,c3,fq,dH]
   | d1::d2::bo,cn,re,f2,cE=>
     simp only [List.length_cons] at re
     have g3:((3:Int)≤((bo.length+3:Nat):Int))=True:=eq_true (by omega)
     have g2:((2:Int) < ((bo.length+3:Nat):Int))=True:=eq_true (by omega)
     have g1:((1:Int) < ((bo.length+3:Nat):Int))=True:=eq_true (by omega)
     have g0:((0:Int) < ((bo.length+3:Nat):Int))=True:=eq_true (by omega)
     have em:l6 (c::d1::d2::bo)=if ec c∧ec d1∧ec d2∧g' [c,d1,d2]<256 then some ((g' [c,d1,d2]).toUInt8,3) else none:=by
      simp [l6,bB,bX,c3,fq]
     rw [em]
     simp +contextual only [af,bL,bH,f0,f1,g0,g1,g2,g3,cE,Int.toNat_natCast,cn,Int.reduceToNat,z0,List.length_cons,List.length_nil,Nat.reduceAdd,Int.reduceLT,Int.cast_ofNat_Int,bB,bX,c3,fq,↓al,aw,simprocAttr]
     refine eO (sD _ _) ?_
     have dg:∀x:UInt8,j8 (x.toNat:Int)=ec x:=fun _=>rfl
     simp only [dg]
     cases T5:ec c with
     | false=>
       simp +contextual only [af,bL,bH,f0,f1,g0,g1,g2,g3,cE,Int.toNat_natCast,cn,Int.reduceToNat,z0,List.length_cons,List.length_nil,Nat.reduceAdd,Int.reduceLT,Int.cast_ofNat_Int,bB,bX,c3,fq,false_and,Bool.false_eq_true,↓al,aw,simprocAttr]
       exact (lF _).set (fun _=>rfl) _
     | true=>
       simp +contextual only [af,bL,bH,f0,f1,g0,g1,g2,g3,cE,Int.toNat_natCast,cn,Int.reduceToNat,z0,List.length_cons,List.length_nil,Nat.reduceAdd,Int.reduceLT,Int.cast_ofNat_Int,bB,bX,c3,fq,↓al,aw,simprocAttr]
       refine eO (sD _ _) ?_
       simp only [dg]
       cases yo:ec d1 with
       | false=>
         simp +contextual only [af,bL,bH,f0,f1,g0,g1,g2,g3,cE,Int.toNat_natCast,cn,Int.reduceToNat,z0,List.length_cons,List.length_nil,Nat.reduceAdd,Int.reduceLT,Int.cast_ofNat_Int,bB,bX,c3,fq,false_and,and_false,Bool.false_eq_true,↓al,aw,simprocAttr]
         exact (lF _).set (fun _=>rfl) _
       | true=>
         simp +contextual only [af,bL,bH,f0,f1,g0,g1,g2,g3,cE,Int.toNat_natCast,cn,Int.reduceToNat,z0,List.length_cons,List.length_nil,Nat.reduceAdd,Int.reduceLT,Int.cast_ofNat_Int,bB,bX,c3,fq,↓al,aw,simprocAttr]
         refine eO (sD _ _) ?_
         simp only [dg]
         cases yp:ec d2 with
         | false=>
           simp +contextual only [af,bL,bH,f0,f1,g0,g1,g2,g3,cE,Int.toNat_natCast,cn,Int.reduceToNat,z0,List.length_cons,List.length_nil,Nat.reduceAdd,Int.reduceLT,Int.cast_ofNat_Int,bB,bX,c3,fq,false_and,and_false,Bool.false_eq_true,↓al,aw,simprocAttr]
           exact (lF _).set (fun _=>rfl) _
         | true=>
           have z3:((0:Int)≤3)=True:=eq_true (by omega)
           simp +contextual only [af,bL,bH,f0,f1,g0,g1,g2,g3,z3,cE,Int.toNat_natCast,cn,Int.reduceToNat,z0,List.length_cons,List.length_nil,Nat.reduceAdd,Int.reduceLT,Int.cast_ofNat_Int,bB,bX,c3,fq,↓al,aw,simprocAttr]
           refine eO (N' [c,d1,d2] _ (by simp) (N9 T5 yo yp) _) ?_
           have lP:IntKind.i64.wrap (((a0+1:Nat):Int)+3)=((a0+4:Nat):Int):=by rw [wrap_i64 (by omega) (by omega)];omega
           generalize bw:g' [c,d1,d2]=v
           by_cases Ju:(v:Int)<256
           · have hK:IntKind.u8.wrap (v:Int)=((v.toUInt8).toNat:Int):=by
              simp [IntKind.wrap,IntKind.bits,IntKind.signed]
             have DT:v<256:=by omega
             simp +contextual only [af,bL,bH,lP,hK,f0,f1,g0,g1,g2,g3,cE,Ju,DT,Int.toNat_natCast,cn,Int.reduceToNat,z0,List.length_cons,List.length_nil,Nat.reduceAdd,Int.reduceLT,Int.cast_ofNat_Int,bB,bX,c3,fq,and_self,true_and,↓al,aw,simprocAttr]
             refine ⟨(lF _).set (fun _=>rfl) _,?_⟩
             first | omega | (refine ⟨?_,by omega⟩;simp [dH]) | skip
           · have DT:¬v<256:=by omega
             simp +contextual only [af,bL,bH,lP,f0,f1,g0,g1,g2,g3,cE,Ju,DT,Int.toNat_natCast,cn,Int.reduceToNat,z0,List.length_cons,List.length_nil,Nat.reduceAdd,Int.reduceLT,Int.cast_ofNat_Int,bB,bX,c3,fq,and_false,↓al,aw,simprocAttr]
             exact (lF _).set (fun _=>rfl) _
theorem ab3 (c:UInt8) (n:Nat) (a7:n<256):((c.toNat:Int) < (n:Int))=(c<n.toUInt8):=by
 apply propext
 rw [UInt8.lt_iff_toNat_lt]
 have:(n.toUInt8).toNat=n:=by simp;omega
 rw [this]
 omega
theorem abM (s:List UInt8) (a0:Nat) (b:aN) (h:ae) (af:h.get b=d_ s a0 0) (a6:a0<s.length) (aR:s.length≤100000) (fi:Old h b):
 bK Tryz.prog 107 [.ptr b 0] h (la s a0 b h (oX (s.drop (a0+1)))):=by
 refine OO rfl (dn ?_)
 unfold Bi
 have ck:(b=aG h.next)=False:=we fi (Nat.le_refl _)
 have cx:(aG h.next=b)=False:=by rw [←ck];exact propext eq_comm
 have bL:IntKind.i64.wrap ((a0:Int)+1)=((a0+1:Nat):Int):=by rw [wrap_i64 (by omega) (by omega)];rfl
 unfold d_ at af
 simp +contextual only [af,ck,cx,bL,↓al,aw,simprocAttr]
 have tJ:∀{v:V} {aa:ae} {n:Nat} {us:List V},du (h.next+1) aa 1 v n us→∀q,v.bd q→¬(fun q=>q=b) q:=by
  intro v aa n us ft q aE he
  have U:=ft.base aE
  rw [show q=b from he] at U
  have ad:cB b<h.next:=fi
  omega
 have Oq:∀{v:V} {aa:ae} {n:Nat} {us:List V},du (h.next+1) aa 1 v n us→∀i,i<h.next+1→¬v.bd (aG i):=by
  intro v aa n us ft i aC aE
  have U:=ft.base aE
  rw [dV] at U
  omega
 refine hj (fun r aa=>r 0=.ptr b 0∧r 2=.ptr (aG h.next) 0∧∃(a:Nat) (e:Int) (dX:List UInt8) (v:V),r 3=v∧aa.get b=.bk [.str s,.int .i64 a,.int .i64 e] 0 false∧a≤s.length∧a0+1≤a∧dX.length≤a∧
  aa.get (aG h.next)=.bk [.int .i64 0,.int .i64 0,.int .i64 0,.str []] 0 false∧Mod (fun q=>q=b) h aa∧h.next+1≤aa.next∧du (h.next+1) aa 1 v dX.length (gu dX)∧
  ((e=0∧mJ (s.drop (a0+1))=(mJ (s.drop a)).map fun q=>(dX++q.1,q.2 + (a - (a0+1))))∨(e=252∧mJ (s.drop (a0+1))=none)))
  (fun r aa=>(s.length - ((gV (aa.get b) 1).getD .bad).toN) + (252 - ((gV (aa.get b) 2).getD .bad).toN)) ?_ ?_
 · refine ⟨by simp only [ck,cx,↓al,aw,simprocAttr],by simp only [ck,cx,↓al,aw,simprocAttr],a0+1,0,[],.cq,by simp only [ck,cx,↓al,aw,simprocAttr],by simp only [ck,cx,↓al,aw,simprocAttr],by omega,by omega,by simp,by simp only [ck,cx,↓al,aw,simprocAttr],?_,?_,⟨rfl,rfl⟩,.inl ⟨rfl,?_⟩⟩
   · exact (((Ext.refl h).new _).mod (fun q=>q=b)).self _
   · rw [mA,gn];exact Nat.le_refl _
   · rw [Nat.sub_self]
     cases mJ (s.drop (a0+1))<;>rfl
 · rintro r aa ⟨bx,cV,a,e,dX,v,b3,aD,b6,nq,tw,bn,hm,jJ,ft,bg⟩
   unfold GP
   have Jb:Old aa b:=hm.b2 fi
   have fin:∀(ad:ae) (bf:Int),mJ (s.drop (a0+1))=none→Mod (fun q=>q=b) h ad→ad.get b=.bk [.str s,.int .i64 bf,.int .i64 252] 0 false→
    la s a0 b h (oX (s.drop (a0+1))) (.agg [.int .i64 0,.int .i64 0,.int .i64 0,.str []]) (ad.set (aG h.next) (.bk [.int .i64 0,.int .i64 0,.int .i64 0,.str []] 0 false)):=by
    intro ad bf a7 kN q7
    unfold oX
    rw [a7]
    refine ⟨kN.set (fun q=>absurd (show cB (aG h.next)<h.next from q) (by rw [dV];omega)) _,_,_,_,rfl,by decide,bf,?_⟩
    rw [dH,if_neg (by rw [cx];exact id),q7]
    rfl
   have step:∀(ad:ae),Mod (fun q=>q=b) h ad→aa.next≤ad.next→du (h.next+1) ad 1 v dX.length (gu dX)→∀(c:UInt8),∃v3 aI,lU 1 v (.slice (aG ad.next) 0 1 1) (ad.new (.bk [.int .u8 (c.toNat:Int)] 0 false))=.val v3 aI∧du (h.next+1) aI 1 v3 (dX++[c]).length (gu (dX++[c]))∧Mod (fun q=>q=b) h aI∧h.next+1≤aI.next∧aI.get b=ad.get b∧aI.get (aG h.next)=ad.get (aG h.next):=by
    intro ad kN adq iB c
    obtain ⟨v3,aI,ai,ay,aK,bE,dr⟩:=xt (cs:=[.int .u8 (c.toNat:Int)]) (by omega) iB (by omega) (by unfold top;omega) rfl rfl
    refine ⟨v3,aI,ai,by rw [List.length_append,GN];exact ay,kN.abP aK (fun q aE=>Nat.le_trans (Nat.le_succ _) (iB.base aE)),by omega,?_,?_⟩
    · exact aK.get _ (kN.b2 fi) (fun aE=>tJ iB _ aE rfl)
    · exact aK.get _ (gL (by omega)) (Oq iB _ (by omega))
   rcases bg with ⟨rfl,bg⟩ | ⟨rfl,bg⟩
   · by_cases eP:(s.length:Int)≤(a:Int)
     · have bm:a=s.length:=by omega
       rw [bm,List.drop_length,abL] at bg
       simp +contextual only [bx,cV,b3,aD,eP,bn,ck,cx,↓al,aw,simprocAttr]
       exact fin _ _ bg (hm.set (fun _=>rfl) _) (by rw [dH,if_pos rfl])
     · have aO:a<s.length:=by omega
       rw [drop_cons aO,abK] at bg
       have f0:(0≤(a:Int))=True:=eq_true (by omega)
       have f1:((a:Int) < (s.length:Int))=True:=eq_true (by omega)
       have bH:IntKind.i64.wrap ((a:Int)+1)=((a+1:Nat):Int):=by rw [wrap_i64 (by omega) (by omega)];rfl
       have ha:(((s[a]).toNat:Int)=34)=(s[a]=34):=r5 _ 34 (by omega)
       have Cf:(((s[a]).toNat:Int)=92)=(s[a]=92):=r5 _ 92 (by omega)
       have HF:(((s[a]).toNat:Int)=127)=(s[a]=127):=r5 _ 127 (by omega)
       have J2:(((s[a]).toNat:Int)<32)=(s[a]<32):=ab3 _ 32 (by omega)
       by_cases bB:s[a]=34
       · rw [if_pos bB] at bg
         replace bB:(s[a]=34)=True:=eq_true bB
         simp only [Option.map_some,List.append_nil] at bg
         by_cases vc:(4096:Int) < (dX.length:Int)
         · have iB:∀k cz,du (h.next+1) ((aa.set b k).set b cz) 1 v dX.length (gu dX):=fun k cz=>ft.mod (((Mod.refl (fun q=>q=b) aa).set (fun _=>rfl) _).set (fun _=>rfl) _) (tJ ft)
           simp +contextual only [bx,cV,b3,aD,eP,bn,ck,cx,f0,f1,bH,ha,bB,ft.v.len,vc,Hg (iB _ _),List.getElem?_eq_getElem aO,Int.toNat_natCast,↓al,aw,simprocAttr]
           refine ⟨((hm.set (fun _=>rfl) _).set (fun _=>rfl) _).set (fun q=>absurd (show cB (aG h.next)<h.next from q) (by rw [dV];omega)) _,_,_,_,rfl,?_⟩
           unfold oX
           rw [bg]
           simp only
           rw [if_pos (by omega)]
           refine ⟨by decide,((a+1:Nat):Int),?_⟩
           simp only [d_,ck,cx,↓al,aw,simprocAttr]
         · have iB:∀k,du (h.next+1) (aa.set b k) 1 v dX.length (gu dX):=fun k=>ft.mod ((Mod.refl (fun q=>q=b) aa).set (fun _=>rfl) _) (tJ ft)
           simp +contextual only [bx,cV,b3,aD,eP,bn,ck,cx,f0,f1,bH,ha,bB,ft.v.len,vc,Hg (iB _),List.getElem?_eq_getElem aO,Int.toNat_natCast,↓al,aw,simprocAttr]
           refine ⟨(hm.set (fun _=>rfl) _).set (fun q=>absurd (show cB (aG h.next)<h.next from q) (by rw [dV];omega)) _,_,_,_,rfl,?_⟩
           unfold oX
           rw [bg]
           simp only
           rw [if_neg (by omega)]
           refine ⟨rfl,rfl,rfl,?_,?_⟩
           · simp only [d_,ck,cx,↓al,aw,simprocAttr]
             rw [show a0 + (1 + (a - (a0+1))+1)=a+1 from by omega]
           · simp only;omega
       rw [if_neg bB] at bg
       by_cases bX:s[a]=92
       · rw [if_pos bX] at bg
         replace bX:(s[a]=92)=True:=eq_true bX
         simp +contextual only [bx,cV,b3,aD,eP,bn,ck,cx,f0,f1,bH,ha,Cf,bB,bX,List.getElem?_eq_getElem aO,Int.toNat_natCast,↓al,aw,simprocAttr]
         refine bV (Sp s a b aa aD aO aR Jb) ?_
         rintro x ad ⟨kN,ao⟩
         have iB:=ft.mod kN (tJ ft)
         have nn:ad.get (aG h.next)=.bk [.int .i64 0,.int .i64 0,.int .i64 0,.str []] 0 false:=by
          rw [kN.get _ (gL (by omega)) (by rw [cx];exact id),bn]
         have wh:=kN.next
         obtain ⟨c,aq,th⟩:∃c:UInt8,x=.int .u8 (c.toNat:Int)∧((∃n,l6 (s.drop (a+1))=some (c,n)∧ad.get b=d_ s ((a+1+n:Nat):Int) 0∧a+1+n≤s.length)∨(l6 (s.drop (a+1))=none∧ad.get b=d_ s ((a+1:Nat):Int) 252)):=by
          cases s7:l6 (s.drop (a+1)) with
          | none=>rw [s7] at ao;exact ⟨0,ao.1,.inr ⟨rfl,ao.2⟩⟩
          | some q=>rw [s7] at ao;exact ⟨q.1,ao.1,.inl ⟨q.2,rfl,ao.2⟩⟩
         subst aq
         obtain ⟨v3,aI,ai,ay,aK,bE,dr,eS⟩:=step ad (hm.trans kN) wh iB c
         have Lz:du (h.next+1) aI 1 v3 (dX.length+1) (gu (dX++[c])):=by rw [List.length_append] at ay;exact ay
         have vJ:aI.get (aG h.next)=.bk [.int .i64 0,.int .i64 0,.int .i64 0,.str []] 0 false:=by rw [eS,nn]
         unfold d_ at th
         rcases th with ⟨n,s7,q7,hle⟩ | ⟨s7,q7⟩
         · simp +contextual only [ai,bx,cV,aD,q7,dr,ck,cx,↓al,aw,simprocAttr]
           rw [s7] at bg
           simp only at bg
           refine ⟨⟨a+1+n,0,dX++[c],rfl,hle,by omega,by simp;omega,vJ,aK,bE,ay,.inl ⟨rfl,?_⟩⟩,by omega⟩
           rw [bg,List.drop_drop,Option.map_map]
           congr 1
           funext q
           simp only [Function.comp,List.append_assoc,List.singleton_append,Prod.mk.injEq,true_and]
           omega
         · simp +contextual only [ai,bx,cV,aD,q7,dr,ck,cx,↓al,aw,simprocAttr]
           rw [s7] at bg
           exact ⟨⟨a+1,252,dX++[c],rfl,by omega,by omega,by simp;omega,vJ,aK,bE,ay,.inr ⟨rfl,bg⟩⟩,by omega⟩
       rw [if_neg bX] at bg
       by_cases c3:s[a]<32∨s[a]=127
       · rw [if_pos c3] at bg
         have lY:(decide (s[a]<32)||decide (s[a]=127))=true:=by simpa using c3
         simp +contextual only [bx,cV,b3,aD,eP,bn,ck,cx,f0,f1,bH,ha,Cf,HF,J2,bB,bX,lY,List.getElem?_eq_getElem aO,Int.toNat_natCast,↓al,aw,simprocAttr]
         exact ⟨⟨a,252,dX,rfl,b6,nq,tw,hm.self _,jJ,ft.mod ((Mod.refl (fun q=>q=b) aa).self _) (tJ ft),.inr ⟨rfl,bg⟩⟩,by omega⟩
       · rw [if_neg c3] at bg
         have lY:(decide (s[a]<32)||decide (s[a]=127))=false:=by simpa using c3
         obtain ⟨v3,aI,ai,ay,aK,bE,dr,eS⟩:=step (aa.set b (.bk [.str s,.int .i64 ((a+1:Nat):Int),.int .i64 0] 0 false)) (hm.self _) (by rw [mA];exact Nat.le_refl _) (ft.mod ((Mod.refl (fun q=>q=b) aa).self _) (tJ ft)) s[a]
         simp only [mA,dH,ck,cx,if_true,if_false] at ai dr eS
         simp +contextual only [ai,bx,cV,b3,aD,eP,bn,ck,cx,f0,f1,bH,ha,Cf,HF,J2,bB,bX,lY,dr,List.getElem?_eq_getElem aO,Int.toNat_natCast,↓al,aw,simprocAttr]
         refine ⟨⟨a+1,0,dX++[s[a]],rfl,by omega,by omega,by simp;omega,by rw [eS,bn],aK,bE,ay,.inl ⟨rfl,?_⟩⟩,by omega⟩
         rw [bg,Option.map_map]
         congr 1
         funext q
         simp only [Function.comp,List.append_assoc,List.singleton_append,Prod.mk.injEq,true_and]
         omega
   · simp +contextual only [bx,cV,b3,aD,bn,ck,cx,↓al,aw,simprocAttr]
     exact fin _ _ bg hm aD
def Eb:List UInt8:=[32,97,110,100,32,98,101,103,105,110,32,101,108,115,101,32,101,110,100,32,101,120,99,101,112,116,105,111,110,32,102,97,108,115,101,32,102,117,110,32,105,102,32,105,110,32,108,101,116,32,109,97,116,99,104,32,109,111,100,32,111,102,32,114,97,105,115,101,32,114,101,99,32,116,104,101,110,32,116,114,117,101,32,116,114,121,32,116,121,112,101,32,119,105,116,104,32]
def pr:List (List UInt8)→List UInt8
 | []=>[32]
 | w::L=>32::(w++pr L)
theorem SL:pr pQ=Eb:=by decide
theorem SK (L:List (List UInt8)):∃r,pr L=32::r:=by cases L<;>exact ⟨_,rfl⟩
theorem index_ge (sub:List UInt8):∀l:List UInt8,-1≤Lib.index l sub
 | []=>by simp only [Lib.index];split<;>decide
 | b::l=>by
   have:=index_ge sub l
   simp only [Lib.index]
   split
   · decide
   · split<;>omega
theorem JM (sub:List UInt8) (b:UInt8) (l:List UInt8):(0≤Lib.index (b::l) sub)↔(sub.isPrefixOf (b::l)=true∨0≤Lib.index l sub):=by
 have:=index_ge sub l
 simp only [Lib.index]
 split
 · rename_i h;simp [h]
 · rename_i h
   split
   · rename_i ad
     have:Lib.index l sub=-1:=by simpa using ad
     simp [h,this]
   · rename_i ad
     have aI:¬Lib.index l sub=-1:=by simpa using ad
     simp only [h,Bool.false_eq_true,false_or]
     omega
theorem JO (x:List UInt8) (r:List UInt8):∀w:List UInt8,(32:UInt8) ∉ w→((0≤Lib.index (w++r) (32::x))↔0≤Lib.index r (32::x))
 | [],_=>Iff.rfl
 | b::w,h=>by
   rw [List.cons_append,JM,JO x r w (fun q=>h (List.mem_cons_of_mem _ q))]
   have af:((32:UInt8) == b)=false:=by rw [beq_eq_false_iff_ne];rintro rfl;exact h (List.mem_cons_self ..)
   simp [List.isPrefixOf,af]
theorem Lk (r:List UInt8):∀(t w:List UInt8),(32:UInt8) ∉ t→(32:UInt8) ∉ w→((t++[32]).isPrefixOf (w++32::r)=true↔t=w)
 | [],[],_,_=>by simp [List.isPrefixOf]
 | [],b::w,_,h=>by
   have af:((32:UInt8) == b)=false:=by rw [beq_eq_false_iff_ne];rintro rfl;exact h (List.mem_cons_self ..)
   simp [List.isPrefixOf,af]
 | a::t,[],h,_=>by
   have af:(a == (32:UInt8))=false:=by rw [beq_eq_false_iff_ne];rintro rfl;exact h (List.mem_cons_self ..)
   simp [List.isPrefixOf,af]
 | a::t,b::w,h,aa=>by
   have bh:=Lk r t w (fun q=>h (List.mem_cons_of_mem _ q)) (fun q=>aa (List.mem_cons_of_mem _ q))
   simp only [List.cons_append,List.isPrefixOf,Bool.and_eq_true,beq_iff_eq,bh,List.cons.injEq]
theorem JN (t:List UInt8) (aB:(32:UInt8) ∉ t):∀L:List (List UInt8),(∀w ∈ L,(32:UInt8) ∉ w)→((0≤Lib.index (pr L) (32::(t++[32])))↔t ∈ L)
 | [],_=>by
   cases t<;>simp [pr,Lib.index,List.isPrefixOf]
 | w::L,h=>by
   have bh:=JN t aB L (fun x ao=>h x (List.mem_cons_of_mem _ ao))
   have hw:=h w (List.mem_cons_self ..)
   obtain ⟨r,aH⟩:=SK L
   simp only [pr]
   rw [JM,JO _ _ _ hw,bh,List.mem_cons]
   have:(32::(t++[32])).isPrefixOf (32::(w++pr L))=(t++[32]).isPrefixOf (w++pr L):=by simp [List.isPrefixOf]
   rw [this,aH,Lk r t w aB hw]
theorem RH (t:List UInt8) (aB:(32:UInt8) ∉ t):Lib.contains Eb (32::(t++[32]))=lz t:=by
 have:=JN t aB pQ (by decide)
 rw [SL] at this
 unfold Lib.contains lz
 rw [Bool.eq_iff_iff,decide_eq_true_eq,this]
 simp
theorem YD {l:List UInt8}:(32:UInt8) ∉ l.takeWhile ee:=fun h=>by
 have:=Mq _ h
 revert this
 decide
theorem za (s:List UInt8) (a0:Nat) (k:Int) (b:aN) (h:ae) (af:h.get b=d_ s a0 0) (a6:a0≤s.length) (aR:s.length≤100000) (fi:Old h b):
 bK Tryz.prog 109 [.ptr b 0,.int .i64 k] h (la s a0 b h (hU k (s.drop a0))):=by
 refine OU rfl (dn ?_)
 unfold Bk
 have ck:(b=aG h.next)=False:=we fi (Nat.le_refl _)
 have cx:(aG h.next=b)=False:=by rw [←ck];exact propext eq_comm
 simp +contextual only [af,ck,cx,↓al,aw,simprocAttr]
 have ao:Ext h (h.new (.bk [.int .i64 0,.int .i64 0,.int .i64 0,.str []] 0 false)):=(Ext.refl h).new _
 refine bV (LW s a0 0 b 119 pS _ (by rw [ao.get _ fi,af]) a6 aR (by decide) (fun c h=>Yp c h)) ?_
 rintro x U ⟨rfl,hm,aD⟩
 have h3:(fun c:UInt8=>pS (c.toNat:Int))=ee:=rfl
 rw [h3] at aD ⊢
 have ri:Mod (fun q=>q=b) h U:=(ao.mod _).trans hm
 have g1:U.get (aG h.next)=.bk [.int .i64 0,.int .i64 0,.int .i64 0,.str []] 0 false:=by
  rw [hm.get _ (gL (by rw [gn];omega)) (by rw [cx];exact id)]
  simp only [↓al,aw,simprocAttr]
 have hlen:=Mr ee s a0
 have Tv:(32:UInt8) ∉ (s.drop a0).takeWhile ee:=YD
 unfold d_ at aD
 have rk:hU k (s.drop a0)=if k=3∧(s.drop a0).takeWhile ee=[95] then .ok (7,0,(s.drop a0).takeWhile ee,((s.drop a0).takeWhile ee).length) else if k=3∧lz ((s.drop a0).takeWhile ee) then .ok (6,0,(s.drop a0).takeWhile ee,((s.drop a0).takeWhile ee).length) else if 64 < ((s.drop a0).takeWhile ee).length then .error 255 else .ok (k,0,(s.drop a0).takeWhile ee,((s.drop a0).takeWhile ee).length):=rfl
 rw [rk]
 generalize (s.drop a0).takeWhile ee=t at *
 have zi:∀(cc:Int),la s a0 b h (.ok (cc,0,t,t.length)) (.agg [.int .i64 cc,.int .i64 0,.int .i64 0,.str t]) (U.set (aG h.next) (.bk [.int .i64 cc,.int .i64 0,.int .i64 0,.str t] 0 false)):=by
  intro cc
  refine ⟨ri.fresh (Nat.le_refl _) _,_,_,_,rfl,rfl,rfl,rfl,?_,by show a0+t.length≤s.length;omega⟩
  rw [dH,if_neg (by rw [cx];exact id),aD]
  rfl
 have tail:(64<t.length→la s a0 b h (.error 255) (.agg [.int .i64 k,.int .i64 0,.int .i64 0,.str t]) ((U.set b (.bk [.str s,.int .i64 ((a0+t.length:Nat):Int),.int .i64 255] 0 false)).set (aG h.next) (.bk [.int .i64 k,.int .i64 0,.int .i64 0,.str t] 0 false))):=by
  intro aj
  refine ⟨(ri.self _).fresh (Nat.le_refl _) _,_,_,_,rfl,by decide,((a0+t.length:Nat):Int),?_⟩
  simp only [d_,ck,cx,↓al,aw,simprocAttr]
 by_cases az:k=3
 · subst az
   by_cases hu:t=[95]
   · simp +contextual only [g1,aD,ck,cx,hu,true_and,↓al,aw,simprocAttr]
     subst hu
     exact zi 7
   · have t1:(1+t.length≤top)=True:=eq_true (by unfold top;omega)
     have t2:(t.length+1+1≤top)=True:=eq_true (by unfold top;omega)
     simp only [top] at t1 t2
     simp +contextual only [g1,aD,ck,cx,hu,true_and,List.length_append,t1,t2,↓al,aw,simprocAttr]
     refine eO (RG Eb (32::(t++[32])) (by decide) _) ?_
     rw [RH t Tv]
     cases Dg:lz t with
     | true=>
       simp +contextual only [g1,aD,ck,cx,hu,true_and,and_false,Dg,List.length_append,t1,t2,↓al,aw,simprocAttr]
       exact zi 6
     | false=>
       by_cases aj:64<t.length
       · have en:(64:Int) < (t.length:Int):=by omega
         simp +contextual only [g1,aD,ck,cx,hu,aj,en,true_and,and_false,Dg,List.length_append,t1,t2,Bool.false_eq_true,↓al,aw,simprocAttr]
         exact tail aj
       · have en:¬(64:Int) < (t.length:Int):=by omega
         simp +contextual only [g1,aD,ck,cx,hu,aj,en,true_and,and_false,Dg,List.length_append,t1,t2,Bool.false_eq_true,↓al,aw,simprocAttr]
         exact zi 3
 · by_cases aj:64<t.length
   · have en:(64:Int) < (t.length:Int):=by omega
     simp +contextual only [g1,aD,ck,cx,az,aj,en,false_and,↓al,aw,simprocAttr]
     exact tail aj
   · have en:¬(64:Int) < (t.length:Int):=by omega
     simp +contextual only [g1,aD,ck,cx,az,aj,en,false_and,↓al,aw,simprocAttr]
     exact zi k
def ue:List V:=hq.map V.str
theorem aa7 (h:ae):bK Tryz.prog 111 [] h fun x aa=>x=.slice (aG h.next) 0 17 17∧aa=h.new (.bk ue 0 false):=by
 refine O0 rfl (dn ?_)
 unfold Bn
 simp +contextual only [↓al,aw,simprocAttr]
 rfl
theorem aa5 {i:Nat} (aC:i<17):ue[i]? =some (.str (hq[i]'aC)):=by
 unfold ue
 rw [List.getElem?_map,List.getElem?_eq_getElem (show i<hq.length from aC)]
 rfl
theorem SI (p:List UInt8→Bool) {i:Nat} (aC:i<17):(hq.drop i).find? p=if p (hq[i]'aC) then some (hq[i]'aC) else (hq.drop (i+1)).find? p:=by
 rw [List.drop_eq_getElem_cons (show i<hq.length from aC),List.find?_cons]
 cases p hq[i]<;>rfl
theorem la.store {s:List UInt8} {p:Nat} {b:aN} {h:ae} {z cz:bS} {res:pg} {x:V} {U:ae} (w:la s p b (h.new z) res x U) (fi:Old h b):la s p b h res x (U.set (aG h.next) cz):=by
 have cx:¬(aG h.next=b):=by
  intro q
  have:cB b<h.next:=fi
  rw [←q,dV] at this
  omega
 obtain ⟨hm,k,n,t,ao,aH⟩:=w
 refine ⟨((((Ext.refl h).new z).mod _).trans hm).fresh (Nat.le_refl _) _,k,n,t,ao,?_⟩
 cases res with
 | ok q=>simpa only [dH,if_neg cx] using aH
 | error e=>simpa only [dH,if_neg cx] using aH
theorem Y2 (s:List UInt8) (a0:Nat) (b:aN) (h:ae) (af:h.get b=d_ s a0 0) (a6:a0<s.length) (aR:s.length≤100000) (fi:Old h b):
 bK Tryz.prog 95 [.ptr b 0] h (la s a0 b h (fy (s.drop a0))):=by
 refine Q1 rfl (dn ?_)
 unfold B0
 have ck:(b=aG h.next)=False:=we fi (Nat.le_refl _)
 have cx:(aG h.next=b)=False:=by rw [←ck];exact propext eq_comm
 have gI:=af
 unfold d_ at af
 have f0:(0≤(a0:Int))=True:=eq_true (by omega)
 have f1:((a0:Int) < (s.length:Int))=True:=eq_true (by omega)
 have ao:Ext h (h.new (.bk [.int .i64 0,.int .i64 0,.int .i64 0,.str []] 0 false)):=(Ext.refl h).new _
 have tc:Old (h.new (.bk [.int .i64 0,.int .i64 0,.int .i64 0,.str []] 0 false)) b:=ao.b2 fi
 have ve:(h.new (.bk [.int .i64 0,.int .i64 0,.int .i64 0,.str []] 0 false)).get b=d_ s a0 0:=by rw [ao.get _ fi,gI]
 have sS:∀{res:pg} {x:V} {U:ae},la s a0 b (h.new (.bk [.int .i64 0,.int .i64 0,.int .i64 0,.str []] 0 false)) res x U→U.get (aG h.next)=.bk [.int .i64 0,.int .i64 0,.int .i64 0,.str []] 0 false:=by
  intro res x U w
  rw [w.mod.get _ (gL (by rw [gn];omega)) (by rw [cx];exact id)]
  simp only [↓al,aw,simprocAttr]
 have aV:=drop_cons a6
 rw [aV]
 have dg:j8 ((s[a0]).toNat:Int)=ec s[a0]:=rfl
 have ha:(((s[a0]).toNat:Int)=34)=(s[a0]=34):=r5 _ 34 (by omega)
 have po:(((s[a0]).toNat:Int)=95)=(s[a0]=95):=r5 _ 95 (by omega)
 have sG:(((s[a0]).toNat:Int)=39)=(s[a0]=39):=r5 _ 39 (by omega)
 simp +contextual only [af,ck,cx,f0,f1,List.getElem?_eq_getElem a6,Int.toNat_natCast,↓al,aw,simprocAttr]
 refine eO (sD _ _) ?_
 rw [dg]
 cases U:ec s[a0] with
 | true=>
   have di:fy (s[a0]::s.drop (a0+1))=tK (s.drop a0):=by rw [aV];simp only [fy,U,if_true]
   rw [di]
   simp +contextual only [af,ck,cx,f0,f1,List.getElem?_eq_getElem a6,Int.toNat_natCast,↓al,aw,simprocAttr]
   refine bV (Y' s a0 b _ ve a6 aR tc U) ?_
   rintro x ag w
   have g1:=sS w
   obtain ⟨k,n,t,rfl,_⟩:=w.res
   simp +contextual only [g1,af,ck,cx,f0,f1,↓al,aw,simprocAttr]
   exact w.store fi
 | false=>
   by_cases ad:s[a0]=34
   · have di:fy (s[a0]::s.drop (a0+1))=oX (s.drop (a0+1)):=by simp only [fy];rw [if_neg (by rw [U];exact Bool.false_ne_true),if_pos ad]
     rw [di]
     replace ad:=eq_true ad
     simp +contextual only [af,ck,cx,f0,f1,ha,ad,List.getElem?_eq_getElem a6,Int.toNat_natCast,↓al,aw,simprocAttr]
     refine bV (abM s a0 b _ ve a6 aR tc) ?_
     rintro x ag w
     have g1:=sS w
     obtain ⟨k,n,t,rfl,_⟩:=w.res
     simp +contextual only [g1,af,ck,cx,f0,f1,↓al,aw,simprocAttr]
     exact w.store fi
   simp +contextual only [af,ck,cx,f0,f1,ha,ad,List.getElem?_eq_getElem a6,Int.toNat_natCast,↓al,aw,simprocAttr]
   refine eO (z7 _ _) ?_
   by_cases aI:(fz ((s[a0]).toNat:Int)||decide (s[a0]=95))=true
   · have di:fy (s[a0]::s.drop (a0+1))=hU 3 (s.drop a0):=by rw [aV];simp only [fy,U,ad,aI,Bool.false_eq_true,if_false,if_true]
     rw [di]
     have fin:mS Tryz.prog 109 [.ptr b 0,.int .i64 3] (some 33) none [] [] (fun _=>.bad) h (fun _ _ _=>True)→True:=fun _=>trivial
     cases DP:fz ((s[a0]).toNat:Int) with
     | true=>
       simp +contextual only [af,ck,cx,f0,f1,ha,ad,DP,List.getElem?_eq_getElem a6,Int.toNat_natCast,↓al,aw,simprocAttr]
       refine bV (za s a0 3 b _ ve (by omega) aR tc) ?_
       rintro x ag w
       have g1:=sS w
       obtain ⟨k,n,t,rfl,_⟩:=w.res
       simp +contextual only [g1,af,ck,cx,f0,f1,↓al,aw,simprocAttr]
       exact w.store fi
     | false=>
       rw [DP,Bool.false_or,decide_eq_true_eq] at aI
       replace aI:=eq_true aI
       simp +contextual only [af,ck,cx,f0,f1,ha,po,ad,aI,DP,List.getElem?_eq_getElem a6,Int.toNat_natCast,↓al,aw,simprocAttr]
       refine bV (za s a0 3 b _ ve (by omega) aR tc) ?_
       rintro x ag w
       have g1:=sS w
       obtain ⟨k,n,t,rfl,_⟩:=w.res
       simp +contextual only [g1,af,ck,cx,f0,f1,↓al,aw,simprocAttr]
       exact w.store fi
   · have It:=aI
     rw [Bool.not_eq_true,Bool.or_eq_false_iff,decide_eq_false_iff_not] at It
     obtain ⟨Tx,Ty⟩:=It
     simp +contextual only [af,ck,cx,f0,f1,ha,po,ad,Tx,Ty,List.getElem?_eq_getElem a6,Int.toNat_natCast,↓al,aw,simprocAttr]
     refine eO (Im _ _) ?_
     cases bq:ka ((s[a0]).toNat:Int) with
     | true=>
       have di:fy (s[a0]::s.drop (a0+1))=hU 4 (s.drop a0):=by rw [aV];simp only [fy,U,ad,aI,bq,Bool.false_eq_true,if_false,if_true]
       rw [di]
       simp +contextual only [af,ck,cx,f0,f1,List.getElem?_eq_getElem a6,Int.toNat_natCast,↓al,aw,simprocAttr]
       refine bV (za s a0 4 b _ ve (by omega) aR tc) ?_
       rintro x ag w
       have g1:=sS w
       obtain ⟨k,n,t,rfl,_⟩:=w.res
       simp +contextual only [g1,af,ck,cx,f0,f1,↓al,aw,simprocAttr]
       exact w.store fi
     | false=>
       have bL:IntKind.i64.wrap ((a0:Int)+1)=((a0+1:Nat):Int):=by rw [wrap_i64 (by omega) (by omega)];rfl
       have f2:(0≤((a0+1:Nat):Int))=True:=eq_true (by omega)
       by_cases ct:s[a0]=39∧jE (s.drop (a0+1))
       · have di:fy (s[a0]::s.drop (a0+1))=(hU 5 (s.drop (a0+1))).map fun q=>(q.1,q.2.1,q.2.2.1,q.2.2.2+1):=by simp only [fy];rw [if_neg (by rw [U];exact Bool.false_ne_true),if_neg ad,if_neg aI,if_neg (by rw [bq];exact Bool.false_ne_true),if_pos ct]
         rw [di]
         obtain ⟨yf,yg⟩:=ct
         replace yf:=eq_true yf
         have aO:a0+1<s.length:=by
          by_cases q:a0+1<s.length
          · exact q
          · rw [List.drop_eq_nil_of_le (by omega)] at yg
            cases yg
         rw [drop_cons aO] at yg
         have f3:(((a0+1:Nat):Int) < (s.length:Int))=True:=eq_true (by omega)
         simp +contextual (maxSteps:=1000000) only [af,ck,cx,f0,f1,f2,f3,bL,ha,po,sG,ad,yf,List.getElem?_eq_getElem a6,List.getElem?_eq_getElem aO,Int.toNat_natCast,↓al,aw,simprocAttr]
         refine eO (z7 _ _) ?_
         rw [show fz ((s[a0+1]).toNat:Int)=true from yg]
         simp +contextual (maxSteps:=1000000) only [af,ck,cx,f0,f1,f2,f3,bL,ha,po,sG,ad,yf,List.getElem?_eq_getElem a6,List.getElem?_eq_getElem aO,Int.toNat_natCast,↓al,aw,simprocAttr]
         have I':Mod (fun q=>q=b) (h.new (.bk [.int .i64 0,.int .i64 0,.int .i64 0,.str []] 0 false)) ((h.new (.bk [.int .i64 0,.int .i64 0,.int .i64 0,.str []] 0 false)).set b (.bk [.str s,.int .i64 ((a0+1:Nat):Int),.int .i64 0] 0 false)):=(Mod.refl _ _).self _
         refine bV (za s (a0+1) 5 b _ (by rw [dH,if_pos rfl];rfl) (by omega) aR (I'.b2 tc)) ?_
         rintro x ag w
         have ak:la s a0 b (h.new (.bk [.int .i64 0,.int .i64 0,.int .i64 0,.str []] 0 false)) ((hU 5 (s.drop (a0+1))).map fun q=>(q.1,q.2.1,q.2.2.1,q.2.2.2+1)) x ag:=by
          obtain ⟨ach,k,n,t,acv,wr⟩:=w
          refine ⟨I'.trans ach,k,n,t,acv,?_⟩
          cases a7:hU 5 (s.drop (a0+1)) with
          | error e=>rw [a7] at wr;exact wr
          | ok q=>
            rw [a7] at wr
            obtain ⟨bs,cV,b3,k1,cF⟩:=wr
            refine ⟨bs,cV,b3,?_,?_⟩
            · rw [k1]
              show d_ s ((a0+1+q.2.2.2:Nat):Int) 0=d_ s ((a0 + (q.2.2.2+1):Nat):Int) 0
              rw [show a0+1+q.2.2.2=a0 + (q.2.2.2+1) from by omega]
            · show a0 + (q.2.2.2+1)≤s.length
              omega
         have g1:=sS ak
         obtain ⟨k,n,t,rfl,_⟩:=ak.res
         simp +contextual only [g1,af,ck,cx,f0,f1,↓al,aw,simprocAttr]
         exact ak.store fi
       · have di:fy (s[a0]::s.drop (a0+1))=ud (s.drop a0):=by rw [aV];simp only [fy];rw [if_neg (by rw [U];exact Bool.false_ne_true),if_neg ad,if_neg aI,if_neg (by rw [bq];exact Bool.false_ne_true),if_neg ct]
         rw [di]
         have TZ:((s[a0]=39)=False)∨(((s[a0]=39)=True)∧¬a0+1<s.length)∨(((s[a0]=39)=True)∧∃aO:a0+1<s.length,fz ((s[a0+1]).toNat:Int)=false):=by
          by_cases q:s[a0]=39
          · by_cases aO:a0+1<s.length
            · refine .inr (.inr ⟨eq_true q,aO,?_⟩)
              cases aE:fz ((s[a0+1]).toNat:Int) with
              | false=>rfl
              | true=>exact absurd ⟨q,by rw [drop_cons aO];exact aE⟩ ct
            · exact .inr (.inl ⟨eq_true q,aO⟩)
          · exact .inl (eq_false q)
         have two:∀t ∈ hq,t.length≤2:=by decide
         have sA:((17:Nat):Int)=17:=rfl
         rcases TZ with ai | ⟨ai,ay⟩ | ⟨ai,aO,ay⟩
         case' neg.inl=>
          simp +contextual (maxSteps:=1000000) only [af,ck,cx,f0,f1,f2,bL,ha,po,sG,ad,ai,List.getElem?_eq_getElem a6,Int.toNat_natCast,↓al,aw,simprocAttr]
         case' neg.inr.inl=>
          have f3:(((a0+1:Nat):Int) < (s.length:Int))=False:=eq_false (by omega)
          simp +contextual (maxSteps:=1000000) only [af,ck,cx,f0,f1,f2,f3,bL,ha,po,sG,ad,ai,List.getElem?_eq_getElem a6,Int.toNat_natCast,↓al,aw,simprocAttr]
         case' neg.inr.inr=>
          have f3:(((a0+1:Nat):Int) < (s.length:Int))=True:=eq_true (by omega)
          simp +contextual (maxSteps:=1000000) only [af,ck,cx,f0,f1,f2,f3,bL,ha,po,sG,ad,ai,List.getElem?_eq_getElem a6,List.getElem?_eq_getElem aO,Int.toNat_natCast,↓al,aw,simprocAttr]
          refine eO (z7 _ _) ?_
          rw [ay]
          simp +contextual (maxSteps:=1000000) only [af,ck,cx,f0,f1,f2,f3,bL,ha,po,sG,ad,ai,List.getElem?_eq_getElem a6,List.getElem?_eq_getElem aO,Int.toNat_natCast,↓al,aw,simprocAttr]
         all_goals
          refine bV (aa7 _) ?_
          rintro x ag ⟨rfl,rfl⟩
          simp +contextual only [↓al,aw,simprocAttr]
          refine hj (fun r aa=>r 0=.ptr b 0∧r 2=.ptr (aG h.next) 0∧r 77=.slice (aG (h.next+1)) 0 17 17∧r 78=.int .i64 17∧∃i:Nat,i≤17∧r 79=.int .i64 i∧aa=(h.new (.bk [.int .i64 0,.int .i64 0,.int .i64 0,.str []] 0 false)).new (.bk ue 0 false)∧
           hq.find? (·.isPrefixOf (s.drop a0))=(hq.drop i).find? (·.isPrefixOf (s.drop a0))) (fun r aa=>17 - (r 79).toN) ?_ ?_
          · exact ⟨by simp only [↓al,aw,simprocAttr],by simp only [↓al,aw,simprocAttr],by simp only [↓al,aw,simprocAttr],by simp only [sA,↓al,aw,simprocAttr],0,by omega,by simp only [↓al,aw,simprocAttr]<;>rfl,rfl,rfl⟩
          · rintro r aa ⟨bx,cV,zH,zI,i,aC,zJ,rfl,pB⟩
            unfold G'
            have Jb:Old ((h.new (.bk [.int .i64 0,.int .i64 0,.int .i64 0,.str []] 0 false)).new (.bk ue 0 false)) b:=(ao.new _).b2 fi
            have oe:((h.new (.bk [.int .i64 0,.int .i64 0,.int .i64 0,.str []] 0 false)).new (.bk ue 0 false)).get b=.bk [.str s,.int .i64 a0,.int .i64 0] 0 false:=by rw [(ao.new _).get _ fi,af]
            have wc:(b=aG (h.next+1))=False:=we fi (by omega)
            have xA:(aG (h.next+1)=b)=False:=by rw [←wc];exact propext eq_comm
            by_cases mi:i<17
            · have g0:((i:Int)<17)=True:=eq_true (by omega)
              have g1:(0≤(i:Int))=True:=eq_true (by omega)
              rw [SI _ mi] at pB
              have hlen:=two _ (List.getElem_mem (h:=(show i<hq.length from mi)))
              simp +contextual only [sA,bx,cV,zH,zI,zJ,g0,g1,ck,cx,wc,xA,Int.toNat_natCast,Nat.mul_one,aa5 mi,↓al,aw,simprocAttr]
              refine eO (CK s _ (a0:Int) [.int .i64 0] b 0 false _ oe (by omega) (by omega)) ?_
              rw [Int.toNat_natCast]
              cases nh:(hq[i]'mi).isPrefixOf (s.drop a0) with
              | true=>
                rw [nh,if_pos rfl] at pB
                have mf:(hq[i]'mi).length≤s.length-a0:=by
                 rw [List.isPrefixOf_iff_prefix] at nh
                 have:=nh.length_le
                 rwa [List.length_drop] at this
                have lP:IntKind.i64.wrap ((a0:Int) + ((hq[i]'mi).length:Int))=((a0 + (hq[i]'mi).length:Nat):Int):=by rw [wrap_i64 (by omega) (by omega)];rfl
                simp +contextual only [sA,bx,cV,zH,zI,zJ,g0,g1,lP,ck,cx,wc,xA,af,↓al,aw,simprocAttr]
                unfold ud
                rw [pB]
                refine ⟨(((ao.new _).mod _).self _).fresh (Nat.le_refl _) _,_,_,_,rfl,rfl,rfl,rfl,?_,by show a0 + (hq[i]'mi).length≤s.length;omega⟩
                simp only [d_,ck,cx,↓al,aw,simprocAttr]
              | false=>
                rw [nh,if_neg Bool.false_ne_true] at pB
                have lP:IntKind.i64.wrap ((i:Int)+1)=((i+1:Nat):Int):=by rw [wrap_i64 (by omega) (by omega)];rfl
                simp +contextual only [sA,bx,cV,zH,zI,zJ,g0,g1,lP,ck,cx,wc,xA,af,↓al,aw,simprocAttr]
                exact ⟨⟨i+1,by omega,rfl,pB⟩,by omega⟩
            · obtain rfl:i=17:=by omega
              have cU:hq.find? (·.isPrefixOf (s.drop a0))=none:=by rw [pB];rfl
              have g0:((17:Int)<17)=False:=eq_false (by omega)
              simp +contextual only [sA,bx,cV,zH,zI,zJ,g0,oe,ck,cx,wc,xA,af,↓al,aw,simprocAttr]
              unfold ud
              rw [cU]
              refine ⟨(((ao.new _).mod _).self _).fresh (Nat.le_refl _) _,_,_,_,rfl,by decide,(a0:Int),?_⟩
              simp only [d_,ck,cx,↓al,aw,simprocAttr]
theorem Ii (s:List UInt8) (i:Nat):(ByteArray.mk ⟨s⟩).get! i=(s[i]?).getD 0:=by
 show (Array.mk s)[i]! =_
 simp
 rfl
theorem RW (s:List UInt8) (a:Nat):Lib.decodeGo ⟨⟨s.drop a⟩⟩=if a<s.length then decodeL s a else (65533,0):=by
 unfold Lib.decodeGo decodeL
 have bn:(ByteArray.mk ⟨s.drop a⟩).size=s.length-a:=by
  show (s.drop a).length=_
  rw [List.length_drop]
 have nn:(ByteArray.mk ⟨s⟩).size=s.length:=rfl
 by_cases bm:a<s.length
 · rw [if_pos bm,if_neg (by rw [bn];omega),Lib.decode_at,Lib.decode_at,bn,nn]
   simp only [Ii,List.getElem?_drop,Nat.add_zero,Nat.sub_zero,Nat.zero_add]
 · rw [if_neg bm,if_pos (by rw [bn];omega)]
theorem Y0 {h:ae} {b:aN} {s:List UInt8} {a:Nat} (aD:h.get b=.iter s a):
 rL (.ptr b 0) h=if a<s.length then .val (.tuple [.bool true,.int .i64 a,.int .i32 (decodeL s a).1]) (h.set b (.iter s (a + (decodeL s a).2))) else .val (.tuple [.bool false]) h:=by
 unfold rL
 simp only [V.hl,aD]
 rw [show Nat.beq 0 0=true from rfl]
 simp only [cond_true]
 by_cases bm:a<s.length
 · rw [if_pos bm,show Nat.blt a s.length=true from by rw [Nat.blt_eq];exact bm]
   rfl
 · rw [if_neg bm,show Nat.blt a s.length=false from by rw [←Bool.not_eq_true,Nat.blt_eq];exact bm]
   rfl
def V6 (s:List UInt8):bS→Nat
 | .iter _ a=>s.length-a
 | _=>0
theorem RU (s:List UInt8) (a:Nat):1≤(decodeL s a).2:=by
 unfold decodeL
 rw [Lib.decode_at]
 unfold Lib.decodeN
 repeat' split
 all_goals simp
theorem aaA (s:List UInt8) (aR:s.length≤100000) (h:ae):bK Tryz.prog 91 [.str s] h fun x aa=>x=.int .i64 (p7 s:Nat)∧Ext h aa:=by
 refine QP rfl (dn ?_)
 unfold BW
 simp +contextual only [↓al,aw,simprocAttr]
 refine hj (fun r aa=>r 0=.str s∧r 8=.ptr (aG h.next) 0∧Ext h aa∧∃a,aa.get (aG h.next)=.iter s a∧p7 s=nz s a) (fun r aa=>V6 s (aa.get (aG h.next))) ?_ ?_
 · exact ⟨by simp only [↓al,aw,simprocAttr],by simp only [↓al,aw,simprocAttr],(Ext.refl h).new _,0,by simp only [↓al,aw,simprocAttr],rfl⟩
 · rintro r aa ⟨bx,fl,ao,a,aD,bm⟩
   unfold G8
   have jJ:=Y0 aD
   by_cases aO:a<s.length
   · rw [if_pos aO] at jJ
     have ag:=RU s a
     by_cases aq:(decodeL s a).1=65533
     · have l_:(((decodeL s a).1:Int)=65533)=True:=eq_true (by omega)
       have f0:(0≤(a:Int))=True:=eq_true (by omega)
       have f1:((a:Int)≤(s.length:Int))=True:=eq_true (by omega)
       simp +contextual only [bx,fl,jJ,l_,f0,f1,Int.toNat_natCast,↓al,aw,simprocAttr]
       refine eO (RV _ _) ?_
       rw [RW,if_pos aO]
       by_cases hw:(decodeL s a).2=1
       · have DV:(((decodeL s a).2:Int)=1)=True:=eq_true (by omega)
         have q3:j7 s a=0:=by unfold j7;rw [if_pos (Prod.ext aq hw)]
         rw [aaz aO q3] at bm
         simp +contextual only [bx,fl,jJ,l_,DV,f0,f1,Int.toNat_natCast,↓al,aw,simprocAttr]
         rw [bm]
         exact ⟨rfl,ao.set (Nat.le_refl _) _⟩
       · have DV:(((decodeL s a).2:Int)=1)=False:=eq_false (by omega)
         have q3:j7 s a=(decodeL s a).2:=by unfold j7;rw [if_neg (fun q=>hw (congrArg Prod.snd q))]
         rw [Fc aO (by rw [q3];omega),q3] at bm
         simp +contextual only [bx,fl,jJ,l_,DV,f0,f1,Int.toNat_natCast,↓al,aw,simprocAttr]
         refine ⟨⟨ao.set (Nat.le_refl _) _,_,rfl,bm⟩,?_⟩
         rw [aD]
         show s.length - (a + (decodeL s a).2)<s.length-a
         omega
     · have l_:(((decodeL s a).1:Int)=65533)=False:=eq_false (by omega)
       have q3:j7 s a=(decodeL s a).2:=by unfold j7;rw [if_neg (fun q=>aq (congrArg Prod.fst q))]
       rw [Fc aO (by rw [q3];omega),q3] at bm
       simp +contextual only [bx,fl,jJ,l_,Int.toNat_natCast,↓al,aw,simprocAttr]
       refine ⟨⟨ao.set (Nat.le_refl _) _,_,rfl,bm⟩,?_⟩
       rw [aD]
       show s.length - (a + (decodeL s a).2)<s.length-a
       omega
   · rw [if_neg aO] at jJ
     rw [LQ (by omega)] at bm
     simp +contextual only [bx,fl,jJ,Int.toNat_natCast,↓al,aw,simprocAttr]
     rw [bm]
     exact ⟨rfl,ao⟩
def bQ.enc (w:bQ):List V:=[.int .i64 w.kind,.int .i64 w.num,.int .i64 w.pos,.str w.text]
def gN:List bQ→List V
 | []=>[]
 | w::ws=>w.enc++gN ws
theorem MK:∀a b:List bQ,gN (a++b)=gN a++gN b
 | [],b=>rfl
 | w::a,b=>by simp only [gN,List.cons_append,MK a b,List.append_assoc]
def wF (ws:List bQ):Except (Int × Nat) (List bQ)→Except (Int × Nat) (List bQ)
 | .ok bH=>.ok (ws++bH)
 | .error e=>.error e
theorem Z6 (ws:List bQ) (w:bQ) (r:Except (Int × Nat) (List bQ)):wF ws (u0 w r)=wF (ws++[w]) r:=by
 cases r with
 | ok bH=>simp [wF,u0]
 | error e=>rfl
theorem Z7 (r:Except (Int × Nat) (List bQ)):wF [] r=r:=by cases r<;>rfl
def Nf (s:List UInt8) (h:ae) (x:V) (aa:ae):Prop:=Ext h aa∧match iI s with
 | .ok ws=>∃v,x=.tuple [v,.agg [.int .i64 0,.int .i64 0]]∧du h.next aa 4 v ws.length (gN ws)
 | .error e=>x=.tuple [.cq,.agg [.int .i64 e.1,.int .i64 e.2]]
theorem GG (c:UInt8):(0≤Lib.indexByte [9,10,13,32] c)=(blank c=true):=by
 have a6:∀d:UInt8,(d == c)=decide (c=d):=fun d=>by
  by_cases q:c=d
  · subst q;simp
  · have dK:¬d=c:=fun e=>q e.symm
    simp [q,dK]
 simp only [Lib.indexByte,a6,blank]
 by_cases U:c=9
 · subst U;decide
 · by_cases ad:c=10
   · subst ad;decide
   · by_cases aI:c=13
     · subst aI;decide
     · by_cases bq:c=32
       · subst bq;decide
       · simp [U,ad,aI,bq]
theorem Kj (s:List UInt8) (h:ae):bK Tryz.prog 72 [.str s] h (Nf s h):=by
 refine Qw rfl (dn ?_)
 unfold BQ
 by_cases I2:(65536:Int) < (s.length:Int)
 · simp +contextual only [I2,↓al,aw,simprocAttr]
   refine ⟨((Ext.refl h).new _).set (Nat.le_refl _) _,?_⟩
   unfold iI
   rw [if_pos (by omega)]
   rfl
 simp +contextual only [I2,↓al,aw,simprocAttr]
 refine bV (aaA s (by omega) _) ?_
 rintro x U ⟨rfl,DX⟩
 have ao:Ext h (h.new (.bk [.int .i64 0,.int .i64 0] 0 false)):=(Ext.refl h).new _
 have ts:=ao.trans DX
 have g1:U.get (aG h.next)=.bk [.int .i64 0,.int .i64 0] 0 false:=by
  rw [DX.get _ (gL (by rw [gn];omega))]
  simp only [↓al,aw,simprocAttr]
 have KK:h.next+1≤U.next:=DX.next
 have cd:(aG U.next=aG h.next)=False:=by rw [oL];exact eq_false (by omega)
 have c8:(aG h.next=aG U.next)=False:=by rw [oL];exact eq_false (by omega)
 have kV:(U.next=h.next)=False:=eq_false (by omega)
 have kW:(h.next=U.next)=False:=eq_false (by omega)
 have hlen:¬65536<s.length:=by omega
 by_cases aH:p7 s<s.length
 · have oq:((p7 s:Int) < (s.length:Int))=True:=eq_true (by omega)
   simp +contextual only [oq,g1,cd,c8,kV,kW,↓al,aw,simprocAttr]
   refine ⟨ts.set (Nat.le_refl _) _,?_⟩
   unfold iI
   rw [if_neg hlen,if_pos aH]
 have oq:((p7 s:Int) < (s.length:Int))=False:=eq_false (by omega)
 have iZ:iI s=nt s 0:=by unfold iI;rw [if_neg hlen,if_neg aH]
 simp +contextual only [oq,g1,cd,c8,kV,kW,↓al,aw,simprocAttr]
 have Vx:Ext h (U.new (.bk [.str s,.int .i64 0,.int .i64 0] 0 false)):=ts.new _
 refine hj (fun r aa=>r 0=.str s∧r 3=.ptr (aG h.next) 0∧r 5=.ptr (aG U.next) 0∧∃(a:Nat) (ws:List bQ) (v:V),r 6=v∧aa.get (aG U.next)=.bk [.str s,.int .i64 a,.int .i64 0] 0 false∧a≤s.length∧ws.length≤a∧
  aa.get (aG h.next)=.bk [.int .i64 0,.int .i64 0] 0 false∧Ext h aa∧U.next+1≤aa.next∧du (U.next+1) aa 4 v ws.length (gN ws)∧iI s=wF ws (nt (s.drop a) a))
  (fun r aa=>s.length - ((gV (aa.get (aG U.next)) 1).getD .bad).toN) ?_ ?_
 · refine ⟨by simp only [↓al,aw,simprocAttr],by simp only [↓al,aw,simprocAttr],by simp only [↓al,aw,simprocAttr],0,[],.cq,by simp only [↓al,aw,simprocAttr],by simp only [↓al,aw,simprocAttr]<;>rfl,by omega,by simp,by simp only [g1,cd,kV,c8,kW,↓al,aw,simprocAttr],Vx,?_,⟨rfl,rfl⟩,?_⟩
   · rw [gn];exact Nat.le_refl _
   · rw [iZ,List.drop_zero,Z7]
 · rintro r aa ⟨bx,b3,cF,a,ws,v,fk,aD,b6,kw,bn,yN,jJ,ft,bg⟩
   unfold G6
   have fi:Old aa (aG U.next):=gL (by omega)
   by_cases eP:(s.length:Int)≤(a:Int)
   · have bm:a=s.length:=by omega
     have yD:iI s=.ok ws:=by
      rw [bg,bm,List.drop_length]
      show Except.ok (ws++[])=_
      rw [List.append_nil]
     simp +contextual only [bx,b3,cF,fk,aD,bn,eP,cd,c8,kV,kW,↓al,aw,simprocAttr]
     refine ⟨yN.set (Nat.le_refl _) _,?_⟩
     rw [yD]
     refine ⟨v,rfl,?_⟩
     have:=ft.mod ((Mod.refl (fun q=>q=aG h.next) aa).self (.bk [.int .i64 0,.int .i64 0] 0 false)) (fun q aE e=>by
      have ad:=ft.base aE
      rw [show q=aG h.next from e,dV] at ad
      omega)
     exact this.mono (by omega)
   · have aO:a<s.length:=by omega
     rw [drop_cons aO,Ki,←drop_cons aO] at bg
     have f0:(0≤(a:Int))=True:=eq_true (by omega)
     have f1:((a:Int) < (s.length:Int))=True:=eq_true (by omega)
     have bL:IntKind.i64.wrap ((a:Int)+1)=((a+1:Nat):Int):=by rw [wrap_i64 (by omega) (by omega)];rfl
     simp +contextual only [bx,b3,cF,fk,aD,bn,eP,cd,c8,kV,kW,f0,f1,List.getElem?_eq_getElem aO,Int.toNat_natCast,↓al,aw,simprocAttr]
     refine eO (JK _ _ _) ?_
     rw [Mz]
     by_cases yn:blank s[a]=true
     · have CQ:(0≤Lib.indexByte [9,10,13,32] s[a])=True:=by rw [GG,yn];exact eq_self _
       rw [if_pos yn] at bg
       simp +contextual only [CQ,bL,bx,b3,cF,fk,aD,bn,eP,cd,c8,kV,kW,f0,f1,List.getElem?_eq_getElem aO,Int.toNat_natCast,↓al,aw,simprocAttr]
       refine ⟨⟨a+1,ws,rfl,by omega,by omega,yN.set (by omega) _,jJ,?_,bg⟩,by omega⟩
       exact ft.mod ((Mod.refl (fun q=>q=aG U.next) aa).self _) (fun q aE e=>by
        have ad:=ft.base aE
        rw [show q=aG U.next from e,dV] at ad
        omega)
     · have CQ:(0≤Lib.indexByte [9,10,13,32] s[a])=False:=by rw [GG];exact eq_false yn
       rw [if_neg yn] at bg
       simp +contextual only [CQ,bL,bx,b3,cF,fk,aD,bn,eP,cd,c8,kV,kW,f0,f1,List.getElem?_eq_getElem aO,Int.toNat_natCast,↓al,aw,simprocAttr]
       have vv:=CK s [40,42] (a:Int) [.int .i64 0] (aG U.next) 0 false aa aD (by omega) (by omega)
       rw [Int.toNat_natCast] at vv
       refine eO vv ?_
       cases nh:([40,42]:List UInt8).isPrefixOf (s.drop a) with
       | true=>
         rw [nh,if_pos rfl] at bg
         simp +contextual only [bL,bx,b3,cF,fk,aD,bn,eP,cd,c8,kV,kW,f0,f1,List.getElem?_eq_getElem aO,Int.toNat_natCast,↓al,aw,simprocAttr]
         refine bV (Y8 s a 0 (aG U.next) aa aD b6 (by omega) fi) ?_
         rintro x ad ⟨rfl,hm,a7⟩
         have nn:ad.get (aG h.next)=.bk [.int .i64 0,.int .i64 0] 0 false:=by rw [hm.get _ (gL (by omega)) (by rw [c8];exact id),bn]
         have yL:Ext h ad:=yN.oJ hm (fun b af=>by rw [show b=aG U.next from af,dV];omega)
         have wh:=hm.next
         have iB:=ft.mod hm (fun q aE e=>by
          have ad:=ft.base aE
          rw [show q=aG U.next from e,dV] at ad
          omega)
         cases Dy:gz (s.drop a) 0 with
         | some n=>
           rw [Dy] at a7 bg
           obtain ⟨g2,hle⟩:=a7
           have vu:=zg Dy
           unfold d_ at g2
           simp +contextual only [bL,bx,b3,cF,fk,g2,aD,nn,eP,cd,c8,kV,kW,f0,f1,List.getElem?_eq_getElem aO,Int.toNat_natCast,↓al,aw,simprocAttr]
           refine ⟨⟨a+n,ws,rfl,hle,by omega,yL,by omega,iB,?_⟩,by omega⟩
           rw [bg]
           simp only [List.drop_drop]
         | none=>
           rw [Dy] at a7 bg
           unfold d_ at a7
           simp +contextual only [bL,bx,b3,cF,fk,a7,aD,nn,eP,cd,c8,kV,kW,f0,f1,List.getElem?_eq_getElem aO,Int.toNat_natCast,↓al,aw,simprocAttr]
           refine ⟨yL.set (Nat.le_refl _) _,?_⟩
           rw [bg]
           rfl
       | false=>
         rw [nh,if_neg Bool.false_ne_true] at bg
         simp +contextual only [bL,bx,b3,cF,fk,aD,bn,eP,cd,c8,kV,kW,f0,f1,List.getElem?_eq_getElem aO,Int.toNat_natCast,↓al,aw,simprocAttr]
         refine bV (Y2 s a (aG U.next) aa aD aO (by omega) fi) ?_
         rintro x ad w
         obtain ⟨hm,k,n,t,rfl,tg⟩:=w
         have nn:ad.get (aG h.next)=.bk [.int .i64 0,.int .i64 0] 0 false:=by rw [hm.get _ (gL (by omega)) (by rw [c8];exact id),bn]
         have yL:Ext h ad:=yN.oJ hm (fun b af=>by rw [show b=aG U.next from af,dV];omega)
         have wh:=hm.next
         have iB:=ft.mod hm (fun q aE e=>by
          have ad:=ft.base aE
          rw [show q=aG U.next from e,dV] at ad
          omega)
         have m0:(aG ad.next=aG h.next)=False:=by rw [oL];exact eq_false (by omega)
         have m1:(aG ad.next=aG U.next)=False:=by rw [oL];exact eq_false (by omega)
         have Ks:(ad.next=h.next)=False:=eq_false (by omega)
         have Kt:(ad.next=U.next)=False:=eq_false (by omega)
         have yM:Ext ad (((ad.new (.bk [.int .i64 0,.int .i64 0,.int .i64 0,.str []] 0 false)).set (aG ad.next) (.bk [.int .i64 k,.int .i64 n,.int .i64 0,.str t] 0 false)).set (aG ad.next) (.bk [.int .i64 k,.int .i64 n,.int .i64 a,.str t] 0 false)):=(((Ext.refl ad).new _).set (Nat.le_refl _) _).set (Nat.le_refl _) _
         obtain ⟨v3,aI,ai,ay,aK,bE,dr⟩:=xt (cs:=[.int .i64 k,.int .i64 n,.int .i64 a,.str t]) (by omega) (iB.ext yM) (by simp only [mA,gn];omega) (by unfold top;omega) rfl rfl
         simp only [mA,gn] at ai bE
         have Jx:Ext h aI:=(yL.trans yM).oJ aK (fun b af=>Nat.le_trans (by omega) (iB.base af))
         have vJ:aI.get (aG h.next)=.bk [.int .i64 0,.int .i64 0] 0 false:=by
          rw [aK.get _ (gL (by simp only [mA,gn];omega)) (fun aE=>by have:=iB.base aE;rw [dV] at this;omega),yM.get _ (gL (by omega)),nn]
         have kd:aI.get (aG U.next)=ad.get (aG U.next):=by
          rw [aK.get _ (gL (by simp only [mA,gn];omega)) (fun aE=>by have:=iB.base aE;rw [dV] at this;omega),yM.get _ (gL (by omega))]
         cases jJ:fy (s.drop a) with
         | ok q=>
           have vu:=Ex jJ
           rw [jJ] at tg bg
           obtain ⟨rfl,rfl,rfl,g2,hle⟩:=tg
           unfold d_ at g2
           rw [g2] at kd
           simp +contextual only [ai,m0,m1,Ks,Kt,bL,bx,b3,cF,fk,g2,kd,aD,nn,eP,cd,c8,kV,kW,f0,f1,List.getElem?_eq_getElem aO,Int.toNat_natCast,↓al,aw,simprocAttr]
           refine ⟨⟨a+q.2.2.2,ws++[⟨q.1,q.2.1,a,q.2.2.1⟩],rfl,hle,by simp;omega,vJ,Jx,by omega,?_,?_⟩,by omega⟩
           · rw [List.length_append,MK]
             exact ay
           · rw [bg,Z6]
             simp only [List.drop_drop]
         | error e=>
           rw [jJ] at tg bg
           obtain ⟨he,bf,g2⟩:=tg
           unfold d_ at g2
           rw [g2] at kd
           simp +contextual only [he,ai,m0,m1,Ks,Kt,bL,bx,b3,cF,fk,g2,kd,vJ,aD,nn,eP,cd,c8,kV,kW,f0,f1,List.getElem?_eq_getElem aO,Int.toNat_natCast,↓al,aw,simprocAttr]
           refine ⟨Jx.set (Nat.le_refl _) _,?_⟩
           rw [bg]
           rfl
def mI (L:List (List UInt8)):List V:=L.map V.str
theorem J0 (h:ae):bK Tryz.prog 79 [] h fun x aa=>x=.slice (aG h.next) 0 20 20∧aa=h.new (.bk (mI pQ) 0 false):=by
 refine QL rfl (dn ?_)
 unfold BV
 simp +contextual only [↓al,aw,simprocAttr]
 rfl
theorem Fw (L:List (List UInt8)):(mI L).length=L.length:=by simp [mI]
theorem Fv {L:List (List UInt8)} {i:Nat} (aC:i<L.length):(mI L)[i]? =some (.str L[i]):=by
 unfold mI
 rw [List.getElem?_map,List.getElem?_eq_getElem aC]
 rfl
theorem HD {t:List UInt8} {L:List (List UInt8)} {i:Nat} (aC:i<L.length):(L.drop i).contains t=(decide (L[i]=t)||(L.drop (i+1)).contains t):=by
 rw [List.drop_eq_getElem_cons aC,List.contains_cons]
 congr 1
 rw [Bool.eq_iff_iff]
 simp
 exact eq_comm
theorem D2 (t:List UInt8) (L:List (List UInt8)) (b:aN) (cap:Nat) (h:ae) (cy:L.length≤100000) (aD:h.get b=.bk (mI L) 0 false):
 eh Tryz.prog 59 [.str t,.slice b 0 L.length cap] h (.bool (L.contains t)) h:=by
 refine k0 (Qe rfl (dn ?_))
 unfold BJ
 simp +contextual only [↓al,aw,simprocAttr]
 refine hj (fun r aa=>aa=h∧r 0=.str t∧r 1=.slice b 0 L.length cap∧∃i:Nat,r 5=.int .i64 i∧i≤L.length∧L.contains t=(L.drop i).contains t) (fun r aa=>L.length - (r 5).toN) ?_ ?_
 · exact ⟨rfl,by simp only [↓al,aw,simprocAttr],by simp only [↓al,aw,simprocAttr],0,by simp only [↓al,aw,simprocAttr]<;>rfl,by omega,rfl⟩
 · rintro r aa ⟨rfl,bx,bs,i,cF,aC,bg⟩
   unfold G3
   by_cases aO:i<L.length
   · have g0:((i:Int) < (L.length:Int))=True:=eq_true (by omega)
     have g1:(0≤(i:Int))=True:=eq_true (by omega)
     rw [HD aO] at bg
     by_cases he:L[i]=t
     · simp +contextual only [bx,bs,cF,g0,g1,aD,he,Int.toNat_natCast,Nat.mul_one,Fv aO,↓al,aw,simprocAttr]
       rw [bg]
       simp [he]
     · have w:IntKind.i64.wrap ((i:Int)+1)=((i+1:Nat):Int):=by rw [wrap_i64 (by omega) (by omega)];rfl
       simp +contextual only [bx,bs,cF,g0,g1,aD,he,w,Int.toNat_natCast,Nat.mul_one,Fv aO,↓al,aw,simprocAttr]
       refine ⟨⟨i+1,rfl,aO,?_⟩,by omega⟩
       rw [bg]
       simp [he]
   · have g0:((i:Int) < (L.length:Int))=False:=eq_false (by omega)
     rw [List.drop_eq_nil_of_le (by omega)] at bg
     rw [bg]
     simp +contextual only [bx,bs,cF,g0,↓al,aw,simprocAttr]
     rfl
def vg:List UInt8→Bool
 | d::_=>ka d.toNat
 | []=>false
def dd (k:Int) (s:List UInt8):Bool:=
 decide (s≠[])&&decide (s.length≤64)&&s.all ee&&(if k=3 then (jE s||s.head? == some 95)&&!decide (s=[95])&&!lz s else if k=4 then vg s else jE s)
theorem VS (t:List UInt8) (L:List (List UInt8)) (v:V) (h:ae) (H:eW h 1 v L.length (mI L)) (cy:L.length≤100000):
 bK Tryz.prog 74 [v,.str t] h fun x aa=>aa=h∧∃i:Int,x=.int .i64 i∧decide (0≤i)=L.contains t:=by
 refine QC rfl (dn ?_)
 unfold BS
 simp +contextual only [H.len,↓al,aw,simprocAttr]
 refine hj (fun r aa=>aa=h∧r 0=v∧r 1=.str t∧r 7=.int .i64 L.length∧∃i:Nat,r 8=.int .i64 i∧i≤L.length∧L.contains t=(L.drop i).contains t) (fun r aa=>L.length - (r 8).toN) ?_ ?_
 · exact ⟨rfl,by simp only [↓al,aw,simprocAttr],by simp only [↓al,aw,simprocAttr],by simp only [↓al,aw,simprocAttr],0,by simp only [↓al,aw,simprocAttr]<;>rfl,by omega,rfl⟩
 · rintro r aa ⟨rfl,bx,bs,eT,i,fl,aC,bg⟩
   unfold G7
   by_cases aO:i<L.length
   · have g0:((i:Int) < (L.length:Int))=True:=eq_true (by omega)
     obtain ⟨bJ,cQ,ry,lW⟩:=H.dy (k:=.i64) aO
     have fU:=lW.fU (i:=i * 1) (by rw [Fw];omega)
     simp only [Nat.mul_one] at fU ry
     have C':(mI L)[i]'(by rw [Fw];exact aO)=.str L[i]:=by
      have:=Fv aO
      rw [List.getElem?_eq_getElem (by rw [Fw];exact aO)] at this
      exact Option.some.inj this
     rw [C'] at fU
     rw [HD aO] at bg
     have w:IntKind.i64.wrap ((i:Int)+1)=((i+1:Nat):Int):=by rw [wrap_i64 (by omega) (by omega)];rfl
     by_cases he:t=L[i]
     · have dx:decide (t=L[i])=true:=decide_eq_true he
       simp +contextual only [bx,bs,eT,fl,g0,ry,fU,dx,↓al,aw,simprocAttr]
       exact ⟨i,rfl,by rw [bg,←he];simp⟩
     · have dx:decide (t=L[i])=false:=decide_eq_false he
       simp +contextual only [bx,bs,eT,fl,g0,ry,fU,dx,w,↓al,aw,simprocAttr]
       refine ⟨⟨i+1,rfl,aO,?_⟩,by omega⟩
       rw [bg,decide_eq_false (fun q=>he q.symm),Bool.false_or]
   · have g0:((i:Int) < (L.length:Int))=False:=eq_false (by omega)
     rw [List.drop_eq_nil_of_le (by omega)] at bg
     simp +contextual only [bx,bs,eT,fl,g0,↓al,aw,simprocAttr]
     exact ⟨_,rfl,by rw [bg];rfl⟩
theorem RE (t:List UInt8) (L:List (List UInt8)) (v:V) (h:ae) (H:eW h 1 v L.length (mI L)) (cy:L.length≤100000):
 eh Tryz.prog 63 [v,.str t] h (.bool (L.contains t)) h:=by
 refine k0 (Qk rfl (dn ?_))
 unfold BL
 simp +contextual only [↓al,aw,simprocAttr]
 refine bV (VS t L v h H cy) ?_
 rintro x U ⟨rfl,i,rfl,aC⟩
 simp +contextual only [aC,↓al,aw,simprocAttr]
def Kg (c:Int):Bool:=kx c 97 122||kx c 65 90||kx c 48 57||decide (c=95)||decide (c=39)
theorem Yo (c:UInt8):Kg (c.toNat:Int)=ee c:=by
 unfold Kg ee pS kx j8 fz ka
 generalize (c.toNat:Int)=x
 cases decide (97≤x)<;>cases decide (x≤122)<;>cases decide (65≤x)<;>cases decide (x≤90)<;>cases decide (48≤x)<;>cases decide (x≤57)<;>cases decide (x=95)<;>cases decide (x=39)<;>rfl
theorem T8 {s:List UInt8} {c:UInt8} {r:List UInt8} (h:s=c::r):jE s=fz c.toNat:=by rw [h];rfl
theorem ny (k:Int) (s:List UInt8) (aR:s.length≤17179869184) (az:k=3∨k=4∨k=5) (h:ae):bK Tryz.prog 65 [.int .i64 k,.str s] h fun x aa=>x=.bool (dd k s)∧Ext h aa:=by
 refine Qn rfl (dn ?_)
 unfold BM
 by_cases ml:s=[]
 · subst ml
   simp +contextual only [↓al,aw,simprocAttr]
   exact ⟨rfl,Ext.refl _⟩
 obtain ⟨c,r,vC⟩:=List.exists_cons_of_ne_nil ml
 have cE:(s=([]:List UInt8))=False:=eq_false ml
 have kP:s[0]? =some c:=by rw [vC];rfl
 by_cases hlen:(64:Int) < (s.length:Int)
 · have a7:dd k s=false:=by
    unfold dd
    rw [decide_eq_false (show ¬s.length≤64 by omega)]
    simp
   have Dj:=eq_true hlen
   simp +contextual only [cE,Dj,a7,↓al,aw,simprocAttr]
   exact Ext.refl _
 have Dj:=eq_false hlen
 simp +contextual only [cE,Dj,↓al,aw,simprocAttr]
 refine hj (fun r aa=>aa=h∧r 0=.int .i64 k∧r 1=.str s∧∃i:Nat,r 5=.int .i64 i∧i≤s.length∧s.all ee=(s.drop i).all ee) (fun r aa=>s.length - (r 5).toN) ?_ ?_
 · exact ⟨rfl,by simp only [↓al,aw,simprocAttr],by simp only [↓al,aw,simprocAttr],0,by simp only [↓al,aw,simprocAttr]<;>rfl,by omega,rfl⟩
 · rintro R aa ⟨rfl,bx,bs,i,cF,aC,bg⟩
   unfold G4
   by_cases aO:i<s.length
   · have g0:((i:Int) < (s.length:Int))=True:=eq_true (by omega)
     have g1:(0≤(i:Int))=True:=eq_true (by omega)
     rw [List.drop_eq_getElem_cons aO,List.all_cons] at bg
     have w:IntKind.i64.wrap ((i:Int)+1)=((i+1:Nat):Int):=by rw [wrap_i64 (by omega) (by omega)];rfl
     simp +contextual only [bx,bs,cF,g0,g1,List.getElem?_eq_getElem aO,Int.toNat_natCast,↓al,aw,simprocAttr]
     refine eO (Nd _ _) ?_
     rw [show (kx (s[i].toNat:Int) 97 122||kx (s[i].toNat:Int) 65 90||kx (s[i].toNat:Int) 48 57||decide ((s[i].toNat:Int)=95)||decide ((s[i].toNat:Int)=39))=ee s[i] from Yo _]
     cases aj:ee s[i] with
     | true=>
       simp +contextual only [bx,bs,cF,w,↓al,aw,simprocAttr]
       exact ⟨⟨i+1,rfl,aO,by rw [bg,aj,Bool.true_and]⟩,by omega⟩
     | false=>
       have a7:dd k s=false:=by
        unfold dd
        rw [bg,aj]
        simp
       simp +contextual only [a7,↓al,aw,simprocAttr]
       exact Ext.refl _
   · have g0:((i:Int) < (s.length:Int))=False:=eq_false (by omega)
     rw [List.drop_eq_nil_of_le (by omega)] at bg
     have cT:s.all ee=true:=by rw [bg];rfl
     have f1:((0:Int) < (s.length:Int))=True:=eq_true (by rw [vC];simp only [List.length_cons];omega)
     have a7:dd k s=(if k=3 then (jE s||s.head? == some 95)&&!decide (s=[95])&&!lz s else if k=4 then vg s else jE s):=by
      unfold dd
      rw [cT,decide_eq_true (show s.length≤64 by omega),decide_eq_true (show s≠[] from ml)]
      simp
     rw [a7]
     have af:(jE s||s.head? == some 95)=(fz c.toNat||decide (c=95)):=by
      rw [vC]
      show (fz c.toNat||(some c == some 95))=_
      congr 1
     have Vf:jE s=fz c.toNat:=T8 vC
     have Uk:vg s=ka c.toNat:=by rw [vC];rfl
     rw [af]
     have hu:((c.toNat:Int)=95)=(c=95):=r5 c 95 (by omega)
     rcases az with rfl | rfl | rfl
     · simp +contextual only [bx,bs,cF,g0,f1,kP,Int.toNat_zero,if_true,↓al,aw,simprocAttr]
       refine eO (uk _ _ _ _) ?_
       rw [show kx (c.toNat:Int) 97 122=fz (c.toNat:Int) from rfl]
       cases mr:fz (c.toNat:Int) with
       | false=>
         by_cases Iw:c=95
         · have l8:=eq_true Iw
           by_cases U:s=[95]
           · have fg:=eq_true U
             simp +contextual only [bx,bs,mr,hu,l8,fg,f1,kP,Int.toNat_zero,↓al,aw,simprocAttr]
             exact Ext.refl _
           · have fg:=eq_false U
             simp +contextual only [bx,bs,mr,hu,l8,fg,f1,kP,Int.toNat_zero,↓al,aw,simprocAttr]
             refine bV (J0 _) ?_
             rintro x U ⟨rfl,rfl⟩
             simp +contextual only [bx,bs,mr,hu,l8,fg,f1,kP,↓al,aw,simprocAttr]
             refine eO (D2 s pQ _ 20 _ (by decide) (by rw [l7])) ?_
             have Df:pQ.contains s=lz s:=rfl
             rw [Df]
             simp +contextual only [bx,bs,mr,hu,l8,fg,↓al,aw,simprocAttr]
             exact (Ext.refl _).new _
         · have l8:=eq_false Iw
           simp +contextual only [bx,bs,mr,hu,l8,f1,kP,Int.toNat_zero,↓al,aw,simprocAttr]
           exact Ext.refl _
       | true=>
         have l8:True=True:=rfl
         by_cases U:s=[95]
         · have fg:=eq_true U
           simp +contextual only [bx,bs,mr,hu,l8,fg,f1,kP,Int.toNat_zero,↓al,aw,simprocAttr]
           exact Ext.refl _
         · have fg:=eq_false U
           simp +contextual only [bx,bs,mr,hu,l8,fg,f1,kP,Int.toNat_zero,↓al,aw,simprocAttr]
           refine bV (J0 _) ?_
           rintro x U ⟨rfl,rfl⟩
           simp +contextual only [bx,bs,mr,hu,l8,fg,f1,kP,↓al,aw,simprocAttr]
           refine eO (D2 s pQ _ 20 _ (by decide) (by rw [l7])) ?_
           have Df:pQ.contains s=lz s:=rfl
           rw [Df]
           simp +contextual only [bx,bs,mr,hu,l8,fg,↓al,aw,simprocAttr]
           exact (Ext.refl _).new _
     · simp +contextual only [bx,bs,cF,g0,f1,kP,Int.toNat_zero,if_true,if_false,↓al,aw,simprocAttr]
       refine eO (uk _ _ _ _) ?_
       rw [Uk]
       simp +contextual only [↓al,aw,simprocAttr]
       exact ⟨rfl,Ext.refl _⟩
     · simp +contextual only [bx,bs,cF,g0,f1,kP,Int.toNat_zero,if_true,if_false,↓al,aw,simprocAttr]
       refine eO (uk _ _ _ _) ?_
       rw [Vf]
       simp +contextual only [↓al,aw,simprocAttr]
       exact ⟨rfl,Ext.refl _⟩
theorem NX {s:List UInt8} (h:∀c ∈ s,c.toNat<128):p7 s=s.length:=by
 have aq:∀a,a<s.length→j7 s a=1:=by
  intro a bm
  have aV:decodeL s a=((s[a]).toNat,1):=by
   unfold decodeL
   rw [Lib.decode_at]
   simp only [Ii,List.getElem?_eq_getElem bm,Option.getD_some]
   unfold Lib.decodeN
   rw [if_pos (h _ (List.getElem_mem bm))]
  unfold j7
  rw [aV,if_neg (by
   have:=h _ (List.getElem_mem bm)
   simp only [Prod.mk.injEq,and_true]
   omega)]
 have:∀n a,s.length-a=n→a≤s.length→nz s a=s.length:=by
  intro n
  induction n with
  | zero=>intro a U ad;exact LQ (by omega)
  | succ n bh=>
    intro a U ad
    have aO:a<s.length:=by omega
    rw [Fc aO (by rw [aq a aO];decide),aq a aO]
    exact bh _ (by omega) (by omega)
 exact this s.length 0 (by omega) (by omega)
theorem Yq {s:List UInt8} (h:∀c ∈ s,c.toNat<128):iI s=if 65536<s.length then .error (3,0) else nt s 0:=by
 unfold iI
 rw [NX h,if_neg (Nat.lt_irrefl _)]
theorem YE {c:UInt8} (h:ee c=true):blank c=false∧c≠40:=by
 constructor
 · cases af:blank c with
   | false=>rfl
   | true=>
     unfold blank at af
     simp only [Bool.or_eq_true,decide_eq_true_eq] at af
     rcases af with ((rfl | rfl) | rfl) | rfl<;>exact absurd h (by decide)
 · rintro rfl
   exact absurd h (by decide)
theorem Y5 {c:UInt8} (h:c≠40) (r:List UInt8):([40,42]:List UInt8).isPrefixOf (c::r)=false:=by
 have:((40:UInt8) == c)=false:=by rw [beq_eq_false_iff_ne];exact fun q=>h q.symm
 simp [List.isPrefixOf,this]
theorem L_ {c:UInt8} (h:fz c.toNat=true):ec c=false∧c≠34:=by
 unfold fz at h
 simp only [Bool.and_eq_true,decide_eq_true_eq] at h
 refine ⟨?_,by rintro rfl;exact absurd h (by decide)⟩
 unfold ec j8
 simp only [Bool.and_eq_false_iff,decide_eq_false_iff_not]
 omega
theorem Tp {c:UInt8} (h:ka c.toNat=true):ec c=false∧c≠34∧fz c.toNat=false∧c≠95:=by
 unfold ka at h
 simp only [Bool.and_eq_true,decide_eq_true_eq] at h
 refine ⟨?_,by rintro rfl;exact absurd h (by decide),?_,by rintro rfl;exact absurd h (by decide)⟩
 · unfold ec j8
   simp only [Bool.and_eq_false_iff,decide_eq_false_iff_not]
   omega
 · unfold fz
   simp only [Bool.and_eq_false_iff,decide_eq_false_iff_not]
   omega
theorem Et {k:Int} {s:List UInt8} (h:dd k s=true):s≠[]∧s.length≤64∧s.all ee=true∧(if k=3 then (jE s||s.head? == some 95)&&!decide (s=[95])&&!lz s else if k=4 then vg s else jE s)=true:=by
 unfold dd at h
 rw [Bool.and_eq_true,Bool.and_eq_true,Bool.and_eq_true,decide_eq_true_eq,decide_eq_true_eq] at h
 exact ⟨h.1.1.1,h.1.1.2,h.1.2,h.2⟩
theorem Y3 {c:UInt8} {t:List UInt8} (h:fz c.toNat=true∨c=95):fy (c::t)=hU 3 (c::t):=by
 have aV:ec c=false:=h.elim (fun q=>(L_ q).1) (fun q=>by rw [q];decide)
 have Tw:c≠34:=h.elim (fun q=>(L_ q).2) (fun q=>by rw [q];decide)
 have aR:(fz c.toNat||decide (c=95))=true:=by simpa using h
 simp only [fy,aV,aR,if_neg Tw,Bool.false_eq_true,if_false,if_true]
theorem NW {c:UInt8} (h:ee c=true):c.toNat<128:=by
 unfold ee pS j8 fz ka at h
 simp only [Bool.or_eq_true,Bool.and_eq_true,decide_eq_true_eq] at h
 omega
theorem My {p:UInt8→Bool}:∀s:List UInt8,s.all p=true→s.takeWhile p=s
 | [],_=>rfl
 | c::s,h=>by
   rw [List.all_cons,Bool.and_eq_true] at h
   rw [List.takeWhile_cons,h.1,if_pos rfl,My s h.2]
theorem Gj (p:UInt8→Bool):∀s:List UInt8,(s.takeWhile p).all p=true
 | []=>rfl
 | c::s=>by
   rw [List.takeWhile_cons]
   split
   · rename_i h;rw [List.all_cons,h,Gj p s];rfl
   · rfl
theorem Es {k:Int} {c:UInt8} {r:List UInt8} {q:Int × Int × List UInt8 × Nat} (az:(k=3∧(fz c.toNat=true∨c=95))∨(k=4∧ka c.toNat=true)∨(k=5∧fz c.toNat=true)) (h:hU k (c::r)=.ok q) (aE:q.1=3∨q.1=4∨q.1=5):
 q.1=k∧dd k q.2.2.1=true:=by
 have aj:ee c=true:=by
  rcases az with ⟨_,q | q⟩ | ⟨_,q⟩ | ⟨_,q⟩
  · exact Fm q
  · exact MC q
  · exact Il q
  · exact Fm q
 have aB:(c::r).takeWhile ee=c::r.takeWhile ee:=by rw [List.takeWhile_cons,if_pos aj]
 have bm:=Gj ee (c::r)
 rw [aB] at bm
 unfold hU at h
 simp only [aB] at h
 generalize r.takeWhile ee=t at *
 split at h
 · cases h;simp at aE
 · rename_i U0
   split at h
   · cases h;simp at aE
   · rename_i tf
     split at h
     · cases h
     · rename_i hlen
       cases h
       refine ⟨rfl,?_⟩
       have kg:(if k=3 then (jE (c::t)||(c::t).head? == some 95)&&!decide (c::t=[95])&&!lz (c::t) else if k=4 then vg (c::t) else jE (c::t))=true:=by
        rcases az with ⟨rfl,z⟩ | ⟨rfl,z⟩ | ⟨rfl,z⟩
        · rw [if_pos rfl]
          have U:(jE (c::t)||(c::t).head? == some 95)=true:=by
           rcases z with z | z
           · show (fz c.toNat||_)=true
             rw [z];rfl
           · subst z;simp
          rw [U,decide_eq_false (fun z=>U0 ⟨rfl,z⟩),Bool.eq_false_iff.2 (fun z=>tf ⟨rfl,z⟩)]
          rfl
        · exact z
        · exact z
       show dd k (c::t)=true
       unfold dd
       rw [kg,bm,decide_eq_true (show c::t≠[] by simp),decide_eq_true (show (c::t).length≤64 by omega)]
       rfl
theorem YY {r:List UInt8} {q:Int × Int × List UInt8 × Nat} (h:fy r=.ok q) (aE:q.1=3∨q.1=4∨q.1=5):dd q.1 q.2.2.1=true:=by
 match r,h with
 | c::r,h=>
   simp only [fy] at h
   split at h
   · unfold tK at h
     simp only at h
     split at h
     · cases h
     · cases h;simp at aE
   · split at h
     · unfold oX at h
       split at h
       · cases h
       · split at h
         · cases h
         · cases h;simp at aE
     · split at h
       · rename_i aR
         have:=Es (.inl ⟨rfl,by simpa using aR⟩) h aE
         rw [this.1];exact this.2
       · split at h
         · rename_i aR
           have:=Es (.inr (.inl ⟨rfl,aR⟩)) h aE
           rw [this.1];exact this.2
         · split at h
           · rename_i aR
             cases a7:hU 5 r with
             | error e=>rw [a7] at h;cases h
             | ok dK=>
               rw [a7] at h
               cases h
               obtain ⟨d,t,rfl⟩:∃d t,r=d::t:=by
                cases r with
                | nil=>simp [jE] at aR
                | cons d t=>exact ⟨d,t,rfl⟩
               have:=Es (.inr (.inr ⟨rfl,aR.2⟩)) a7 aE
               show dd dK.1 dK.2.2.1=true
               rw [this.1];exact this.2
           · unfold ud at h
             split at h
             · cases h;simp at aE
             · cases h
theorem vZ:∀(f:Nat) (r:List UInt8) (p:Nat) (ws:List bQ),kl f r p=.ok ws→∀w ∈ ws,w.kind=3∨w.kind=4∨w.kind=5→dd w.kind w.text=true
 | 0,r,p,ws,h,w,hw,_=>by simp only [kl,Except.ok.injEq] at h;subst h;cases hw
 | f+1,[],p,ws,h,w,hw,_=>by simp only [kl,Except.ok.injEq] at h;subst h;cases hw
 | f+1,c::r,p,ws,h,w,hw,az=>by
   simp only [kl] at h
   split at h
   · exact vZ f _ _ ws h w hw az
   · split at h
     · split at h
       · cases h
       · exact vZ f _ _ ws h w hw az
     · split at h
       · cases h
       · rename_i q a7
         cases aH:kl f ((c::r).drop q.2.2.2) (p+q.2.2.2) with
         | error aF=>rw [aH] at h;cases h
         | ok bH=>
           rw [aH] at h
           simp only [u0,Except.ok.injEq] at h
           subst h
           rcases List.mem_cons.1 hw with rfl | hw
           · exact YY a7 az
           · exact vZ f _ _ bH aH w hw az
theorem aaq {k:Int} {s:List UInt8} (az:k=3∨k=4∨k=5) (h:dd k s=true):iI (if k=5 then 39::s else s)=.ok [⟨k,0,0,s⟩]:=by
 obtain ⟨g1,g2,g3,g4⟩:=Et h
 obtain ⟨c,t,rfl⟩:=List.exists_cons_of_ne_nil g1
 have TS:∀d ∈ (if k=5 then 39::c::t else c::t),d.toNat<128:=by
  intro d aV
  have U:∀d ∈ c::t,d.toNat<128:=fun d aV=>NW (List.all_eq_true.1 g3 d aV)
  split at aV
  · rcases List.mem_cons.1 aV with rfl | aV
    · decide
    · exact U d aV
  · exact U d aV
 rw [Yq TS,if_neg (by split<;>simp only [List.length_cons] at g2 ⊢<;>omega)]
 have aj:ee c=true:=by rw [List.all_cons,Bool.and_eq_true] at g3;exact g3.1
 obtain ⟨bJ,cg⟩:=YE aj
 have rd:∀j:Int,(j=3→c::t≠[95]∧lz (c::t)=false)→hU j (c::t)=.ok (j,0,c::t,(c::t).length):=by
  intro j bG
  unfold hU
  simp only [My _ g3]
  rw [if_neg (fun q=>(bG q.1).1 q.2),if_neg (fun q=>by rw [(bG q.1).2] at q;simp at q),if_neg (by omega)]
 have fin:∀(d:UInt8) (u:List UInt8) (q:Int × Int × List UInt8 × Nat),blank d=false→d≠40→fy (d::u)=.ok q→q.2.2.2=(d::u).length→nt (d::u) 0=.ok [⟨q.1,q.2.1,0,q.2.2.1⟩]:=by
  intro d u q aF aM cm gH
  rw [Ki,aF,if_neg Bool.false_ne_true,Y5 aM,if_neg Bool.false_ne_true,cm]
  simp only [gH,List.drop_length]
  rfl
 rcases az with rfl | rfl | rfl
 · rw [if_neg (by decide)]
   rw [if_pos rfl] at g4
   simp only [Bool.and_eq_true,Bool.not_eq_true',decide_eq_false_iff_not,Bool.or_eq_true,beq_iff_eq] at g4
   have a8:fz c.toNat=true∨c=95:=g4.1.1.imp id (fun q=>Option.some.inj q)
   exact fin c t _ bJ cg (by rw [Y3 a8];exact rd 3 (fun _=>⟨g4.1.2,g4.2⟩)) rfl
 · rw [if_neg (by decide)]
   rw [if_neg (by decide),if_pos rfl] at g4
   have aD:ka c.toNat=true:=g4
   obtain ⟨c8,kX,n3,n4⟩:=Tp aD
   refine fin c t (4,0,c::t,(c::t).length) bJ cg ?_ rfl
   simp only [fy,c8,n3,aD,if_neg kX,Bool.false_eq_true,if_false,if_true,Bool.false_or,decide_eq_true_eq,if_neg n4]
   exact rd 4 (fun q=>absurd q (by decide))
 · rw [if_pos rfl]
   rw [if_neg (by decide),if_neg (by decide)] at g4
   refine fin 39 (c::t) (5,0,c::t,(c::t).length+1) (by decide) (by decide) ?_ rfl
   simp only [fy]
   rw [if_neg (by decide),if_neg (by decide),if_neg (by decide),if_neg (by decide),if_pos ⟨trivial,g4⟩,rd 5 (fun q=>absurd q (by decide))]
   rfl
def o3 (k:Int) (s:List UInt8):Bool:=decide (s.length≤64)&&decide (s≠[])&&(match iI (if k=5 then 39::s else s) with
 | .ok [w]=>decide (w.kind=k)&&decide (w.pos=0)&&decide (w.text≠[])&&decide ((if k=5 then 39::s else s)=(if w.kind=5 then 39::w.text else w.text))
 | _=>false)
theorem aci {k:Int} (az:k=3∨k=4∨k=5) (s:List UInt8):o3 k s=dd k s:=by
 rw [Bool.eq_iff_iff]
 refine ⟨fun h=>?_,fun h=>?_⟩
 · unfold o3 at h
   simp only [Bool.and_eq_true,decide_eq_true_eq] at h
   obtain ⟨_,aI⟩:=h
   split at aI
   · rename_i w hw
     simp only [Bool.and_eq_true,decide_eq_true_eq] at aI
     obtain ⟨⟨⟨aF,_⟩,_⟩,gH⟩:=aI
     subst aF
     have a7:dd w.kind w.text=true:=by
      generalize (if w.kind=5 then 39::s else s)=z at hw
      unfold iI at hw
      split at hw
      · cases hw
      · split at hw
        · cases hw
        · exact vZ _ _ _ _ hw w (by simp) az
     have:s=w.text:=by
      split at gH
      · exact (List.cons.inj gH).2
      · exact gH
     rw [this];exact a7
   · cases aI
 · obtain ⟨g1,g2,_,_⟩:=Et h
   unfold o3
   rw [aaq az h]
   simp [g1,g2]
theorem Ho (t:bc):t.deep=fX t.l+1:=by cases t;simp only [bc.deep,bc.l]
theorem size_eq (t:bc):t.size=1+fa t.l:=by cases t;simp only [bc.size,bc.l]
theorem K8:∀l m:List bc,fX (l++m)=max (fX l) (fX m)
 | [],m=>by simp [fX]
 | t::l,m=>by rw [List.cons_append,fX,fX,K8 l m,Nat.max_assoc]
theorem Ln:∀l m:List bc,fa (l++m)=fa l+fa m
 | [],m=>by simp [fa]
 | t::l,m=>by rw [List.cons_append,fa,fa,Ln l m,Nat.add_assoc]
theorem take_one {l:List bc} {i:Nat} (h:i<l.length):l.take (i+1)=l.take i++[l[i]]:=by rw [List.take_succ_eq_append_getElem h]
theorem K9 {l:List bc} {i:Nat} (h:i<l.length):fX (l.take (i+1))=max (fX (l.take i)) l[i].deep:=by rw [take_one h,K8,fX,fX,Nat.max_zero]
mutual
theorem RZ:∀t:bc,t.deep≤t.size
 | .mk k n a s l=>by rw [bc.deep,bc.size];have:=zv l;omega
theorem zv:∀l:List bc,fX l≤fa l
 | []=>Nat.le_refl _
 | t::l=>by rw [fX,fa];have:=RZ t;have:=zv l;omega
end
theorem Lo (l:List bc) (i:Nat):fa (l.take i)≤fa l:=by
 have:=Ln (l.take i) (l.drop i)
 rw [List.take_append_drop] at this
 omega
theorem Ky (a b:Nat):(if (a:Int) < (b:Int) then (b:Int) else (a:Int))=((max a b:Nat):Int):=by
 by_cases h:(a:Int) < (b:Int)
 · rw [if_pos h,Nat.max_eq_right (by omega)]
 · rw [if_neg h,Nat.max_eq_left (by omega)]
set_option maxHeartbeats 1000000 in
theorem B9:∀(N:Nat) (t:bc),t.size≤N→N≤1000000000→∀(ab:List V) (h:ae),cl Any h t.enc ab→bK Tryz.prog 13 [.agg ab] h fun x aa=>x=.int .i64 (t.deep:Nat)∧Ext h aa
 | 0,t,aR,_,_,_,_=>by have:=tU t;omega
 | N+1,t,aR,CG,ab,h,H=>by
   obtain ⟨dA,rfl,L,_⟩:=bc.open H
   have bt:N≤1000000000:=by omega
   have ol:=L.one
   have aj:=L.len
   have hle:=L.le
   rw [List.length_map] at aj hle
   refine Pk rfl (dn ?_)
   unfold Bs
   obtain ⟨U,ai,aF,eA⟩:=jv h [.int .i64 t.k,.int .i64 t.n,.int .i64 t.a,.str t.s,dA]
   simp +contextual only [ol.1,ol.2.1,ai,eA.g,aj,↓al,aw,simprocAttr]
   refine hj (fun r g=>r 1=.ptr (aG h.next) 0∧r 7=dA∧r 8=.int .i64 t.l.length∧∃i:Nat,r 3=.int .i64 (fX (t.l.take i):Nat)∧r 9=.int .i64 i∧i≤t.l.length∧Ext U g) (fun r g=>t.l.length - (r 9).toN) ?_ ?_
   · exact ⟨by simp only [↓al,dB,simprocAttr],by simp only [↓al,dB,simprocAttr],by simp only [↓al,dB,simprocAttr],0,by simp only [↓al,dB,simprocAttr]<;>rfl,by simp only [↓al,dB,simprocAttr]<;>rfl,by omega,Ext.refl U⟩
   rintro r g ⟨bs,eT,fl,i,b3,rW,aC,E⟩
   unfold GW
   have A:=eA.ext E
   have ht:=L.ext (aF.trans E)
   have hc:=Lo t.l i
   have kJ:=zv (t.l.take i)
   have TU:=size_eq t
   by_cases aO:i<t.l.length
   · have g0:((i:Int) < (t.l.length:Int))=True:=eq_true (by omega)
     obtain ⟨b,off,wl,dy,X,iw,ld⟩:=bc.tx ht (k:=.i64) aO
     have lA:=ld g (Ext.refl g)
     have hn:=iw.one
     have fc:=nH aO (by unfold top at hle;omega)
     have b4:=tT (t:=t) (List.getElem_mem aO)
     obtain ⟨g1,dp,bu,B⟩:=j6 g [.int .i64 0,.int .i64 0,.int .i64 0,.str [],.cq] [.int .i64 t.l[i].k,.int .i64 t.l[i].n,.int .i64 t.l[i].a,.str t.l[i].s,wl]
     simp +contextual only [bs,b3,eT,fl,rW,g0,dy,lA,dp,B.g,hn.1,hn.2.1,↓al,aw,simprocAttr]
     refine bV (B9 N t.l[i] (by omega) bt _ g1 (X.ext bu)) ?_
     rintro x g2 ⟨rfl,aM⟩
     have cm:=bu.trans aM
     have hm:=Ky (fX (t.l.take i)) t.l[i].deep
     rw [←K9 aO] at hm
     simp +contextual only [bs,b3,eT,fl,rW,fc,Er,hm,↓al,aw,simprocAttr]
     exact ⟨⟨i+1,rfl,rfl,aO,E.trans cm⟩,by omega⟩
   · have g0:((i:Int) < (t.l.length:Int))=False:=eq_false (by omega)
     rw [List.take_of_length_le (by omega)] at b3 kJ hc
     have wd:IntKind.i64.wrap ((fX t.l:Int)+1)=((t.deep:Nat):Int):=by rw [Ho,wrap_i64 (by omega) (by omega)];rfl
     simp +contextual only [bs,b3,eT,fl,rW,g0,wd,↓al,aw,simprocAttr]
     exact aF.trans E
set_option maxHeartbeats 1000000 in
theorem LC:∀(N:Nat) (t:bc),t.size≤N→N≤1000000000→∀(ab:List V) (h:ae),cl Any h t.enc ab→bK Tryz.prog 14 [.agg ab] h fun x aa=>x=.int .i64 (t.deep:Nat)∧Ext h aa
 | 0,t,aR,_,_,_,_=>by have:=tU t;omega
 | N+1,t,aR,CG,ab,h,H=>by
   obtain ⟨dA,rfl,L,_⟩:=bc.open H
   have bt:N≤1000000000:=by omega
   have ol:=L.one
   have aj:=L.len
   have hle:=L.le
   rw [List.length_map] at aj hle
   refine Pn rfl (dn ?_)
   unfold Bt
   obtain ⟨U,ai,aF,eA⟩:=jv h [.int .i64 t.k,.int .i64 t.n,.int .i64 t.a,.str t.s,dA]
   simp +contextual only [ol.1,ol.2.1,ai,eA.g,aj,↓al,aw,simprocAttr]
   refine hj (fun r g=>r 1=.ptr (aG h.next) 0∧∃i:Nat,r 3=.int .i64 (fX (t.l.take i):Nat)∧r 4=.int .i64 i∧i≤t.l.length∧Ext U g) (fun r g=>t.l.length - (r 4).toN) ?_ ?_
   · exact ⟨by simp only [↓al,dB,simprocAttr],0,by simp only [↓al,dB,simprocAttr]<;>rfl,by simp only [↓al,dB,simprocAttr]<;>rfl,by omega,Ext.refl U⟩
   rintro r g ⟨bs,i,b3,rW,aC,E⟩
   unfold GX
   have A:=eA.ext E
   have ht:=L.ext (aF.trans E)
   have hc:=Lo t.l i
   have kJ:=zv (t.l.take i)
   have TU:=size_eq t
   by_cases aO:i<t.l.length
   · have g0:((i:Int) < (t.l.length:Int))=True:=eq_true (by omega)
     obtain ⟨b,off,wl,dy,X,iw,ld⟩:=bc.tx ht (k:=.i64) aO
     have lA:=ld g (Ext.refl g)
     have hn:=iw.one
     have fc:=nH aO (by unfold top at hle;omega)
     have b4:=tT (t:=t) (List.getElem_mem aO)
     simp +contextual only [bs,b3,rW,g0,A.g,aj,dy,lA,↓al,aw,simprocAttr]
     refine bV (LC N t.l[i] (by omega) bt _ g X) ?_
     rintro x g2 ⟨rfl,aM⟩
     have cm:=aM
     have hm:=Ky (fX (t.l.take i)) t.l[i].deep
     rw [←K9 aO] at hm
     simp +contextual only [bs,b3,rW,fc,Er,hm,↓al,aw,simprocAttr]
     exact ⟨⟨i+1,rfl,rfl,aO,E.trans cm⟩,by omega⟩
   · have g0:((i:Int) < (t.l.length:Int))=False:=eq_false (by omega)
     rw [List.take_of_length_le (by omega)] at b3 kJ hc
     have wd:IntKind.i64.wrap ((fX t.l:Int)+1)=((t.deep:Nat):Int):=by rw [Ho,wrap_i64 (by omega) (by omega)];rfl
     simp +contextual only [bs,b3,A.g,aj,rW,g0,wd,↓al,aw,simprocAttr]
     exact aF.trans E
end Go.Proofs.YtkehcalakofigaaGreatDoor
