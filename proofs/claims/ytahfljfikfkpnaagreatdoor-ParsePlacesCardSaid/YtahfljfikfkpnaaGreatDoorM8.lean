/- The chapter's functions, walked by the abstract machine: plain lemmas, no condition. Printed by a program from longer texts: names made short. -/
import Derived.Test.YtahfljfikfkpnaaGreatDoorM6
import Derived.Test.YtahfljfikfkpnaaGreatDoorM7
import Derived.Shelf.Unicode.Decode
import Derived.Shelf.Unicode.DecodeSlow
import Derived.Shelf.Unicode.DecodeAny
import Derived.Shelf.Strconv.Atoi
import Derived.Shelf.Pu.ParseUintPublic10
import Derived.Lib.LaidU8T
set_option linter.unusedSectionVars false
set_option linter.unusedSimpArgs false
set_option linter.unusedVariables false
set_option maxHeartbeats 64000000
noncomputable section
namespace Go.Proofs.YtahfljfikfkpnaaGreatDoor
section
open Go bf
theorem adb:Extern.findNext Tryz.f127=none:=by kernel_rfl
theorem ada:(Extern.find Tryz.f127)=some Extern.BytealgIndexByte.indexByte:=by kernel_rfl
theorem agi (s:List UInt8) (c:Int) (h:ae):gm Tryz.prog 127 [.str s,.int .u8 c] h (.int .i64 (Lib.indexByte s c.toNat.toUInt8)) h:=
 agl (by decide) Tryz.func127 (by kernel_rfl) (by kernel_rfl) adb ada s c h
theorem agh (s:List UInt8) (c:Int) (h:ae):gm Tryz.prog 77 [.str s,.int .u8 c] h (.int .i64 (Lib.indexByte s c.toNat.toUInt8)) h:=by refine n2 (aaR.z rfl (dw ?_));unfold Rm;simp only [↓ag,ak,simprocAttr];refine eo (agi _ _ _) ?_;simp only [↓ag,ak,simprocAttr]
theorem T9 (s:List UInt8) (c:Int) (h:ae):gm Tryz.prog 33 [.str s,.int .u8 c] h (.int .i64 (Lib.indexByte s c.toNat.toUInt8)) h:=by refine n2 (aaA.z rfl (dw ?_));unfold Q1;simp only [↓ag,ak,simprocAttr];refine eo (agh _ _ _) ?_;simp only [↓ag,ak,simprocAttr]
end
section
open Go Go.Shelf
def Tryz.aiM:Go.Shelf.Ren:=⟨fun | 197=>76 | 260=>126 | n=>n,fun | 9=>9 | 21=>21 | 3=>3 | 4=>4 | 5=>5 | 105=>94 | 119=>145 | 0=>0 | 46=>131 | 139=>148 | 138=>147 | n=>n,fun | 3=>0 | 4=>1 | n=>n⟩
theorem Tryz.aiL:Go.Proofs.Lays.n197 Tryz.prog Tryz.aiM:={
 mixed:=by kernel_rfl,
 f197:=Tryz.func76.trans (congrArg some (by kernel_rfl)),
 f260:=Tryz.func126.trans (congrArg some (by kernel_rfl)),
 t0:=Tryz.underlying0,
 a0:=Tryz.isAgg0,
 z0:=Tryz.sizeOf0,
 v0:=Tryz.zeroValue0,
 t3:=Tryz.underlying3,
 a3:=Tryz.isAgg3,
 z3:=Tryz.sizeOf3,
 v3:=Tryz.zeroValue3,
 t4:=Tryz.underlying4,
 a4:=Tryz.isAgg4,
 z4:=Tryz.sizeOf4,
 v4:=Tryz.zeroValue4,
 t5:=Tryz.underlying5,
 a5:=Tryz.isAgg5,
 z5:=Tryz.sizeOf5,
 v5:=Tryz.zeroValue5,
 t9:=Tryz.underlying9,
 a9:=Tryz.isAgg9,
 z9:=Tryz.sizeOf9,
 v9:=Tryz.zeroValue9,
 t21:=Tryz.underlying21,
 a21:=Tryz.isAgg21,
 z21:=Tryz.sizeOf21,
 v21:=Tryz.zeroValue21,
 t46:=Tryz.underlying131,
 a46:=Tryz.isAgg131,
 z46:=Tryz.sizeOf131,
 v46:=Tryz.zeroValue131,
 t105:=Tryz.underlying94,
 a105:=Tryz.isAgg94,
 z105:=Tryz.sizeOf94,
 v105:=Tryz.zeroValue94,
 t119:=Tryz.underlying145,
 a119:=Tryz.isAgg145,
 z119:=Tryz.sizeOf145,
 t138:=Tryz.underlying147,
 a138:=Tryz.isAgg147,
 z138:=Tryz.sizeOf147,
 v138:=Tryz.zeroValue147,
 t139:=Tryz.underlying148,
 a139:=Tryz.isAgg148,
 z139:=Tryz.sizeOf148,
 v139:=Tryz.zeroValue148,
 g3:=by kernel_rfl,
 g4:=by kernel_rfl}
def Tryz.aiK:Go.Shelf.Ren:=⟨fun | 172=>162 | 244=>197 | 245=>161 | 247=>214 | 279=>193 | 280=>194 | 281=>195 | 282=>196 | 287=>160 | 316=>212 | 171=>93 | 205=>213 | 321=>191 | 322=>192 | 243=>142 | 246=>181 | 283=>200 | 284=>201 | 285=>202 | 286=>203 | 129=>219 | 317=>218 | 318=>220 | 319=>221 | 320=>222 | 337=>227 | 338=>228 | n=>n,fun | 9=>9 | 3=>3 | 75=>126 | 76=>138 | 4=>4 | 5=>5 | 167=>167 | 37=>26 | 0=>0 | 85=>188 | 2=>2 | 168=>169 | 53=>124 | 175=>127 | 46=>131 | 210=>186 | 127=>166 | 145=>198 | 143=>196 | 21=>21 | 171=>174 | 173=>177 | 212=>191 | 51=>153 | 20=>20 | 213=>192 | 232=>201 | 233=>202 | 80=>140 | n=>n,fun | 15=>3 | 16=>4 | 17=>5 | 18=>6 | 19=>7 | n=>n⟩
theorem Tryz.aiJ:Go.Proofs.Lays.n172 Tryz.prog Tryz.aiK:={
 mixed:=by kernel_rfl,
 f129:=Tryz.func219.trans (congrArg some (by kernel_rfl)),
 f171:=Tryz.func93.trans (congrArg some (by kernel_rfl)),
 f172:=Tryz.func162.trans (congrArg some (by kernel_rfl)),
 f205:=Tryz.func213.trans (congrArg some (by kernel_rfl)),
 f243:=Tryz.func142.trans (congrArg some (by kernel_rfl)),
 f244:=Tryz.func197.trans (congrArg some (by kernel_rfl)),
 f245:=Tryz.func161.trans (congrArg some (by kernel_rfl)),
 f246:=Tryz.func181.trans (congrArg some (by kernel_rfl)),
 f247:=Tryz.func214.trans (congrArg some (by kernel_rfl)),
 f279:=Tryz.func193.trans (congrArg some (by kernel_rfl)),
 f280:=Tryz.func194.trans (congrArg some (by kernel_rfl)),
 f281:=Tryz.func195.trans (congrArg some (by kernel_rfl)),
 f282:=Tryz.func196.trans (congrArg some (by kernel_rfl)),
 f283:=Tryz.func200.trans (congrArg some (by kernel_rfl)),
 f284:=Tryz.func201.trans (congrArg some (by kernel_rfl)),
 f285:=Tryz.func202.trans (congrArg some (by kernel_rfl)),
 f286:=Tryz.func203.trans (congrArg some (by kernel_rfl)),
 f287:=Tryz.func160.trans (congrArg some (by kernel_rfl)),
 f316:=Tryz.func212.trans (congrArg some (by kernel_rfl)),
 f317:=Tryz.func218.trans (congrArg some (by kernel_rfl)),
 f318:=Tryz.func220.trans (congrArg some (by kernel_rfl)),
 f319:=Tryz.func221.trans (congrArg some (by kernel_rfl)),
 f320:=Tryz.func222.trans (congrArg some (by kernel_rfl)),
 f321:=Tryz.func191.trans (congrArg some (by kernel_rfl)),
 f322:=Tryz.func192.trans (congrArg some (by kernel_rfl)),
 f337:=Tryz.func227.trans (congrArg some (by kernel_rfl)),
 f338:=Tryz.func228.trans (congrArg some (by kernel_rfl)),
 t0:=Tryz.underlying0,
 a0:=Tryz.isAgg0,
 z0:=Tryz.sizeOf0,
 v0:=Tryz.zeroValue0,
 t2:=Tryz.underlying2,
 a2:=Tryz.isAgg2,
 z2:=Tryz.sizeOf2,
 v2:=Tryz.zeroValue2,
 t3:=Tryz.underlying3,
 a3:=Tryz.isAgg3,
 z3:=Tryz.sizeOf3,
 v3:=Tryz.zeroValue3,
 t4:=Tryz.underlying4,
 a4:=Tryz.isAgg4,
 z4:=Tryz.sizeOf4,
 v4:=Tryz.zeroValue4,
 t5:=Tryz.underlying5,
 a5:=Tryz.isAgg5,
 z5:=Tryz.sizeOf5,
 v5:=Tryz.zeroValue5,
 t9:=Tryz.underlying9,
 a9:=Tryz.isAgg9,
 z9:=Tryz.sizeOf9,
 v9:=Tryz.zeroValue9,
 t20:=Tryz.underlying20,
 a20:=Tryz.isAgg20,
 z20:=Tryz.sizeOf20,
 v20:=Tryz.zeroValue20,
 t21:=Tryz.underlying21,
 a21:=Tryz.isAgg21,
 z21:=Tryz.sizeOf21,
 v21:=Tryz.zeroValue21,
 t37:=Tryz.underlying26,
 a37:=Tryz.isAgg26,
 z37:=Tryz.sizeOf26,
 v37:=Tryz.zeroValue26,
 t46:=Tryz.underlying131,
 a46:=Tryz.isAgg131,
 z46:=Tryz.sizeOf131,
 v46:=Tryz.zeroValue131,
 t51:=Tryz.underlying153,
 a51:=Tryz.isAgg153,
 z51:=Tryz.sizeOf153,
 v51:=Tryz.zeroValue153,
 t53:=Tryz.underlying124,
 a53:=Tryz.isAgg124,
 z53:=Tryz.sizeOf124,
 v53:=Tryz.zeroValue124,
 t75:=Tryz.underlying126,
 a75:=Tryz.isAgg126,
 z75:=Tryz.sizeOf126,
 v75:=Tryz.zeroValue126,
 t76:=Tryz.underlying138,
 a76:=Tryz.isAgg138,
 z76:=Tryz.sizeOf138,
 v76:=Tryz.zeroValue138,
 t85:=Tryz.underlying188,
 a85:=Tryz.isAgg188,
 z85:=Tryz.sizeOf188,
 v85:=Tryz.zeroValue188,
 t127:=Tryz.underlying166,
 a127:=Tryz.isAgg166,
 z127:=Tryz.sizeOf166,
 v127:=Tryz.zeroValue166,
 t143:=Tryz.underlying196,
 a143:=Tryz.isAgg196,
 z143:=Tryz.sizeOf196,
 v143:=Tryz.zeroValue196,
 t145:=Tryz.underlying198,
 a145:=Tryz.isAgg198,
 z145:=Tryz.sizeOf198,
 v145:=Tryz.zeroValue198,
 t167:=Tryz.underlying167,
 a167:=Tryz.isAgg167,
 z167:=Tryz.sizeOf167,
 v167:=Tryz.zeroValue167,
 t168:=Tryz.underlying169,
 a168:=Tryz.isAgg169,
 z168:=Tryz.sizeOf169,
 v168:=Tryz.zeroValue169,
 t171:=Tryz.underlying174,
 a171:=Tryz.isAgg174,
 z171:=Tryz.sizeOf174,
 v171:=Tryz.zeroValue174,
 t173:=Tryz.underlying177,
 a173:=Tryz.isAgg177,
 z173:=Tryz.sizeOf177,
 v173:=Tryz.zeroValue177,
 t175:=Tryz.underlying127,
 a175:=Tryz.isAgg127,
 z175:=Tryz.sizeOf127,
 v175:=Tryz.zeroValue127,
 t210:=Tryz.underlying186,
 a210:=Tryz.isAgg186,
 z210:=Tryz.sizeOf186,
 v210:=Tryz.zeroValue186,
 t212:=Tryz.underlying191,
 a212:=Tryz.isAgg191,
 z212:=Tryz.sizeOf191,
 v212:=Tryz.zeroValue191,
 t213:=Tryz.underlying192,
 a213:=Tryz.isAgg192,
 z213:=Tryz.sizeOf192,
 t232:=Tryz.underlying201,
 a232:=Tryz.isAgg201,
 z232:=Tryz.sizeOf201,
 v232:=Tryz.zeroValue201,
 t233:=Tryz.underlying202,
 a233:=Tryz.isAgg202,
 z233:=Tryz.sizeOf202,
 v233:=Tryz.zeroValue202,
 g15:=by kernel_rfl,
 g16:=by kernel_rfl,
 g17:=by kernel_rfl,
 g18:=by kernel_rfl,
 g19:=by kernel_rfl}
def Tryz.LJ:Go.Shelf.Ren:=⟨fun | 14=>129 | 16=>160 | 17=>161 | 19=>191 | 20=>192 | 21=>193 | 22=>194 | 23=>195 | 24=>196 | 25=>212 | 27=>93 | 26=>213 | 28=>142 | 29=>181 | 30=>200 | 31=>201 | 32=>202 | 33=>203 | 35=>219 | 34=>218 | 36=>220 | 37=>221 | 38=>222 | 39=>227 | 40=>228 | n=>n,fun | 9=>9 | 3=>3 | 22=>124 | 24=>126 | 25=>127 | 4=>4 | 34=>167 | 5=>5 | 36=>131 | 37=>26 | 0=>0 | 39=>169 | 21=>21 | 44=>186 | 47=>166 | 50=>198 | 48=>196 | 2=>2 | 52=>174 | 55=>177 | 59=>191 | 60=>153 | 20=>20 | 61=>192 | 65=>201 | 66=>202 | 67=>140 | n=>n,fun | 0=>3 | 1=>4 | 2=>5 | 3=>6 | 4=>7 | n=>n⟩
theorem Tryz.Ut:Go.Proofs.LaysPu.n14 Tryz.prog Tryz.LJ:={
 mixed:=by kernel_rfl,
 f14:=Tryz.func129.trans (congrArg some (by kernel_rfl)),
 f16:=Tryz.func160.trans (congrArg some (by kernel_rfl)),
 f17:=Tryz.func161.trans (congrArg some (by kernel_rfl)),
 f19:=Tryz.func191.trans (congrArg some (by kernel_rfl)),
 f20:=Tryz.func192.trans (congrArg some (by kernel_rfl)),
 f21:=Tryz.func193.trans (congrArg some (by kernel_rfl)),
 f22:=Tryz.func194.trans (congrArg some (by kernel_rfl)),
 f23:=Tryz.func195.trans (congrArg some (by kernel_rfl)),
 f24:=Tryz.func196.trans (congrArg some (by kernel_rfl)),
 f25:=Tryz.func212.trans (congrArg some (by kernel_rfl)),
 f26:=Tryz.func213.trans (congrArg some (by kernel_rfl)),
 f27:=Tryz.func93.trans (congrArg some (by kernel_rfl)),
 f28:=Tryz.func142.trans (congrArg some (by kernel_rfl)),
 f29:=Tryz.func181.trans (congrArg some (by kernel_rfl)),
 f30:=Tryz.func200.trans (congrArg some (by kernel_rfl)),
 f31:=Tryz.func201.trans (congrArg some (by kernel_rfl)),
 f32:=Tryz.func202.trans (congrArg some (by kernel_rfl)),
 f33:=Tryz.func203.trans (congrArg some (by kernel_rfl)),
 f34:=Tryz.func218.trans (congrArg some (by kernel_rfl)),
 f35:=Tryz.func219.trans (congrArg some (by kernel_rfl)),
 f36:=Tryz.func220.trans (congrArg some (by kernel_rfl)),
 f37:=Tryz.func221.trans (congrArg some (by kernel_rfl)),
 f38:=Tryz.func222.trans (congrArg some (by kernel_rfl)),
 f39:=Tryz.func227.trans (congrArg some (by kernel_rfl)),
 f40:=Tryz.func228.trans (congrArg some (by kernel_rfl)),
 t0:=Tryz.underlying0,
 a0:=Tryz.isAgg0,
 z0:=Tryz.sizeOf0,
 v0:=Tryz.zeroValue0,
 i0:=by kernel_rfl,
 t2:=Tryz.underlying2,
 a2:=Tryz.isAgg2,
 z2:=Tryz.sizeOf2,
 v2:=Tryz.zeroValue2,
 i2:=by kernel_rfl,
 t3:=Tryz.underlying3,
 a3:=Tryz.isAgg3,
 z3:=Tryz.sizeOf3,
 v3:=Tryz.zeroValue3,
 i3:=by kernel_rfl,
 t4:=Tryz.underlying4,
 a4:=Tryz.isAgg4,
 z4:=Tryz.sizeOf4,
 v4:=Tryz.zeroValue4,
 i4:=by kernel_rfl,
 t5:=Tryz.underlying5,
 a5:=Tryz.isAgg5,
 z5:=Tryz.sizeOf5,
 v5:=Tryz.zeroValue5,
 i5:=by kernel_rfl,
 t9:=Tryz.underlying9,
 a9:=Tryz.isAgg9,
 z9:=Tryz.sizeOf9,
 v9:=Tryz.zeroValue9,
 i9:=by kernel_rfl,
 t20:=Tryz.underlying20,
 a20:=Tryz.isAgg20,
 z20:=Tryz.sizeOf20,
 v20:=Tryz.zeroValue20,
 i20:=by kernel_rfl,
 t21:=Tryz.underlying21,
 a21:=Tryz.isAgg21,
 z21:=Tryz.sizeOf21,
 v21:=Tryz.zeroValue21,
 i21:=by kernel_rfl,
 t22:=Tryz.underlying124,
 a22:=Tryz.isAgg124,
 z22:=Tryz.sizeOf124,
 v22:=Tryz.zeroValue124,
 i22:=by kernel_rfl,
 t24:=Tryz.underlying126,
 a24:=Tryz.isAgg126,
 z24:=Tryz.sizeOf126,
 v24:=Tryz.zeroValue126,
 i24:=by kernel_rfl,
 t25:=Tryz.underlying127,
 a25:=Tryz.isAgg127,
 z25:=Tryz.sizeOf127,
 v25:=Tryz.zeroValue127,
 i25:=by kernel_rfl,
 t34:=Tryz.underlying167,
 a34:=Tryz.isAgg167,
 z34:=Tryz.sizeOf167,
 v34:=Tryz.zeroValue167,
 i34:=by kernel_rfl,
 c34:=by kernel_rfl,
 t36:=Tryz.underlying131,
 a36:=Tryz.isAgg131,
 z36:=Tryz.sizeOf131,
 v36:=Tryz.zeroValue131,
 i36:=by kernel_rfl,
 t37:=Tryz.underlying26,
 a37:=Tryz.isAgg26,
 z37:=Tryz.sizeOf26,
 v37:=Tryz.zeroValue26,
 i37:=by kernel_rfl,
 t39:=Tryz.underlying169,
 a39:=Tryz.isAgg169,
 z39:=Tryz.sizeOf169,
 v39:=Tryz.zeroValue169,
 i39:=by kernel_rfl,
 t44:=Tryz.underlying186,
 a44:=Tryz.isAgg186,
 z44:=Tryz.sizeOf186,
 v44:=Tryz.zeroValue186,
 i44:=by kernel_rfl,
 t47:=Tryz.underlying166,
 a47:=Tryz.isAgg166,
 z47:=Tryz.sizeOf166,
 v47:=Tryz.zeroValue166,
 i47:=by kernel_rfl,
 t48:=Tryz.underlying196,
 a48:=Tryz.isAgg196,
 z48:=Tryz.sizeOf196,
 v48:=Tryz.zeroValue196,
 i48:=by kernel_rfl,
 t50:=Tryz.underlying198,
 a50:=Tryz.isAgg198,
 z50:=Tryz.sizeOf198,
 v50:=Tryz.zeroValue198,
 i50:=by kernel_rfl,
 t52:=Tryz.underlying174,
 a52:=Tryz.isAgg174,
 z52:=Tryz.sizeOf174,
 v52:=Tryz.zeroValue174,
 i52:=by kernel_rfl,
 t55:=Tryz.underlying177,
 a55:=Tryz.isAgg177,
 z55:=Tryz.sizeOf177,
 v55:=Tryz.zeroValue177,
 i55:=by kernel_rfl,
 t59:=Tryz.underlying191,
 a59:=Tryz.isAgg191,
 z59:=Tryz.sizeOf191,
 v59:=Tryz.zeroValue191,
 i59:=by kernel_rfl,
 t60:=Tryz.underlying153,
 a60:=Tryz.isAgg153,
 z60:=Tryz.sizeOf153,
 v60:=Tryz.zeroValue153,
 i60:=by kernel_rfl,
 t61:=Tryz.underlying192,
 a61:=Tryz.isAgg192,
 z61:=Tryz.sizeOf192,
 t65:=Tryz.underlying201,
 a65:=Tryz.isAgg201,
 z65:=Tryz.sizeOf201,
 v65:=Tryz.zeroValue201,
 i65:=by kernel_rfl,
 t66:=Tryz.underlying202,
 a66:=Tryz.isAgg202,
 z66:=Tryz.sizeOf202,
 v66:=Tryz.zeroValue202,
 i66:=by kernel_rfl,
 t67:=Tryz.underlying140,
 a67:=Tryz.isAgg140,
 z67:=Tryz.sizeOf140,
 v67:=Tryz.zeroValue140,
 i67:=by kernel_rfl,
 g0:=by kernel_rfl,
 m0:=by kernel_rfl,
 g1:=by kernel_rfl,
 m1:=by kernel_rfl,
 g2:=by kernel_rfl,
 m2:=by kernel_rfl,
 g3:=by kernel_rfl,
 m3:=by kernel_rfl,
 g4:=by kernel_rfl,
 m4:=by kernel_rfl}
def Tryz.Cy:Go.Shelf.Ren:=⟨fun | 260=>126 | n=>n,fun | 9=>9 | 21=>21 | 3=>3 | 4=>4 | 5=>5 | 119=>145 | 0=>0 | 46=>131 | 139=>148 | 138=>147 | n=>n,fun | 3=>0 | 4=>1 | n=>n⟩
theorem Tryz.aiN:Go.Proofs.Lays.n260 Tryz.prog Tryz.Cy:={
 mixed:=by kernel_rfl,
 f260:=Tryz.func126.trans (congrArg some (by kernel_rfl)),
 t0:=Tryz.underlying0,
 a0:=Tryz.isAgg0,
 z0:=Tryz.sizeOf0,
 v0:=Tryz.zeroValue0,
 t3:=Tryz.underlying3,
 a3:=Tryz.isAgg3,
 z3:=Tryz.sizeOf3,
 v3:=Tryz.zeroValue3,
 t4:=Tryz.underlying4,
 a4:=Tryz.isAgg4,
 z4:=Tryz.sizeOf4,
 v4:=Tryz.zeroValue4,
 t5:=Tryz.underlying5,
 a5:=Tryz.isAgg5,
 z5:=Tryz.sizeOf5,
 v5:=Tryz.zeroValue5,
 t9:=Tryz.underlying9,
 a9:=Tryz.isAgg9,
 z9:=Tryz.sizeOf9,
 v9:=Tryz.zeroValue9,
 t21:=Tryz.underlying21,
 a21:=Tryz.isAgg21,
 z21:=Tryz.sizeOf21,
 v21:=Tryz.zeroValue21,
 t46:=Tryz.underlying131,
 a46:=Tryz.isAgg131,
 z46:=Tryz.sizeOf131,
 v46:=Tryz.zeroValue131,
 t119:=Tryz.underlying145,
 a119:=Tryz.isAgg145,
 z119:=Tryz.sizeOf145,
 t138:=Tryz.underlying147,
 a138:=Tryz.isAgg147,
 z138:=Tryz.sizeOf147,
 v138:=Tryz.zeroValue147,
 t139:=Tryz.underlying148,
 a139:=Tryz.isAgg148,
 z139:=Tryz.sizeOf148,
 v139:=Tryz.zeroValue148,
 g3:=by kernel_rfl,
 g4:=by kernel_rfl}
end
section
open Go bf Go.RowKit
section
open Go.Shelf
theorem acd (s:ByteArray) (w:World) (d_:Lib.Utf8Tabs 0 1 w):
 Calls Tryz.prog 76 #[.string s] w fun e w'=>e=.returned (.tuple #[.int .i32 (Lib.decodeGo s).1,.int .i64 (Lib.decodeGo s).2])/\Below w.heap.size w w':=Any.utf8_DecodeRuneInString Tryz.aiL s w d_
theorem Zq (s:ByteArray) (n:Int) (aD:s.size<=18) (h:Lib.atoi s.data.toList=some n) (w:World):
 Calls Tryz.prog 162 #[.string s] w fun e w'=>e=.returned (.tuple #[.int .i64 n,.nilIface])/\Below w.heap.size w w':=(Any.strconv_Atoi Tryz.aiJ s n aD h w).mono fun e w' q=>⟨q.1,by obtain ⟨t,rfl⟩:=q.2;exact Lib.bytesWorld_below _ _ _⟩
theorem alx (s:ByteArray) (aff:s.size<=9223372036854775806) (u:Nat) (h:Lib.parseUintB 64 s.data.toList=.ok u) (w:World):
 Calls Tryz.prog 129 #[.string s,.int .i64 10,.int .i64 64] w fun e w'=>e=.returned (.tuple #[.int .u64 u,.nilIface])/\Below w.heap.size w w':=(Any.strconv_ParseUint_10_at64_ok Tryz.Ut s aff u h w).mono fun e w' q=>⟨q.1,by
  rcases q.2 with rfl | rfl
  . exact Below.refl _ _
  . exact Lib.bytesWorld_below _ _ _⟩
theorem alz (s:ByteArray) (xy:s.size<=281474976710656) (h:Lib.parseUintB 64 s.data.toList=.range) (w:World) (he:yM w 4):
 Calls Tryz.prog 129 #[.string s,.int .i64 10,.int .i64 64] w fun e w'=>(∃p,e=.returned (.tuple #[.int .u64 18446744073709551615,.iface (Tryz.LJ.t 39) p]))/\Below w.heap.size w w':=by
 obtain ⟨aS,U,ad⟩:=he;refine (Any.strconv_ParseUint_10_at64_range Tryz.Ut s xy h aS w U ad).mono fun e w' q=>?_;obtain ⟨N,aC,_,_,bR⟩:=q;exact ⟨⟨_,aC⟩,bR⟩
end
theorem Cw {f:FuncId} (bg:Nat.beq f dx=false) {args:List V} {v:V} {h:ae} (hL:∃fn,Tryz.prog.funcs[f]? =some fn/\fn.body.isSome=true) (H:∀E xs w,HW w->bm E args xs->Calls Tryz.prog f xs.toArray w fun e w'=>∃x,e=.returned x/\Rel E v x/\Below w.heap.size w w'):gm Tryz.prog f args h v h:=by refine ⟨fun e=>by subst e;simp at bg,.inl ⟨hL,fun al E w xs ay s=>?_⟩⟩;refine (H E xs w (Lay.gy s.laid s.frame) ay).mono fun e w' q=>?_;obtain ⟨x,rfl,bE,ah⟩:=q;exact ⟨E,x,rfl,fun _ _ q=>q,bE,s.below ah⟩
theorem aca (s:List UInt8) (h:ae):gm Tryz.prog 76 [.str s] h (.tuple [.int .i32 (Lib.decodeGo ⟨⟨s⟩⟩).1,.int .i64 (Lib.decodeGo ⟨⟨s⟩⟩).2]) h:=by refine Cw (by decide) ⟨_,Tryz.func76,by kernel_rfl⟩ fun E xs w aD ay=>?_;obtain ⟨y,de,rfl,an,rfl⟩:=ay;simp only [Rel] at an;subst an;refine (acd ⟨⟨s⟩⟩ w aD.Xj).mono fun e w' q=>?_;obtain ⟨rfl,ah⟩:=q;refine ⟨_,rfl,?_,ah⟩;simp only [Rel];exact ⟨_,rfl,_,_,rfl,rfl,_,_,rfl,rfl,rfl⟩
theorem abM (s sub:List UInt8) (az:s.length<=100000) (h:ae):gm Tryz.prog 133 [.str s,.str sub] h (.bool (Lib.contains s sub)) h:=by refine Cw (by decide) ⟨_,Tryz.func133,by kernel_rfl⟩ fun E xs w aD ay=>?_;obtain ⟨y,de,rfl,an,z,rC,rfl,av,rfl⟩:=ay;simp only [Rel] at an av;subst an av;obtain ⟨m,hm⟩:=aD.maxLen;refine (RQ ⟨⟨s⟩⟩ ⟨⟨sub⟩⟩ m w (by show s.length<4294967281;omega) hm).mono fun e w' q=>?_;obtain ⟨rfl,rfl⟩:=q;refine ⟨_,rfl,?_,Below.refl _ _⟩;simp only [Rel]
theorem Zp (s:List UInt8) (n:Int) (aD:s.length<=18) (h:Lib.atoi s=some n) (ai:ae):gm Tryz.prog 162 [.str s] ai (.tuple [.int .i64 n,.nilIface]) ai:=by refine Cw (by decide) ⟨_,Tryz.func162,by kernel_rfl⟩ fun E xs w tr ay=>?_;obtain ⟨y,de,rfl,an,rfl⟩:=ay;simp only [Rel] at an;subst an;refine (Zq ⟨⟨s⟩⟩ n aD h w).mono fun e w' q=>?_;obtain ⟨rfl,ah⟩:=q;refine ⟨_,rfl,?_,ah⟩;simp only [Rel];exact ⟨_,rfl,_,_,rfl,rfl,_,_,rfl,rfl,rfl⟩
theorem alw (s:List UInt8) (u:Nat) (aD:s.length<=100000) (h:Lib.parseUintB 64 s=.ok u) (ai:ae):gm Tryz.prog 129 [.str s,.int .i64 10,.int .i64 64] ai (.tuple [.int .u64 u,.nilIface]) ai:=by refine Cw (by decide) ⟨_,Tryz.func129,by kernel_rfl⟩ fun E xs w tr ay=>?_;obtain ⟨y,de,rfl,an,z,rC,rfl,av,t,dp,rfl,aH,rfl⟩:=ay;simp only [Rel] at an av aH;subst an av aH;refine (alx ⟨⟨s⟩⟩ (by show s.length<=9223372036854775806;omega) u h w).mono fun e w' q=>?_;obtain ⟨rfl,ah⟩:=q;refine ⟨_,rfl,?_,ah⟩;simp only [Rel];exact ⟨_,rfl,_,_,rfl,rfl,_,_,rfl,rfl,rfl⟩
def acN:TypeId:=Tryz.LJ.t 39
theorem aly (s:List UInt8) (aD:s.length<=100000) (h:Lib.parseUintB 64 s=.range) (ai:ae):gm Tryz.prog 129 [.str s,.int .i64 10,.int .i64 64] ai (.tuple [.int .u64 18446744073709551615,.iface acN .bad]) ai:=by refine Cw (by decide) ⟨_,Tryz.func129,by kernel_rfl⟩ fun E xs w tr ay=>?_;obtain ⟨y,de,rfl,an,z,rC,rfl,av,t,dp,rfl,aH,rfl⟩:=ay;simp only [Rel] at an av aH;subst an av aH;refine (alz ⟨⟨s⟩⟩ (by show s.length<=281474976710656;omega) h w tr.Sw).mono fun e w' q=>?_;obtain ⟨⟨p,rfl⟩,ah⟩:=q;refine ⟨_,rfl,?_,ah⟩;simp only [Rel];exact ⟨_,rfl,_,_,rfl,rfl,_,_,rfl,⟨p,rfl,trivial⟩,rfl⟩
end
section
open Go bf
def oq (s:List UInt8) (i:Nat):Nat:=if decodeL s i=(65533,1) then 0 else (decodeL s i).2
def tY:Nat->List UInt8->Nat->Nat
 | 0,s,_=>s.length
 | f+1,s,a=>if a<s.length then (if oq s a=0 then a else tY f s (a+oq s a)) else s.length
def sy (s:List UInt8) (a:Nat):Nat:=tY (s.length-a) s a
def vS (s:List UInt8):Nat:=sy s 0
theorem Wn (s:List UInt8):∀(f g a:Nat),s.length-a<=f->s.length-a<=g->tY f s a=tY g s a
 | 0,g,a,U,ad=>by
   cases g with
   | zero=>rfl
   | succ g=>simp only [tY];rw [aqr (by omega)]
 | f+1,0,a,U,ad=>by simp only [tY];rw [aqr (by omega)]
 | f+1,g+1,a,U,ad=>by
   simp only [tY];by_cases a_:a<s.length
   . rw [aqw a_,aqw a_];by_cases aq:oq s a=0
     . rw [aqw aq,aqw aq]
     . rw [aqr aq,aqr aq];exact Wn s f g _ (by omega) (by omega)
   . rw [aqr a_,aqr a_]
theorem Wm {s:List UInt8} {a:Nat} (h:s.length<=a):sy s a=s.length:=by unfold sy;rw [show s.length-a=0 from by omega];rfl
theorem amo {s:List UInt8} {a:Nat} (h:a<s.length) (aq:oq s a=0):sy s a=a:=by unfold sy;rw [show s.length-a=s.length-a-1+1 from by omega,tY,aqw h,aqw aq]
theorem NK {s:List UInt8} {a:Nat} (h:a<s.length) (aq:oq s a≠0):sy s a=sy s (a+oq s a):=by unfold sy;rw [show s.length-a=s.length-a-1+1 from by omega,tY,aqw h,aqr aq];exact Wn s _ _ _ (by omega) (by omega)
def gw (c:UInt8):Bool:=o9 c.toNat
def gS (c:UInt8):Bool:=xQ c.toNat
def kp (l:List UInt8):Nat:=l.foldl (fun n c=>10 * n + (c.toNat-48)) 0
abbrev sY:=Except Int (Int × Int × List UInt8 × Nat)
def tN (r:List UInt8):sY:=
 let t:=r.takeWhile gw
 if 2147483647<kp t then .error 254 else .ok (1,(if 1073741823 < (kp t:Int) then (kp t:Int)-2147483648 else kp t),[],t.length)
def pS:List UInt8->Option (UInt8 × Nat)
 | []=>none
 | c::r=>if c=110 then some (10,1) else if c=116 then some (9,1) else if c=34 then some (34,1) else if c=92 then some (92,1) else
   if 2<=r.length/\gw c/\gw (r[0]?.getD 0)/\gw (r[1]?.getD 0)/\kp (c::r.take 2)<256 then some ((kp (c::r.take 2)).toUInt8,3) else none
def ry:Nat->List UInt8->Option (List UInt8 × Nat)
 | 0,_=>none
 | _+1,[]=>none
 | f+1,c::r=>if c=34 then some ([],1) else if c=92 then (match pS r with
    | none=>none
    | some (b,n)=>(ry f (r.drop n)).map fun q=>(b::q.1,q.2+n+1))
   else if c<32\/c=127 then none else (ry f r).map fun q=>(c::q.1,q.2+1)
def rz (r:List UInt8):Option (List UInt8 × Nat):=ry r.length r
def qw (r:List UInt8):sY:=
 match rz r with
 | none=>.error 252
 | some (b,n)=>if 4096<b.length then .error 255 else .ok (2,0,b,n+1)
def FT:List (List UInt8):=[[97,110,100],[98,101,103,105,110],[101,108,115,101],[101,110,100],[101,120,99,101,112,116,105,111,110],[102,97,108,115,101],[102,117,110],[105,102],[105,110],[108,101,116],[109,97,116,99,104],[109,111,100],[111,102],[114,97,105,115,101],[114,101,99],[116,104,101,110],[116,114,117,101],[116,114,121],[116,121,112,101],[119,105,116,104]]
def kn:List (List UInt8):=[[59,59],[58,61],[45,62],[60,61],[59],[40],[41],[44],[61],[60],[43],[45],[42],[47],[124],[33],[95]]
def re (t:List UInt8):Bool:=FT.contains t
def jv (kind:Int) (r:List UInt8):sY:=
 let t:=r.takeWhile gS
 if kind=3/\t=[95] then .ok (7,0,t,t.length) else if kind=3/\re t then .ok (6,0,t,t.length) else if 64<t.length then .error 255 else .ok (kind,0,t,t.length)
def uc (r:List UInt8):sY:=
 match kn.find? (·.isPrefixOf r) with
 | some t=>.ok (7,0,t,t.length)
 | none=>.error 251
def r5:List UInt8->Bool
 | d::_=>ko d.toNat
 | []=>false
def hd:List UInt8->sY
 | []=>.error 0
 | c::r=>if gw c then tN (c::r) else if c=34 then qw r else if ko c.toNat||c=95 then jv 3 (c::r) else if pW c.toNat then jv 4 (c::r) else
   if c=39/\r5 r then (jv 5 r).map fun q=>(q.1,q.2.1,q.2.2.1,q.2.2.2+1) else uc (c::r)
structure aK where
 kind:Int
 num:Int
 pos:Nat
 text:List UInt8
deriving DecidableEq
def blank (c:UInt8):Bool:=c=9||c=10||c=13||c=32
def y5 (w:aK):Except (Int × Nat) (List aK)->Except (Int × Nat) (List aK)
 | .ok ws=>.ok (w::ws)
 | .error e=>.error e
def ll:Nat->List UInt8->Nat->Except (Int × Nat) (List aK)
 | 0,_,_=>.ok []
 | _+1,[],_=>.ok []
 | f+1,c::r,p=>if blank c then ll f r (p+1) else if ([40,42]:List UInt8).isPrefixOf (c::r) then (match h4 (c::r) 0 with
    | none=>.error (253,p)
    | some n=>ll f ((c::r).drop n) (p+n))
   else match hd (c::r) with
    | .error e=>.error (e,p)
    | .ok q=>y5 ⟨q.1,q.2.1,p,q.2.2.1⟩ (ll f ((c::r).drop q.2.2.2) (p+q.2.2.2))
def sn (r:List UInt8) (p:Nat):Except (Int × Nat) (List aK):=ll r.length r p
def hp (s:List UInt8):Except (Int × Nat) (List aK):=
 if 65536<s.length then .error (3,0) else if vS s<s.length then .error (250,vS s) else sn s 0
theorem N8 {p:UInt8->Bool} {c:UInt8} {r:List UInt8} (h:p c=true):1<=((c::r).takeWhile p).length:=by simp only [arF,h,aqu,aqp];omega
theorem amV {t:List UInt8} (h:t ∈ kn):1<=t.length:=by revert t;decide
theorem NU {c:UInt8} (h:ko c.toNat=true):gS c=true:=by unfold gS xQ;rw [h];simp
theorem S3 {c:UInt8} (h:pW c.toNat=true):gS c=true:=by unfold gS xQ;rw [h];simp
theorem Xb {c:UInt8} (h:c=95):gS c=true:=by subst h;decide
theorem U8 {k:Int} {r:List UInt8} {q:Int × Int × List UInt8 × Nat} (h:jv k r=.ok q):q.2.2.2=(r.takeWhile gS).length:=by
 unfold jv at h;simp only at h
 split at h
 . cases h;rfl
 . split at h
   . cases h;rfl
   . split at h
     . cases h
     . cases h;rfl
theorem Gg {r:List UInt8} {q:Int × Int × List UInt8 × Nat} (h:hd r=.ok q):1<=q.2.2.2:=by
 match r,h with
 | c::r,h=>
   simp only [hd] at h
   split at h
   . rename_i aY;unfold tN at h;simp only at h
     split at h
     . cases h
     . cases h;exact N8 aY
   . split at h
     . unfold qw at h
       split at h
       . cases h
       . split at h
         . cases h
         . cases h;simp only;omega
     . split at h
       . rename_i az;rw [U8 h];simp only [aro,aqy] at az;exact N8 (az.elim NU Xb)
       . split at h
         . rename_i az;rw [U8 h];exact N8 (S3 az)
         . split at h
           . cases aL:jv 5 r with
             | error e=>rw [aL] at h;cases h
             | ok fb=>rw [aL] at h;cases h;simp only;omega
           . unfold uc at h
             split at h
             . rename_i t aB;cases h;exact amV (List.mem_of_find?_eq_some aB)
             . cases h
theorem Gm:∀{r:List UInt8} {d:Int} {n:Nat},h4 r d=some n->2<=n
 | [],d,n,h=>by simp [h4] at h
 | [_],d,n,h=>by simp [h4] at h
 | x::y::r,d,n,h=>by
   rw [h4] at h
   split at h
   . cases aI:h4 r (d+1) with
     | none=>rw [aI] at h;cases h
     | some m=>rw [aI] at h;cases h;simp only;omega
   . split at h
     . split at h
       . cases h;omega
       . cases aI:h4 r (d-1) with
         | none=>rw [aI] at h;cases h
         | some m=>rw [aI] at h;cases h;simp only;omega
     . cases aI:h4 (y::r) d with
       | none=>rw [aI] at h;cases h
       | some m=>rw [aI] at h;cases h;have:=Gm aI;simp only;omega
theorem CC:∀(f g:Nat) (r:List UInt8) (p:Nat),r.length<=f->r.length<=g->ll f r p=ll g r p
 | 0,g,r,p,U,ad=>by have:r=[]:=arW.1 (by omega);subst this;cases g<;>rfl
 | f+1,0,r,p,U,ad=>by have:r=[]:=arW.1 (by omega);subst this;rfl
 | f+1,g+1,[],p,U,ad=>rfl
 | f+1,g+1,c::r,p,U,ad=>by
   simp only [aqp] at U ad;simp only [ll]
   split
   . exact CC f g _ _ (by omega) (by omega)
   . split
     . split
       . rfl
       . rename_i n aL;have:=Gm aL;exact CC f g _ _ (by rw [aqU,aqp];omega) (by rw [aqU,aqp];omega)
     . split
       . rfl
       . rename_i q aI;have:=Gg aI;rw [CC f g _ _ (by rw [aqU,aqp];omega) (by rw [aqU,aqp];omega)]
theorem UK (c:UInt8) (r:List UInt8) (p:Nat):sn (c::r) p=if blank c then sn r (p+1) else if ([40,42]:List UInt8).isPrefixOf (c::r) then (match h4 (c::r) 0 with
 | none=>.error (253,p)
 | some n=>sn ((c::r).drop n) (p+n))
 else match hd (c::r) with
  | .error e=>.error (e,p)
  | .ok q=>y5 ⟨q.1,q.2.1,p,q.2.2.1⟩ (sn ((c::r).drop q.2.2.2) (p+q.2.2.2)):=by
 unfold sn;simp only [aqp,ll]
 split
 . rfl
 . split
   . split
     . rfl
     . rename_i n aL;have:=Gm aL;exact CC _ _ _ _ (by rw [aqU,aqp];omega) (aqh _)
   . split
     . rfl
     . rename_i q aI;have:=Gg aI;rw [CC _ _ _ _ (by rw [aqU,aqp];omega) (aqh _)]
theorem N_:∀(f g:Nat) (r:List UInt8),r.length<=f->r.length<=g->ry f r=ry g r
 | 0,g,r,U,ad=>by have:r=[]:=arW.1 (by omega);subst this;cases g<;>rfl
 | f+1,0,r,U,ad=>by have:r=[]:=arW.1 (by omega);subst this;rfl
 | f+1,g+1,[],U,ad=>rfl
 | f+1,g+1,c::r,U,ad=>by
   simp only [aqp] at U ad;simp only [ry]
   split
   . rfl
   . split
     . split
       . rfl
       . rw [N_ f g _ (by rw [aqU];omega) (by rw [aqU];omega)]
     . split
       . rfl
       . rw [N_ f g _ (by omega) (by omega)]
theorem anz:rz []=none:=rfl
theorem anx (c:UInt8) (r:List UInt8):rz (c::r)=if c=34 then some ([],1) else if c=92 then (match pS r with
 | none=>none
 | some (b,n)=>(rz (r.drop n)).map fun q=>(b::q.1,q.2+n+1))
 else if c<32\/c=127 then none else (rz r).map fun q=>(c::q.1,q.2+1):=by
 unfold rz;simp only [aqp,ry]
 split
 . rfl
 . split
   . split
     . rfl
     . rw [N_ _ _ _ (by rw [aqU];omega) (aqh _)]
   . rfl
theorem SV:∀(l:List UInt8) (a:Nat),a<=l.foldl (fun n c=>10 * n + (c.toNat-48)) a
 | [],a=>aqh _
 | c::l,a=>by simp only [List.foldl_cons];exact aqn (by omega) (SV l _)
def mx (a:Nat) (l:List UInt8):Nat:=l.foldl (fun n c=>10 * n + (c.toNat-48)) a
theorem adt (a:Nat) (c:UInt8) (l:List UInt8):mx a (c::l)=mx (10 * a + (c.toNat-48)) l:=by unfold mx;rw [List.foldl_cons]
theorem alv (M:Nat) (dt:M<18446744073709551620) (l:List UInt8):∀(a:Nat),(∀c ∈ l,gw c=true)->(mx a l<=M->Lib.parseUintM M a l=.ok (mx a l))/\(a<=M->¬mx a l<=M->Lib.parseUintM M a l=.range):=by
 induction l with
 | nil=>
   intro a _;refine ⟨fun _=>?_,fun U ad=>absurd U ad⟩;simp only [Lib.parseUintM,mx,List.foldl_nil]
 | cons c l agb=>
   intro a h;have aq:=h c (aq8 ..);simp only [gw,o9,aqi,aqy] at aq;have aey:48<=c.toNat/\c.toNat<=57:=by omega
   have aT:=agb (10 * a + (c.toNat-48)) (fun x ay=>h x (aq2 _ ay));have hm:10 * a + (c.toNat-48)<=mx (10 * a + (c.toNat-48)) l:=SV l (10 * a + (c.toNat-48));simp only [Lib.parseUintM,aey,and_self,aqu];rw [Nat.mul_comm a 10,adt];have oy:10 * a<=10 * a + (c.toNat-48):=Nat.le_add_right _ _;generalize 10 * a + (c.toNat-48)=A at aT hm oy ⊢;refine ⟨fun a'=>?_,fun a_ kR=>?_⟩
   . rw [aqr (by omega),aqr (by omega)];exact aT.1 a'
   . by_cases U:1844674407370955162<=a
     . rw [aqw U]
     . rw [aqr U];by_cases ad:M<A
       . rw [aqw ad]
       . rw [aqr ad];exact aT.2 (by omega) kR
theorem alu (l:List UInt8) (h:∀c ∈ l,gw c=true) (aD:l≠[]):(kp l<=18446744073709551615->Lib.parseUintB 64 l=.ok (kp l))/\(¬kp l<=18446744073709551615->Lib.parseUintB 64 l=.range):=by unfold Lib.parseUintB;rw [aqr aD,show (2 ^ 64-1:Nat)=18446744073709551615 from by decide];have:=alv 18446744073709551615 (by omega) l 0 h;exact ⟨this.1,this.2 (aqZ _)⟩
structure pJ (s:List UInt8) (p:Nat) (b:aN) (h:ae) (res:sY) (x:V) (ab:ae):Prop where
 mod:Mod (fun q=>q=b) h ab
 res:∃k n t,x=.agg [.int .i64 k,.int .i64 n,.int .i64 0,.str t]/\match res with
  | .ok q=>k=q.1/\n=q.2.1/\t=q.2.2.1/\ab.get b=gq s ((p+q.2.2.2:Nat):Int) 0/\p+q.2.2.2<=s.length
  | .error e=>e≠0/\∃a1:Int,ab.get b=gq s a1 e
theorem L8 {P:Program}:(fK.kP true 5).run P .nilIface .nilIface=some (.bool false):=rfl
theorem ajS {P:Program} (T:TypeId) (x:V):(fK.kP true 5).run P (.iface T x) .nilIface=some (.bool true):=rfl
theorem WZ {p:UInt8->Bool} {l:List UInt8}:∀c ∈ l.takeWhile p,p c=true:=fun c aq=>by
 induction l with
 | nil=>simp at aq
 | cons x l aT=>
   simp only [arF] at aq
   split at aq
   . rename_i ay;rcases aqN.1 aq with rfl | aq
     . exact ay
     . exact aT aq
   . simp at aq
theorem W0 (p:UInt8->Bool) (s:List UInt8) (a:Nat):((s.drop a).takeWhile p).length<=s.length-a:=by have:=W2 p (s.drop a);rwa [aqU] at this
theorem aj' (s:List UInt8) (a0:Nat) (b:aN) (h:ae) (ah:h.get b=gq s a0 0) (aV:a0<s.length) (az:s.length<=100000) (ib:Old h b) (aY:gw s[a0]=true):
 e9 Tryz.prog 80 [.ptr b 0] h (pJ s a0 b h (tN (s.drop a0))):=by
 refine aaU.z rfl (dw ?_);unfold Rq;have dR:(b=aE h.next)=False:=CO ib (aqh _);have dO:(aE h.next=b)=False:=by rw [<-dR];exact propext eq_comm
 simp only [ah,dR,dO,↓ag,ak,simprocAttr];have ay:Ext h (h.new (.bz [.int .i64 0,.int .i64 0,.int .i64 0,.str []] 0 false)):=(Ext.refl h).new _;refine cT (Wq s a0 0 b 79 o9 _ (by rw [ay.get _ ib,ah]) (by omega) az (by decide) (fun c h=>y7 c h)) ?_;rintro x U ⟨rfl,hm,aJ⟩;have lI:(fun c:UInt8=>o9 (c.toNat:Int))=gw:=rfl;rw [lI] at aJ ⊢;have xz:Mod (fun q=>q=b) h U:=(ay.mod _).trans hm;have g1:U.get (aE h.next)=.bz [.int .i64 0,.int .i64 0,.int .i64 0,.str []] 0 false:=by rw [hm.get _ (kf (by rw [jK];omega)) (by rw [dO];exact id)];simp only [↓ag,ak,simprocAttr]
 have dK:(s.drop a0).takeWhile gw≠[]:=by rw [drop_cons aV,arF,aY];simp
 have hlen:=W0 gw s a0;have ai:=alu ((s.drop a0).takeWhile gw) WZ dK;unfold gq at aJ;have B5:tN (s.drop a0)=if 2147483647<kp ((s.drop a0).takeWhile gw) then .error 254 else .ok (1,(if 1073741823 < (kp ((s.drop a0).takeWhile gw):Int) then (kp ((s.drop a0).takeWhile gw):Int)-2147483648 else kp ((s.drop a0).takeWhile gw)),[],((s.drop a0).takeWhile gw).length):=rfl;rw [B5];generalize (s.drop a0).takeWhile gw=t at *;simp only [↓ag,ak,simprocAttr];by_cases BM:kp t<=18446744073709551615
 . refine eo (alw t (kp t) (by omega) (ai.1 BM) U) ?_;generalize kp t=u at *;by_cases J0:(2147483647:Int) < (u:Int)
   . have zj:2147483647<u:=by omega
     simp only [L8,J0,g1,aJ,dR,dO,↓ag,ak,simprocAttr];refine ⟨(xz.set (fun _=>rfl) _).set (fun q=>absurd (show cM (aE h.next)<h.next from q) (by rw [dj];omega)) _,?_⟩;rw [aqw zj];refine ⟨_,_,_,rfl,by decide,((a0+t.length:Nat):Int),?_⟩;simp only [gq,dR,dO,↓ag,ak,simprocAttr]
   . have zj:¬2147483647<u:=by omega
     have b0:IntKind.i64.wrap (u:Int)=(u:Int):=wrap_i64 (by omega) (by omega);have bn:IntKind.i64.wrap ((u:Int)-2147483648)=(u:Int)-2147483648:=wrap_i64 (by omega) (by omega);by_cases S':(1073741823:Int) < (u:Int)
     . simp only [L8,J0,zj,S',g1,aJ,dR,dO,b0,bn,↓ag,ak,simprocAttr];refine ⟨(xz.set (fun q=>absurd (show cM (aE h.next)<h.next from q) (by rw [dj];omega)) _),?_⟩;refine ⟨_,_,_,rfl,rfl,rfl,rfl,?_,by show a0+t.length<=s.length;omega⟩;simp only [gq,aJ,dR,dO,↓ag,ak,simprocAttr]
     . simp only [L8,J0,zj,S',g1,aJ,dR,dO,b0,bn,↓ag,ak,simprocAttr];refine ⟨(xz.set (fun q=>absurd (show cM (aE h.next)<h.next from q) (by rw [dj];omega)) _),?_⟩;refine ⟨_,_,_,rfl,rfl,rfl,rfl,?_,by show a0+t.length<=s.length;omega⟩;simp only [gq,aJ,dR,dO,↓ag,ak,simprocAttr]
 . refine eo (aly t (by omega) (ai.2 BM) U) ?_;have zj:2147483647<kp t:=by omega
   rw [aqw zj];simp only [ajS,g1,aJ,dR,dO,↓ag,ak,simprocAttr];refine ⟨(xz.set (fun _=>rfl) _).set (fun q=>absurd (show cM (aE h.next)<h.next from q) (by rw [dj];omega)) _,?_⟩;refine ⟨_,_,_,rfl,by decide,((a0+t.length:Nat):Int),?_⟩;simp only [gq,dR,dO,↓ag,ak,simprocAttr]
theorem W' (c:UInt8):((c.toNat:Int)).toNat.toUInt8=c:=by rw [aqq];simp
theorem Ax (c:UInt8) (n:Nat) (aL:n<256):((c.toNat:Int)=(n:Int))=(c=n.toUInt8):=by
 apply propext;constructor
 . intro q;have:c.toNat=n:=by omega
   rw [<-UInt8.toNat_inj,this];simp;omega
 . intro q;subst q;simp;omega
theorem acQ (c:UInt8):Lib.indexByte [110,116,34,92] c=if c=110 then 0 else if c=116 then 1 else if c=34 then 2 else if c=92 then 3 else -1:=by
 simp only [Lib.indexByte,arO];by_cases U:c=110
 . subst U;decide
 . by_cases ad:c=116
   . subst ad;decide
   . by_cases aC:c=34
     . subst aC;decide
     . by_cases aX:c=92
       . subst aX;decide
       . have aM:¬(110:UInt8)=c:=fun q=>U q.symm;have bh:¬(116:UInt8)=c:=fun q=>ad q.symm;have cu:¬(34:UInt8)=c:=fun q=>aC q.symm;have dA:¬(92:UInt8)=c:=fun q=>aX q.symm;simp only [U,ad,aC,aX,aM,bh,cu,dA,aqs];rfl
theorem Jm {c:UInt8} (h:gw c=true):Lib.digitVal c=some (c.toNat-48):=by unfold Lib.digitVal;unfold gw o9 at h;simp only [aqi,aqy] at h;rw [aqw (by omega)]
theorem Zo {a b c:UInt8} (U:gw a=true) (ad:gw b=true) (aC:gw c=true):Lib.atoi [a,b,c]=some ((kp [a,b,c]:Nat):Int):=by
 have a_:=U;unfold gw o9 at a_;simp only [aqi,aqy] at a_;have eg:(a == 45)=false:=by rw [arx];rintro rfl;revert a_;decide
 have lZ:(a == 43)=false:=by rw [arx];rintro rfl;revert a_;decide
 simp [Lib.atoi,eg,lZ,Lib.decNat,Lib.decFrom,Jm U,Jm ad,Jm aC,kp];omega
theorem acR (s:List UInt8) (a0:Nat) (b:aN) (h:ae) (ah:h.get b=gq s a0 0) (aV:a0<s.length) (az:s.length<=100000) (ib:Old h b):
 e9 Tryz.prog 131 [.ptr b 0] h fun x ab=>Mod (fun q=>q=b) h ab/\match pS (s.drop (a0+1)) with
  | some (c,n)=>x=.int .u8 (c.toNat:Int)/\ab.get b=gq s ((a0+1+n:Nat):Int) 0/\a0+1+n<=s.length
  | none=>x=.int .u8 0/\ab.get b=gq s ((a0+1:Nat):Int) 252:=by
 refine Z5.z rfl (dw ?_);unfold Qm;unfold gq at ah ⊢;have b0:IntKind.i64.wrap ((a0:Int)+1)=((a0+1:Nat):Int):=by rw [wrap_i64 (by omega) (by omega)];rfl
 have f0:(0<=((a0+1:Nat):Int))=True:=aqO (by omega);have f1:(((a0+1:Nat):Int)<=(s.length:Int))=True:=aqO (by omega);have xx:(s.drop (a0+1)).length=s.length - (a0+1):=aqU;have z0:((0:Int)<=0)=True:=aqO (by omega);have qg:∀v,bf.Mod (fun q=>q=b) h ((h.set b v)):=fun v=>(Mod.refl (fun q=>q=b) h).set (fun _=>rfl) _;cases c_:s.drop (a0+1) with
 | nil=>
   simp only [ah,b0,f0,f1,aqq,c_,aqB,Int.natCast_zero,↓ag,ak,simprocAttr];refine ⟨(qg _).set (fun _=>rfl) _,?_⟩;simp only [pS,fG,aqu,arZ]
 | cons c r=>
   rw [c_] at xx;rw [aqp] at xx;have ef:(c::r=[])=False:=aqx (by simp);have f2:((0:Int) < ((r.length+1:Nat):Int))=True:=aqO (by omega);simp only [ah,b0,f0,f1,f2,ef,aqq,c_,Int.reduceToNat,z0,↓ag,ak,simprocAttr];refine eo (T9 _ _ _) ?_;rw [W',acQ];have bn:IntKind.i64.wrap (((a0+1:Nat):Int)+1)=((a0+2:Nat):Int):=by rw [wrap_i64 (by omega) (by omega)];omega
   by_cases bS:c=110
   . subst bS;simp only [ah,b0,bn,f0,f1,f2,ef,aqq,c_,Int.reduceToNat,z0,aqp,aqB,Nat.reduceAdd,Int.reduceLT,aq9,↓ag,ak,simprocAttr];refine ⟨(qg _).set (fun _=>rfl) _,rfl,?_⟩;simp only [fG,aqu];refine ⟨trivial,by omega⟩
   by_cases cJ:c=116
   . subst cJ;simp only [ah,b0,bn,f0,f1,f2,ef,aqq,c_,Int.reduceToNat,z0,aqp,aqB,Nat.reduceAdd,Int.reduceLT,aq9,bS,↓ag,ak,simprocAttr];refine ⟨(qg _).set (fun _=>rfl) _,rfl,?_⟩;simp only [fG,aqu];refine ⟨trivial,by omega⟩
   by_cases c3:c=34
   . subst c3;simp only [ah,b0,bn,f0,f1,f2,ef,aqq,c_,Int.reduceToNat,z0,aqp,aqB,Nat.reduceAdd,Int.reduceLT,aq9,bS,cJ,↓ag,ak,simprocAttr];refine ⟨(qg _).set (fun _=>rfl) _,rfl,?_⟩;simp only [fG,aqu];refine ⟨trivial,by omega⟩
   by_cases iC:c=92
   . subst iC;simp only [ah,b0,bn,f0,f1,f2,ef,aqq,c_,Int.reduceToNat,z0,aqp,aqB,Nat.reduceAdd,Int.reduceLT,aq9,bS,cJ,c3,↓ag,ak,simprocAttr];refine ⟨(qg _).set (fun _=>rfl) _,rfl,?_⟩;simp only [fG,aqu];refine ⟨trivial,by omega⟩
   match r,c_,xx,f2,ef with
   | [],c_,xx,f2,ef=>
     simp only [ah,b0,bn,f0,f1,f2,ef,aqq,c_,Int.reduceToNat,z0,aqp,aqB,Nat.reduceAdd,Int.reduceLT,aq9,bS,cJ,c3,iC,↓ag,ak,simprocAttr];refine ⟨(qg _).set (fun _=>rfl) _,?_⟩;simp [pS,bS,cJ,c3,iC,fG]
   | [_],c_,xx,f2,ef=>
     simp only [ah,b0,bn,f0,f1,f2,ef,aqq,c_,Int.reduceToNat,z0,aqp,aqB,Nat.reduceAdd,Int.reduceLT,aq9,bS,cJ,c3,iC,↓ag,ak,simprocAttr];refine ⟨(qg _).set (fun _=>rfl) _,?_⟩;simp [pS,bS,cJ,c3,iC,fG]
   | d1::d2::bu,c_,xx,f2,ef=>
     simp only [aqp] at xx;have g3:((3:Int)<=((bu.length+3:Nat):Int))=True:=aqO (by omega);have g2:((2:Int) < ((bu.length+3:Nat):Int))=True:=aqO (by omega);have g1:((1:Int) < ((bu.length+3:Nat):Int))=True:=aqO (by omega);have g0:((0:Int) < ((bu.length+3:Nat):Int))=True:=aqO (by omega);have em:pS (c::d1::d2::bu)=if gw c/\gw d1/\gw d2/\kp [c,d1,d2]<256 then some ((kp [c,d1,d2]).toUInt8,3) else none:=by simp [pS,bS,cJ,c3,iC]
     rw [em];simp only [ah,b0,bn,f0,f1,g0,g1,g2,g3,ef,aqq,c_,Int.reduceToNat,z0,aqp,aqB,Nat.reduceAdd,Int.reduceLT,aq9,bS,cJ,c3,iC,↓ag,ak,simprocAttr];refine eo (y7 _ _) ?_;have dg:∀x:UInt8,o9 (x.toNat:Int)=gw x:=fun _=>rfl;simp only [dg];cases aeG:gw c with
     | false=>
       simp only [ah,b0,bn,f0,f1,g0,g1,g2,g3,ef,aqq,c_,Int.reduceToNat,z0,aqp,aqB,Nat.reduceAdd,Int.reduceLT,aq9,bS,cJ,c3,iC,asn,aqk,↓ag,ak,simprocAttr];exact (qg _).set (fun _=>rfl) _
     | true=>
       simp only [ah,b0,bn,f0,f1,g0,g1,g2,g3,ef,aqq,c_,Int.reduceToNat,z0,aqp,aqB,Nat.reduceAdd,Int.reduceLT,aq9,bS,cJ,c3,iC,↓ag,ak,simprocAttr];refine eo (y7 _ _) ?_;simp only [dg];cases xl:gw d1 with
       | false=>
         simp only [ah,b0,bn,f0,f1,g0,g1,g2,g3,ef,aqq,c_,Int.reduceToNat,z0,aqp,aqB,Nat.reduceAdd,Int.reduceLT,aq9,bS,cJ,c3,iC,asn,and_false,aqk,↓ag,ak,simprocAttr];exact (qg _).set (fun _=>rfl) _
       | true=>
         simp only [ah,b0,bn,f0,f1,g0,g1,g2,g3,ef,aqq,c_,Int.reduceToNat,z0,aqp,aqB,Nat.reduceAdd,Int.reduceLT,aq9,bS,cJ,c3,iC,↓ag,ak,simprocAttr];refine eo (y7 _ _) ?_;simp only [dg];cases xm:gw d2 with
         | false=>
           simp only [ah,b0,bn,f0,f1,g0,g1,g2,g3,ef,aqq,c_,Int.reduceToNat,z0,aqp,aqB,Nat.reduceAdd,Int.reduceLT,aq9,bS,cJ,c3,iC,asn,and_false,aqk,↓ag,ak,simprocAttr];exact (qg _).set (fun _=>rfl) _
         | true=>
           have z3:((0:Int)<=3)=True:=aqO (by omega);simp only [ah,b0,bn,f0,f1,g0,g1,g2,g3,z3,ef,aqq,c_,Int.reduceToNat,z0,aqp,aqB,Nat.reduceAdd,Int.reduceLT,aq9,bS,cJ,c3,iC,↓ag,ak,simprocAttr];refine eo (Zp [c,d1,d2] _ (by simp) (Zo aeG xl xm) _) ?_;have gM:IntKind.i64.wrap (((a0+1:Nat):Int)+3)=((a0+4:Nat):Int):=by rw [wrap_i64 (by omega) (by omega)];omega
           generalize bE:kp [c,d1,d2]=v;by_cases Lg:(v:Int)<256
           . have hi:IntKind.u8.wrap (v:Int)=((v.toUInt8).toNat:Int):=by
              simp [IntKind.wrap,IntKind.bits,IntKind.signed]
             have Lh:v<256:=by omega
             simp only [ah,b0,bn,gM,hi,f0,f1,g0,g1,g2,g3,ef,Lg,Lh,aqq,c_,Int.reduceToNat,z0,aqp,aqB,Nat.reduceAdd,Int.reduceLT,aq9,bS,cJ,c3,iC,and_self,arZ,↓ag,ak,simprocAttr];refine ⟨(qg _).set (fun _=>rfl) _,?_⟩
             first | omega | (refine ⟨?_,by omega⟩;simp [fG]) | skip
           . have Lh:¬v<256:=by omega
             simp only [ah,b0,bn,gM,f0,f1,g0,g1,g2,g3,ef,Lg,Lh,aqq,c_,Int.reduceToNat,z0,aqp,aqB,Nat.reduceAdd,Int.reduceLT,aq9,bS,cJ,c3,iC,and_false,↓ag,ak,simprocAttr];exact (qg _).set (fun _=>rfl) _
theorem anT (c:UInt8) (n:Nat) (aL:n<256):((c.toNat:Int) < (n:Int))=(c<n.toUInt8):=by
 apply propext;rw [UInt8.lt_iff_toNat_lt];have:(n.toUInt8).toNat=n:=by simp;omega
 rw [this];omega
theorem anA (s:List UInt8) (a0:Nat) (b:aN) (h:ae) (ah:h.get b=gq s a0 0) (aV:a0<s.length) (az:s.length<=100000) (ib:Old h b):
 e9 Tryz.prog 81 [.ptr b 0] h (pJ s a0 b h (qw (s.drop (a0+1)))):=by
 refine aaV.z rfl (dw ?_);unfold Rr;have dR:(b=aE h.next)=False:=CO ib (aqh _);have dO:(aE h.next=b)=False:=by rw [<-dR];exact propext eq_comm
 have b0:IntKind.i64.wrap ((a0:Int)+1)=((a0+1:Nat):Int):=by rw [wrap_i64 (by omega) (by omega)];rfl
 unfold gq at ah;simp +contextual only [ah,dR,dO,b0,↓ag,ak,simprocAttr];have z7:∀{v:V} {ab:ae} {n:Nat} {us:List V},fe (h.next+1) ab 1 v n us->∀q,v.bd q->¬(fun q=>q=b) q:=by
  intro v ab n us gp q aI he;have U:=gp.base aI;rw [show q=b from he] at U;have ad:cM b<h.next:=ib
  omega
 have ZJ:∀{v:V} {ab:ae} {n:Nat} {us:List V},fe (h.next+1) ab 1 v n us->∀i,i<h.next+1->¬v.bd (aE i):=by intro v ab n us gp i aG aI;have U:=gp.base aI;rw [dj] at U;omega
 refine iV (fun r ab=>r 0=.ptr b 0/\r 2=.ptr (aE h.next) 0/\∃(a:Nat) (e:Int) (gf:List UInt8) (v:V),r 3=v/\ab.get b=.bz [.str s,.int .i64 a,.int .i64 e] 0 false/\a<=s.length/\a0+1<=a/\gf.length<=a/\
  ab.get (aE h.next)=.bz [.int .i64 0,.int .i64 0,.int .i64 0,.str []] 0 false/\Mod (fun q=>q=b) h ab/\h.next+1<=ab.next/\fe (h.next+1) ab 1 v gf.length (jE gf)/\
  ((e=0/\rz (s.drop (a0+1))=(rz (s.drop a)).map fun q=>(gf++q.1,q.2 + (a - (a0+1))))\/(e=252/\rz (s.drop (a0+1))=none)))
  (fun r ab=>(s.length - ((gW (ab.get b) 1).getD .bad).toN) + (252 - ((gW (ab.get b) 2).getD .bad).toN)) ?_ ?_
 . refine ⟨by simp only [dR,dO,↓ag,ak,simprocAttr],by simp only [dR,dO,↓ag,ak,simprocAttr],a0+1,0,[],.cn,by simp only [dR,dO,↓ag,ak,simprocAttr],by simp only [dR,dO,↓ag,ak,simprocAttr],by omega,by omega,by simp,by simp only [dR,dO,↓ag,ak,simprocAttr],?_,?_,⟨rfl,rfl⟩,.inl ⟨rfl,?_⟩⟩
   . exact (((Ext.refl h).new _).mod (fun q=>q=b)).self _
   . rw [rk,jK];exact aqh _
   . rw [ar7];cases rz (s.drop (a0+1))<;>rfl
 . rintro r ab ⟨bZ,b5,a,e,gf,v,b6,aJ,c1,dE,zQ,bK,hm,nJ,gp,bT⟩;unfold Rs;have TJ:Old ab b:=hm.cA ib;have fin:∀(ad:ae) (a1:Int),rz (s.drop (a0+1))=none->Mod (fun q=>q=b) h ad->ad.get b=.bz [.str s,.int .i64 a1,.int .i64 252] 0 false->
    pJ s a0 b h (qw (s.drop (a0+1))) (.agg [.int .i64 0,.int .i64 0,.int .i64 0,.str []]) (ad.set (aE h.next) (.bz [.int .i64 0,.int .i64 0,.int .i64 0,.str []] 0 false)):=by
    intro ad a1 aL lh BS;unfold qw;rw [aL];refine ⟨lh.set (fun q=>absurd (show cM (aE h.next)<h.next from q) (by rw [dj];omega)) _,_,_,_,rfl,by decide,a1,?_⟩;rw [fG,aqr (by rw [dO];exact id),BS];rfl
   have step:∀(ad:ae),Mod (fun q=>q=b) h ad->ab.next<=ad.next->fe (h.next+1) ad 1 v gf.length (jE gf)->∀(c:UInt8),∃v3 aC,ml 1 v (.slice (aE ad.next) 0 1 1) (ad.new (.bz [.int .u8 (c.toNat:Int)] 0 false))=.val v3 aC/\fe (h.next+1) aC 1 v3 (gf++[c]).length (jE (gf++[c]))/\Mod (fun q=>q=b) h aC/\h.next+1<=aC.next/\aC.get b=ad.get b/\aC.get (aE h.next)=ad.get (aE h.next):=by
    intro ad lh apo my c;obtain ⟨v3,aC,an,av,aH,bP,cE⟩:=Ip (cs:=[.int .u8 (c.toNat:Int)]) (by omega) my (by omega) (by unfold top;omega) rfl rfl;refine ⟨v3,aC,an,by rw [aqC,P'];exact av,lh.anD aH (fun q aI=>aqn (Nat.le_succ _) (my.base aI)),by omega,?_,?_⟩
    . exact aH.get _ (lh.cA ib) (fun aI=>z7 my _ aI rfl)
    . exact aH.get _ (kf (by omega)) (ZJ my _ (by omega))
   rcases bT with ⟨rfl,bT⟩ | ⟨rfl,bT⟩
   . by_cases gx:(s.length:Int)<=(a:Int)
     . have a_:a=s.length:=by omega
       rw [a_,asa,anz] at bT;simp +contextual only [bZ,b5,b6,aJ,gx,bK,dR,dO,↓ag,ak,simprocAttr];exact fin _ _ bT (hm.set (fun _=>rfl) _) (by rw [fG,aqw rfl])
     . have a':a<s.length:=by omega
       rw [drop_cons a',anx] at bT;have f0:(0<=(a:Int))=True:=aqO (by omega);have f1:((a:Int) < (s.length:Int))=True:=aqO (by omega);have bn:IntKind.i64.wrap ((a:Int)+1)=((a+1:Nat):Int):=by rw [wrap_i64 (by omega) (by omega)];rfl
       have mv:(((s[a]).toNat:Int)=34)=(s[a]=34):=Ax _ 34 (by omega);have Jv:(((s[a]).toNat:Int)=92)=(s[a]=92):=Ax _ 92 (by omega);have Sk:(((s[a]).toNat:Int)=127)=(s[a]=127):=Ax _ 127 (by omega);have Up:(((s[a]).toNat:Int)<32)=(s[a]<32):=anT _ 32 (by omega);by_cases bS:s[a]=34
       . rw [aqw bS] at bT;replace bS:(s[a]=34)=True:=aqO bS;simp only [arj,aqI] at bT;by_cases BM:(4096:Int) < (gf.length:Int)
         . have my:∀k dF,fe (h.next+1) ((ab.set b k).set b dF) 1 v gf.length (jE gf):=fun k dF=>gp.mod (((Mod.refl (fun q=>q=b) ab).set (fun _=>rfl) _).set (fun _=>rfl) _) (z7 gp);simp +contextual only [bZ,b5,b6,aJ,gx,bK,dR,dO,f0,f1,bn,mv,bS,gp.v.len,BM,RR (my _ _),aqm a',aqq,↓ag,ak,simprocAttr];refine ⟨((hm.set (fun _=>rfl) _).set (fun _=>rfl) _).set (fun q=>absurd (show cM (aE h.next)<h.next from q) (by rw [dj];omega)) _,_,_,_,rfl,?_⟩;unfold qw;rw [bT];simp only;rw [aqw (by omega)];refine ⟨by decide,((a+1:Nat):Int),?_⟩;simp only [gq,dR,dO,↓ag,ak,simprocAttr]
         . have my:∀k,fe (h.next+1) (ab.set b k) 1 v gf.length (jE gf):=fun k=>gp.mod ((Mod.refl (fun q=>q=b) ab).set (fun _=>rfl) _) (z7 gp);simp +contextual only [bZ,b5,b6,aJ,gx,bK,dR,dO,f0,f1,bn,mv,bS,gp.v.len,BM,RR (my _),aqm a',aqq,↓ag,ak,simprocAttr];refine ⟨(hm.set (fun _=>rfl) _).set (fun q=>absurd (show cM (aE h.next)<h.next from q) (by rw [dj];omega)) _,_,_,_,rfl,?_⟩;unfold qw;rw [bT];simp only;rw [aqr (by omega)];refine ⟨rfl,rfl,rfl,?_,?_⟩
           . simp only [gq,dR,dO,↓ag,ak,simprocAttr];rw [show a0 + (1 + (a - (a0+1))+1)=a+1 from by omega]
           . simp only;omega
       rw [aqr bS] at bT;by_cases cJ:s[a]=92
       . rw [aqw cJ] at bT;replace cJ:(s[a]=92)=True:=aqO cJ;simp +contextual only [bZ,b5,b6,aJ,gx,bK,dR,dO,f0,f1,bn,mv,Jv,bS,cJ,aqm a',aqq,↓ag,ak,simprocAttr];refine cT (acR s a b ab aJ a' az TJ) ?_;rintro x ad ⟨lh,ay⟩;have my:=gp.mod lh (z7 gp);have sg:ad.get (aE h.next)=.bz [.int .i64 0,.int .i64 0,.int .i64 0,.str []] 0 false:=by
          rw [lh.get _ (kf (by omega)) (by rw [dO];exact id),bK]
         have CQ:=lh.next
         obtain ⟨c,aq,se⟩:∃c:UInt8,x=.int .u8 (c.toNat:Int)/\((∃n,pS (s.drop (a+1))=some (c,n)/\ad.get b=gq s ((a+1+n:Nat):Int) 0/\a+1+n<=s.length)\/(pS (s.drop (a+1))=none/\ad.get b=gq s ((a+1:Nat):Int) 252)):=by
          cases zr:pS (s.drop (a+1)) with
          | none=>rw [zr] at ay;exact ⟨0,ay.1,.inr ⟨rfl,ay.2⟩⟩
          | some q=>rw [zr] at ay;exact ⟨q.1,ay.1,.inl ⟨q.2,rfl,ay.2⟩⟩
         subst aq;obtain ⟨v3,aC,an,av,aH,bP,cE,dG⟩:=step ad (hm.trans lh) CQ my c;have V6:fe (h.next+1) aC 1 v3 (gf.length+1) (jE (gf++[c])):=by rw [aqC] at av;exact av
         have Cn:aC.get (aE h.next)=.bz [.int .i64 0,.int .i64 0,.int .i64 0,.str []] 0 false:=by rw [dG,sg]
         unfold gq at se;rcases se with ⟨n,zr,BS,hle⟩ | ⟨zr,BS⟩
         . simp +contextual only [an,bZ,b5,aJ,BS,cE,dR,dO,↓ag,ak,simprocAttr];rw [zr] at bT;simp only at bT;refine ⟨⟨a+1+n,0,gf++[c],rfl,hle,by omega,by simp;omega,Cn,aH,bP,av,.inl ⟨rfl,?_⟩⟩,by omega⟩;rw [bT,ar3,asl];congr 1;funext q;simp only [Function.comp,aq7,List.singleton_append,aru,arZ];omega
         . simp +contextual only [an,bZ,b5,aJ,BS,cE,dR,dO,↓ag,ak,simprocAttr];rw [zr] at bT;exact ⟨⟨a+1,252,gf++[c],rfl,by omega,by omega,by simp;omega,Cn,aH,bP,av,.inr ⟨rfl,bT⟩⟩,by omega⟩
       rw [aqr cJ] at bT;by_cases c3:s[a]<32\/s[a]=127
       . rw [aqw c3] at bT;have qJ:(decide (s[a]<32)||decide (s[a]=127))=true:=by simpa using c3
         simp +contextual only [bZ,b5,b6,aJ,gx,bK,dR,dO,f0,f1,bn,mv,Jv,Sk,Up,bS,cJ,qJ,aqm a',aqq,↓ag,ak,simprocAttr];exact ⟨⟨a,252,gf,rfl,c1,dE,zQ,hm.self _,nJ,gp.mod ((Mod.refl (fun q=>q=b) ab).self _) (z7 gp),.inr ⟨rfl,bT⟩⟩,by omega⟩
       . rw [aqr c3] at bT;have qJ:(decide (s[a]<32)||decide (s[a]=127))=false:=by simpa using c3
         obtain ⟨v3,aC,an,av,aH,bP,cE,dG⟩:=step (ab.set b (.bz [.str s,.int .i64 ((a+1:Nat):Int),.int .i64 0] 0 false)) (hm.self _) (by rw [rk];exact aqh _) (gp.mod ((Mod.refl (fun q=>q=b) ab).self _) (z7 gp)) s[a];simp only [rk,fG,dR,dO,aqu,aqs] at an cE dG;simp +contextual only [an,bZ,b5,b6,aJ,gx,bK,dR,dO,f0,f1,bn,mv,Jv,Sk,Up,bS,cJ,qJ,cE,aqm a',aqq,↓ag,ak,simprocAttr];refine ⟨⟨a+1,0,gf++[s[a]],rfl,by omega,by omega,by simp;omega,by rw [dG,bK],aH,bP,av,.inl ⟨rfl,?_⟩⟩,by omega⟩;rw [bT,asl];congr 1;funext q;simp only [Function.comp,aq7,List.singleton_append,aru,arZ];omega
   . simp +contextual only [bZ,b5,b6,aJ,bK,dR,dO,↓ag,ak,simprocAttr];exact fin _ _ bT hm aJ
def LH:List UInt8:=[32,97,110,100,32,98,101,103,105,110,32,101,108,115,101,32,101,110,100,32,101,120,99,101,112,116,105,111,110,32,102,97,108,115,101,32,102,117,110,32,105,102,32,105,110,32,108,101,116,32,109,97,116,99,104,32,109,111,100,32,111,102,32,114,97,105,115,101,32,114,101,99,32,116,104,101,110,32,116,114,117,101,32,116,114,121,32,116,121,112,101,32,119,105,116,104,32]
def uZ:List (List UInt8)->List UInt8
 | []=>[32]
 | w::L=>32::(w++uZ L)
theorem adn:uZ FT=LH:=by decide
theorem adm (L:List (List UInt8)):∃r,uZ L=32::r:=by cases L<;>exact ⟨_,rfl⟩
theorem index_ge (sub:List UInt8):∀l:List UInt8,-1<=Lib.index l sub
 | []=>by simp only [Lib.index];split<;>decide
 | b::l=>by
   have:=index_ge sub l;simp only [Lib.index]
   split
   . decide
   . split<;>omega
theorem T_ (sub:List UInt8) (b:UInt8) (l:List UInt8):(0<=Lib.index (b::l) sub)↔(sub.isPrefixOf (b::l)=true\/0<=Lib.index l sub):=by
 have:=index_ge sub l;simp only [Lib.index]
 split
 . rename_i h;simp [h]
 . rename_i h
   split
   . rename_i ad;have:Lib.index l sub=-1:=by simpa using ad
     simp [h,this]
   . rename_i ad;have aC:¬Lib.index l sub=-1:=by simpa using ad
     simp only [h,aqk,false_or];omega
theorem Ub (x:List UInt8) (r:List UInt8):∀w:List UInt8,(32:UInt8) ∉ w->((0<=Lib.index (w++r) (32::x))↔0<=Lib.index r (32::x))
 | [],_=>Iff.rfl
 | b::w,h=>by
   rw [aqP,T_,Ub x r w (fun q=>h (aq2 _ q))];have ah:((32:UInt8) == b)=false:=by rw [arx];rintro rfl;exact h (aq8 ..)
   simp [List.isPrefixOf,ah]
theorem VU (r:List UInt8):∀(t w:List UInt8),(32:UInt8) ∉ t->(32:UInt8) ∉ w->((t++[32]).isPrefixOf (w++32::r)=true↔t=w)
 | [],[],_,_=>by simp [List.isPrefixOf]
 | [],b::w,_,h=>by
   have ah:((32:UInt8) == b)=false:=by rw [arx];rintro rfl;exact h (aq8 ..)
   simp [List.isPrefixOf,ah]
 | a::t,[],h,_=>by
   have ah:(a == (32:UInt8))=false:=by rw [arx];rintro rfl;exact h (aq8 ..)
   simp [List.isPrefixOf,ah]
 | a::t,b::w,h,ab=>by have aT:=VU r t w (fun q=>h (aq2 _ q)) (fun q=>ab (aq2 _ q));simp only [aqP,List.isPrefixOf,aqi,arO,aT,List.cons.injEq]
theorem Ua (t:List UInt8) (aB:(32:UInt8) ∉ t):∀L:List (List UInt8),(∀w ∈ L,(32:UInt8) ∉ w)->((0<=Lib.index (uZ L) (32::(t++[32])))↔t ∈ L)
 | [],_=>by cases t<;>simp [uZ,Lib.index,List.isPrefixOf]
 | w::L,h=>by
   have aT:=Ua t aB L (fun x ay=>h x (aq2 _ ay));have hw:=h w (aq8 ..);obtain ⟨r,aa⟩:=adm L;simp only [uZ];rw [T_,Ub _ _ _ hw,aT,aqN];have:(32::(t++[32])).isPrefixOf (32::(w++uZ L))=(t++[32]).isPrefixOf (w++uZ L):=by simp [List.isPrefixOf]
   rw [this,aa,VU r t w aB hw]
theorem abN (t:List UInt8) (aB:(32:UInt8) ∉ t):Lib.contains LH (32::(t++[32]))=re t:=by have:=Ua t aB FT (by decide);rw [adn] at this;unfold Lib.contains re;rw [arc,aqy,this];simp
theorem ajj {l:List UInt8}:(32:UInt8) ∉ l.takeWhile gS:=fun h=>by have:=WZ _ h;revert this;decide
theorem Gc (s:List UInt8) (a0:Nat) (k:Int) (b:aN) (h:ae) (ah:h.get b=gq s a0 0) (aV:a0<=s.length) (az:s.length<=100000) (ib:Old h b):
 e9 Tryz.prog 83 [.ptr b 0,.int .i64 k] h (pJ s a0 b h (jv k (s.drop a0))):=by
 refine aaX.z rfl (dw ?_);unfold Ru;have dR:(b=aE h.next)=False:=CO ib (aqh _);have dO:(aE h.next=b)=False:=by rw [<-dR];exact propext eq_comm
 simp only [ah,dR,dO,↓ag,ak,simprocAttr];have ay:Ext h (h.new (.bz [.int .i64 0,.int .i64 0,.int .i64 0,.str []] 0 false)):=(Ext.refl h).new _;refine cT (Wq s a0 0 b 132 xQ _ (by rw [ay.get _ ib,ah]) aV az (by decide) (fun c h=>ai4 c h)) ?_;rintro x U ⟨rfl,hm,aJ⟩;have lI:(fun c:UInt8=>xQ (c.toNat:Int))=gS:=rfl;rw [lI] at aJ ⊢;have xz:Mod (fun q=>q=b) h U:=(ay.mod _).trans hm;have g1:U.get (aE h.next)=.bz [.int .i64 0,.int .i64 0,.int .i64 0,.str []] 0 false:=by rw [hm.get _ (kf (by rw [jK];omega)) (by rw [dO];exact id)];simp only [↓ag,ak,simprocAttr]
 have hlen:=W0 gS s a0;have ad':(32:UInt8) ∉ (s.drop a0).takeWhile gS:=ajj;unfold gq at aJ;have B5:jv k (s.drop a0)=if k=3/\(s.drop a0).takeWhile gS=[95] then .ok (7,0,(s.drop a0).takeWhile gS,((s.drop a0).takeWhile gS).length) else if k=3/\re ((s.drop a0).takeWhile gS) then .ok (6,0,(s.drop a0).takeWhile gS,((s.drop a0).takeWhile gS).length) else if 64 < ((s.drop a0).takeWhile gS).length then .error 255 else .ok (k,0,(s.drop a0).takeWhile gS,((s.drop a0).takeWhile gS).length):=rfl;rw [B5];generalize (s.drop a0).takeWhile gS=t at *;have Gn:∀(dL:Int),pJ s a0 b h (.ok (dL,0,t,t.length)) (.agg [.int .i64 dL,.int .i64 0,.int .i64 0,.str t]) (U.set (aE h.next) (.bz [.int .i64 dL,.int .i64 0,.int .i64 0,.str t] 0 false)):=by intro dL;refine ⟨xz.fresh (aqh _) _,_,_,_,rfl,rfl,rfl,rfl,?_,by show a0+t.length<=s.length;omega⟩;rw [fG,aqr (by rw [dO];exact id),aJ];rfl
 have tail:(64<t.length->pJ s a0 b h (.error 255) (.agg [.int .i64 k,.int .i64 0,.int .i64 0,.str t]) ((U.set b (.bz [.str s,.int .i64 ((a0+t.length:Nat):Int),.int .i64 255] 0 false)).set (aE h.next) (.bz [.int .i64 k,.int .i64 0,.int .i64 0,.str t] 0 false))):=by intro aD;refine ⟨(xz.self _).fresh (aqh _) _,_,_,_,rfl,by decide,((a0+t.length:Nat):Int),?_⟩;simp only [gq,dR,dO,↓ag,ak,simprocAttr]
 by_cases ar:k=3
 . subst ar;by_cases hu:t=[95]
   . simp only [g1,aJ,dR,dO,hu,arZ,↓ag,ak,simprocAttr];subst hu;exact Gn 7
   . have t1:(1+t.length<=top)=True:=aqO (by unfold top;omega);have t2:(t.length+1+1<=top)=True:=aqO (by unfold top;omega);simp only [top] at t1 t2;simp only [g1,aJ,dR,dO,hu,arZ,aqC,t1,t2,↓ag,ak,simprocAttr];refine eo (abM LH (32::(t++[32])) (by decide) _) ?_;rw [abN t ad'];cases KB:re t with
     | true=>
       simp only [g1,aJ,dR,dO,hu,arZ,and_false,KB,aqC,t1,t2,↓ag,ak,simprocAttr];exact Gn 6
     | false=>
       by_cases aD:64<t.length
       . have gH:(64:Int) < (t.length:Int):=by omega
         simp only [g1,aJ,dR,dO,hu,aD,gH,arZ,and_false,KB,aqC,t1,t2,aqk,↓ag,ak,simprocAttr];exact tail aD
       . have gH:¬(64:Int) < (t.length:Int):=by omega
         simp only [g1,aJ,dR,dO,hu,aD,gH,arZ,and_false,KB,aqC,t1,t2,aqk,↓ag,ak,simprocAttr];exact Gn 3
 . by_cases aD:64<t.length
   . have gH:(64:Int) < (t.length:Int):=by omega
     simp only [g1,aJ,dR,dO,ar,aD,gH,asn,↓ag,ak,simprocAttr];exact tail aD
   . have gH:¬(64:Int) < (t.length:Int):=by omega
     simp only [g1,aJ,dR,dO,ar,aD,gH,asn,↓ag,ak,simprocAttr];exact Gn k
def Ap:List V:=kn.map V.str
theorem amW (h:ae):e9 Tryz.prog 85 [] h fun x ab=>x=.slice (aE h.next) 0 17 17/\ab=h.new (.bz Ap 0 false):=by refine aaZ.z rfl (dw ?_);unfold Rw;simp +contextual only [↓ag,ak,simprocAttr];rfl
theorem amU {i:Nat} (aG:i<17):Ap[i]? =some (.str (kn[i]'aG)):=by unfold Ap;rw [aq3,aqm (show i<kn.length from aG)];rfl
theorem adg (p:List UInt8->Bool) {i:Nat} (aG:i<17):(kn.drop i).find? p=if p (kn[i]'aG) then some (kn[i]'aG) else (kn.drop (i+1)).find? p:=by rw [aq0 (show i<kn.length from aG),List.find?_cons];cases p kn[i]<;>rfl
theorem pJ.store {s:List UInt8} {p:Nat} {b:aN} {h:ae} {z dF:cz} {res:sY} {x:V} {U:ae} (w:pJ s p b (h.new z) res x U) (ib:Old h b):pJ s p b h res x (U.set (aE h.next) dF):=by
 have dO:¬(aE h.next=b):=by
  intro q;have:cM b<h.next:=ib
  rw [<-q,dj] at this;omega
 obtain ⟨hm,k,n,t,ay,aa⟩:=w;refine ⟨((((Ext.refl h).new z).mod _).trans hm).fresh (aqh _) _,k,n,t,ay,?_⟩;cases res with
 | ok q=>simpa only [fG,aqr dO] using aa
 | error e=>simpa only [fG,aqr dO] using aa
theorem ajZ (s:List UInt8) (a0:Nat) (b:aN) (h:ae) (ah:h.get b=gq s a0 0) (aV:a0<s.length) (az:s.length<=100000) (ib:Old h b):
 e9 Tryz.prog 36 [.ptr b 0] h (pJ s a0 b h (hd (s.drop a0))):=by
 refine aaD.z rfl (dw ?_);unfold Q4;have dR:(b=aE h.next)=False:=CO ib (aqh _);have dO:(aE h.next=b)=False:=by rw [<-dR];exact propext eq_comm
 have j1:=ah;unfold gq at ah;have f0:(0<=(a0:Int))=True:=aqO (by omega);have f1:((a0:Int) < (s.length:Int))=True:=aqO (by omega);have ay:Ext h (h.new (.bz [.int .i64 0,.int .i64 0,.int .i64 0,.str []] 0 false)):=(Ext.refl h).new _;have zv:Old (h.new (.bz [.int .i64 0,.int .i64 0,.int .i64 0,.str []] 0 false)) b:=ay.cA ib;have BO:(h.new (.bz [.int .i64 0,.int .i64 0,.int .i64 0,.str []] 0 false)).get b=gq s a0 0:=by rw [ay.get _ ib,j1]
 have zh:∀{res:sY} {x:V} {U:ae},pJ s a0 b (h.new (.bz [.int .i64 0,.int .i64 0,.int .i64 0,.str []] 0 false)) res x U->U.get (aE h.next)=.bz [.int .i64 0,.int .i64 0,.int .i64 0,.str []] 0 false:=by intro res x U w;rw [w.mod.get _ (kf (by rw [jK];omega)) (by rw [dO];exact id)];simp only [↓ag,ak,simprocAttr]
 have aY:=drop_cons aV;rw [aY];have dg:o9 ((s[a0]).toNat:Int)=gw s[a0]:=rfl;have mv:(((s[a0]).toNat:Int)=34)=(s[a0]=34):=Ax _ 34 (by omega);have uV:(((s[a0]).toNat:Int)=95)=(s[a0]=95):=Ax _ 95 (by omega);have y9:(((s[a0]).toNat:Int)=39)=(s[a0]=39):=Ax _ 39 (by omega);simp +contextual only [ah,dR,dO,f0,f1,aqm aV,aqq,↓ag,ak,simprocAttr];refine eo (y7 _ _) ?_;rw [dg];cases U:gw s[a0] with
 | true=>
   have ao:hd (s[a0]::s.drop (a0+1))=tN (s.drop a0):=by rw [aY];simp only [hd,U,aqu]
   rw [ao];simp +contextual only [ah,dR,dO,f0,f1,aqm aV,aqq,↓ag,ak,simprocAttr];refine cT (aj' s a0 b _ BO aV az zv U) ?_;rintro x ai w;have g1:=zh w;obtain ⟨k,n,t,rfl,_⟩:=w.res;simp +contextual only [g1,ah,dR,dO,f0,f1,↓ag,ak,simprocAttr];exact w.store ib
 | false=>
   by_cases ad:s[a0]=34
   . have ao:hd (s[a0]::s.drop (a0+1))=qw (s.drop (a0+1)):=by simp only [hd];rw [aqr (by rw [U];exact arw),aqw ad]
     rw [ao];replace ad:=aqO ad;simp +contextual only [ah,dR,dO,f0,f1,mv,ad,aqm aV,aqq,↓ag,ak,simprocAttr];refine cT (anA s a0 b _ BO aV az zv) ?_;rintro x ai w;have g1:=zh w;obtain ⟨k,n,t,rfl,_⟩:=w.res;simp +contextual only [g1,ah,dR,dO,f0,f1,↓ag,ak,simprocAttr];exact w.store ib
   simp +contextual only [ah,dR,dO,f0,f1,mv,ad,aqm aV,aqq,↓ag,ak,simprocAttr];refine eo (Hd _ _) ?_;by_cases aC:(ko ((s[a0]).toNat:Int)||decide (s[a0]=95))=true
   . have ao:hd (s[a0]::s.drop (a0+1))=jv 3 (s.drop a0):=by rw [aY];simp only [hd,U,ad,aC,aqk,aqs,aqu]
     rw [ao];have fin:qK Tryz.prog 83 [.ptr b 0,.int .i64 3] (some 33) none [] [] (fun _=>.bad) h (fun _ _ _=>True)->True:=fun _=>trivial;cases gk:ko ((s[a0]).toNat:Int) with
     | true=>
       simp +contextual only [ah,dR,dO,f0,f1,mv,ad,gk,aqm aV,aqq,↓ag,ak,simprocAttr];refine cT (Gc s a0 3 b _ BO (by omega) az zv) ?_;rintro x ai w;have g1:=zh w;obtain ⟨k,n,t,rfl,_⟩:=w.res;simp +contextual only [g1,ah,dR,dO,f0,f1,↓ag,ak,simprocAttr];exact w.store ib
     | false=>
       rw [gk,ar8,aqy] at aC;replace aC:=aqO aC;simp +contextual only [ah,dR,dO,f0,f1,mv,uV,ad,aC,gk,aqm aV,aqq,↓ag,ak,simprocAttr];refine cT (Gc s a0 3 b _ BO (by omega) az zv) ?_;rintro x ai w;have g1:=zh w;obtain ⟨k,n,t,rfl,_⟩:=w.res;simp +contextual only [g1,ah,dR,dO,f0,f1,↓ag,ak,simprocAttr];exact w.store ib
   . have S9:=aC;rw [Bool.not_eq_true,ar9,are] at S9;obtain ⟨aea,aeb⟩:=S9;simp +contextual only [ah,dR,dO,f0,f1,mv,uV,ad,aea,aeb,aqm aV,aqq,↓ag,ak,simprocAttr];refine eo (S4 _ _) ?_;cases aX:pW ((s[a0]).toNat:Int) with
     | true=>
       have ao:hd (s[a0]::s.drop (a0+1))=jv 4 (s.drop a0):=by rw [aY];simp only [hd,U,ad,aC,aX,aqk,aqs,aqu]
       rw [ao];simp +contextual only [ah,dR,dO,f0,f1,aqm aV,aqq,↓ag,ak,simprocAttr];refine cT (Gc s a0 4 b _ BO (by omega) az zv) ?_;rintro x ai w;have g1:=zh w;obtain ⟨k,n,t,rfl,_⟩:=w.res;simp +contextual only [g1,ah,dR,dO,f0,f1,↓ag,ak,simprocAttr];exact w.store ib
     | false=>
       have b0:IntKind.i64.wrap ((a0:Int)+1)=((a0+1:Nat):Int):=by rw [wrap_i64 (by omega) (by omega)];rfl
       have f2:(0<=((a0+1:Nat):Int))=True:=aqO (by omega);by_cases bF:s[a0]=39/\r5 (s.drop (a0+1))
       . have ao:hd (s[a0]::s.drop (a0+1))=(jv 5 (s.drop (a0+1))).map fun q=>(q.1,q.2.1,q.2.2.1,q.2.2.2+1):=by simp only [hd];rw [aqr (by rw [U];exact arw),aqr ad,aqr aC,aqr (by rw [aX];exact arw),aqw bF]
         rw [ao];obtain ⟨EV,EW⟩:=bF;replace EV:=aqO EV;have a':a0+1<s.length:=by
          by_cases q:a0+1<s.length
          . exact q
          . rw [ara (by omega)] at EW;cases EW
         rw [drop_cons a'] at EW;have f3:(((a0+1:Nat):Int) < (s.length:Int))=True:=aqO (by omega);simp +contextual (maxSteps:=1000000) only [ah,dR,dO,f0,f1,f2,f3,b0,mv,uV,y9,ad,EV,aqm aV,aqm a',aqq,↓ag,ak,simprocAttr];refine eo (Hd _ _) ?_;rw [show ko ((s[a0+1]).toNat:Int)=true from EW];simp +contextual (maxSteps:=1000000) only [ah,dR,dO,f0,f1,f2,f3,b0,mv,uV,y9,ad,EV,aqm aV,aqm a',aqq,↓ag,ak,simprocAttr];have TG:Mod (fun q=>q=b) (h.new (.bz [.int .i64 0,.int .i64 0,.int .i64 0,.str []] 0 false)) ((h.new (.bz [.int .i64 0,.int .i64 0,.int .i64 0,.str []] 0 false)).set b (.bz [.str s,.int .i64 ((a0+1:Nat):Int),.int .i64 0] 0 false)):=(Mod.refl _ _).self _;refine cT (Gc s (a0+1) 5 b _ (by rw [fG,aqw rfl];rfl) (by omega) az (TG.cA zv)) ?_;rintro x ai w;have w':pJ s a0 b (h.new (.bz [.int .i64 0,.int .i64 0,.int .i64 0,.str []] 0 false)) ((jv 5 (s.drop (a0+1))).map fun q=>(q.1,q.2.1,q.2.2.1,q.2.2.2+1)) x ai:=by
          obtain ⟨an8,k,n,t,aok,wr⟩:=w;refine ⟨TG.trans an8,k,n,t,aok,?_⟩;cases aL:jv 5 (s.drop (a0+1)) with
          | error e=>rw [aL] at wr;exact wr
          | ok q=>
            rw [aL] at wr;obtain ⟨ca,b5,b6,eh,cK⟩:=wr;refine ⟨ca,b5,b6,?_,?_⟩
            . rw [eh];show gq s ((a0+1+q.2.2.2:Nat):Int) 0=gq s ((a0 + (q.2.2.2+1):Nat):Int) 0;rw [show a0+1+q.2.2.2=a0 + (q.2.2.2+1) from by omega]
            . show a0 + (q.2.2.2+1)<=s.length;omega
         have g1:=zh w';obtain ⟨k,n,t,rfl,_⟩:=w'.res;simp +contextual only [g1,ah,dR,dO,f0,f1,↓ag,ak,simprocAttr];exact w'.store ib
       . have ao:hd (s[a0]::s.drop (a0+1))=uc (s.drop a0):=by rw [aY];simp only [hd];rw [aqr (by rw [U];exact arw),aqr ad,aqr aC,aqr (by rw [aX];exact arw),aqr bF]
         rw [ao];have aez:((s[a0]=39)=False)\/(((s[a0]=39)=True)/\¬a0+1<s.length)\/(((s[a0]=39)=True)/\∃a':a0+1<s.length,ko ((s[a0+1]).toNat:Int)=false):=by
          by_cases q:s[a0]=39
          . by_cases a':a0+1<s.length
            . refine .inr (.inr ⟨aqO q,a',?_⟩);cases aI:ko ((s[a0+1]).toNat:Int) with
              | false=>rfl
              | true=>exact absurd ⟨q,by rw [drop_cons a'];exact aI⟩ bF
            . exact .inr (.inl ⟨aqO q,a'⟩)
          . exact .inl (aqx q)
         have two:∀t ∈ kn,t.length<=2:=by decide
         have Bm:((17:Nat):Int)=17:=rfl;rcases aez with an | ⟨an,av⟩ | ⟨an,a',av⟩
         case' neg.inl=>
          simp +contextual (maxSteps:=1000000) only [ah,dR,dO,f0,f1,f2,b0,mv,uV,y9,ad,an,aqm aV,aqq,↓ag,ak,simprocAttr]
         case' neg.inr.inl=>
          have f3:(((a0+1:Nat):Int) < (s.length:Int))=False:=aqx (by omega);simp +contextual (maxSteps:=1000000) only [ah,dR,dO,f0,f1,f2,f3,b0,mv,uV,y9,ad,an,aqm aV,aqq,↓ag,ak,simprocAttr]
         case' neg.inr.inr=>
          have f3:(((a0+1:Nat):Int) < (s.length:Int))=True:=aqO (by omega);simp +contextual (maxSteps:=1000000) only [ah,dR,dO,f0,f1,f2,f3,b0,mv,uV,y9,ad,an,aqm aV,aqm a',aqq,↓ag,ak,simprocAttr];refine eo (Hd _ _) ?_;rw [av];simp +contextual (maxSteps:=1000000) only [ah,dR,dO,f0,f1,f2,f3,b0,mv,uV,y9,ad,an,aqm aV,aqm a',aqq,↓ag,ak,simprocAttr]
         all_goals
          refine cT (amW _) ?_;rintro x ai ⟨rfl,rfl⟩;simp +contextual only [↓ag,ak,simprocAttr]
          refine iV (fun r ab=>r 0=.ptr b 0/\r 2=.ptr (aE h.next) 0/\r 77=.slice (aE (h.next+1)) 0 17 17/\r 78=.int .i64 17/\∃i:Nat,i<=17/\r 79=.int .i64 i/\ab=(h.new (.bz [.int .i64 0,.int .i64 0,.int .i64 0,.str []] 0 false)).new (.bz Ap 0 false)/\
           kn.find? (·.isPrefixOf (s.drop a0))=(kn.drop i).find? (·.isPrefixOf (s.drop a0))) (fun r ab=>17 - (r 79).toN) ?_ ?_
          . exact ⟨by simp only [↓ag,ak,simprocAttr],by simp only [↓ag,ak,simprocAttr],by simp only [↓ag,ak,simprocAttr],by simp only [Bm,↓ag,ak,simprocAttr],0,by omega,by simp only [↓ag,ak,simprocAttr]<;>rfl,rfl,rfl⟩
          . rintro r ab ⟨bZ,b5,GS,GU,i,aG,GV,rfl,vb⟩;unfold Q5;have TJ:Old ((h.new (.bz [.int .i64 0,.int .i64 0,.int .i64 0,.str []] 0 false)).new (.bz Ap 0 false)) b:=(ay.new _).cA ib;have tp:((h.new (.bz [.int .i64 0,.int .i64 0,.int .i64 0,.str []] 0 false)).new (.bz Ap 0 false)).get b=.bz [.str s,.int .i64 a0,.int .i64 0] 0 false:=by rw [(ay.new _).get _ ib,ah]
            have CN:(b=aE (h.next+1))=False:=CO ib (by omega);have D5:(aE (h.next+1)=b)=False:=by rw [<-CN];exact propext eq_comm
            by_cases p2:i<17
            . have g0:((i:Int)<17)=True:=aqO (by omega);have g1:(0<=(i:Int))=True:=aqO (by omega);rw [adg _ p2] at vb;have hlen:=two _ (aq1 (h:=(show i<kn.length from p2)));simp +contextual only [Bm,bZ,b5,GS,GU,GV,g0,g1,dR,dO,CN,D5,aqq,asj,amU p2,↓ag,ak,simprocAttr];refine eo (J7 s _ (a0:Int) [.int .i64 0] b 0 false _ tp (by omega) (by omega)) ?_;rw [aqq];cases p5:(kn[i]'p2).isPrefixOf (s.drop a0) with
              | true=>
                rw [p5,aqw rfl] at vb;have q4:(kn[i]'p2).length<=s.length-a0:=by rw [arL] at p5;have:=p5.length_le;rwa [aqU] at this
                have gM:IntKind.i64.wrap ((a0:Int) + ((kn[i]'p2).length:Int))=((a0 + (kn[i]'p2).length:Nat):Int):=by rw [wrap_i64 (by omega) (by omega)];rfl
                simp +contextual only [Bm,bZ,b5,GS,GU,GV,g0,g1,gM,dR,dO,CN,D5,ah,↓ag,ak,simprocAttr];unfold uc;rw [vb];refine ⟨(((ay.new _).mod _).self _).fresh (aqh _) _,_,_,_,rfl,rfl,rfl,rfl,?_,by show a0 + (kn[i]'p2).length<=s.length;omega⟩;simp only [gq,dR,dO,↓ag,ak,simprocAttr]
              | false=>
                rw [p5,aqr arw] at vb;have gM:IntKind.i64.wrap ((i:Int)+1)=((i+1:Nat):Int):=by rw [wrap_i64 (by omega) (by omega)];rfl
                simp +contextual only [Bm,bZ,b5,GS,GU,GV,g0,g1,gM,dR,dO,CN,D5,ah,↓ag,ak,simprocAttr];exact ⟨⟨i+1,by omega,rfl,vb⟩,by omega⟩
            . obtain rfl:i=17:=by omega
              have eC:kn.find? (·.isPrefixOf (s.drop a0))=none:=by rw [vb];rfl
              have g0:((17:Int)<17)=False:=aqx (by omega);simp +contextual only [Bm,bZ,b5,GS,GU,GV,g0,tp,dR,dO,CN,D5,ah,↓ag,ak,simprocAttr];unfold uc;rw [eC];refine ⟨(((ay.new _).mod _).self _).fresh (aqh _) _,_,_,_,rfl,by decide,(a0:Int),?_⟩;simp only [gq,dR,dO,↓ag,ak,simprocAttr]
theorem S0 (s:List UInt8) (i:Nat):(ByteArray.mk ⟨s⟩).get! i=(s[i]?).getD 0:=by show (Array.mk s)[i]! =_;simp;rfl
theorem acb (s:List UInt8) (a:Nat):Lib.decodeGo ⟨⟨s.drop a⟩⟩=if a<s.length then decodeL s a else (65533,0):=by
 unfold Lib.decodeGo decodeL;have bK:(ByteArray.mk ⟨s.drop a⟩).size=s.length-a:=by show (s.drop a).length=_;rw [aqU]
 have sg:(ByteArray.mk ⟨s⟩).size=s.length:=rfl;by_cases a_:a<s.length
 . rw [aqw a_,aqr (by rw [bK];omega),Lib.decode_at,Lib.decode_at,bK,sg];simp only [S0,art,arI,asd,aqW]
 . rw [aqr a_,aqw (by rw [bK];omega)]
theorem ajX {h:ae} {b:aN} {s:List UInt8} {a:Nat} (aJ:h.get b=.iter s a):
 xZ (.ptr b 0) h=if a<s.length then .val (.tuple [.bool true,.int .i64 a,.int .i32 (decodeL s a).1]) (h.set b (.iter s (a + (decodeL s a).2))) else .val (.tuple [.bool false]) h:=by
 unfold xZ;simp only [V.kg,aJ];rw [show Nat.beq 0 0=true from rfl];simp only [aqo];by_cases a_:a<s.length
 . rw [aqw a_,show Nat.blt a s.length=true from by rw [aqS];exact a_];rfl
 . rw [aqr a_,show Nat.blt a s.length=false from by rw [<-Bool.not_eq_true,aqS];exact a_];rfl
def agx (s:List UInt8):cz->Nat
 | .iter _ a=>s.length-a
 | _=>0
theorem ab_ (s:List UInt8) (a:Nat):1<=(decodeL s a).2:=by
 unfold decodeL;rw [Lib.decode_at];unfold Lib.decodeN
 repeat' split
 all_goals simp
theorem amp (s:List UInt8) (az:s.length<=100000) (h:ae):e9 Tryz.prog 32 [.str s] h fun x ab=>x=.int .i64 (vS s:Nat)/\Ext h ab:=by
 refine aaz.z rfl (dw ?_);unfold QZ;simp only [↓ag,ak,simprocAttr];refine iV (fun r ab=>r 0=.str s/\r 8=.ptr (aE h.next) 0/\Ext h ab/\∃a,ab.get (aE h.next)=.iter s a/\vS s=sy s a) (fun r ab=>agx s (ab.get (aE h.next))) ?_ ?_
 . exact ⟨by simp only [↓ag,ak,simprocAttr],by simp only [↓ag,ak,simprocAttr],(Ext.refl h).new _,0,by simp only [↓ag,ak,simprocAttr],rfl⟩
 . rintro r ab ⟨bZ,e5,ay,a,aJ,a_⟩;unfold Q0;have nJ:=ajX aJ;by_cases a':a<s.length
   . rw [aqw a'] at nJ;have ai:=ab_ s a;by_cases aq:(decodeL s a).1=65533
     . have qZ:(((decodeL s a).1:Int)=65533)=True:=aqO (by omega);have f0:(0<=(a:Int))=True:=aqO (by omega);have f1:((a:Int)<=(s.length:Int))=True:=aqO (by omega);simp only [bZ,e5,nJ,qZ,f0,f1,aqq,↓ag,ak,simprocAttr];refine eo (aca _ _) ?_;rw [acb,aqw a'];by_cases hw:(decodeL s a).2=1
       . have p7:(((decodeL s a).2:Int)=1)=True:=aqO (by omega);have xj:oq s a=0:=by unfold oq;rw [aqw (Prod.ext aq hw)]
         rw [amo a' xj] at a_;simp only [bZ,e5,nJ,qZ,p7,f0,f1,aqq,↓ag,ak,simprocAttr];rw [a_];exact ⟨rfl,ay.set (aqh _) _⟩
       . have p7:(((decodeL s a).2:Int)=1)=False:=aqx (by omega);have xj:oq s a=(decodeL s a).2:=by unfold oq;rw [aqr (fun q=>hw (congrArg Prod.snd q))]
         rw [NK a' (by rw [xj];omega),xj] at a_;simp only [bZ,e5,nJ,qZ,p7,f0,f1,aqq,↓ag,ak,simprocAttr];refine ⟨⟨ay.set (aqh _) _,_,rfl,a_⟩,?_⟩;rw [aJ];show s.length - (a + (decodeL s a).2)<s.length-a;omega
     . have qZ:(((decodeL s a).1:Int)=65533)=False:=aqx (by omega);have xj:oq s a=(decodeL s a).2:=by unfold oq;rw [aqr (fun q=>aq (congrArg Prod.fst q))]
       rw [NK a' (by rw [xj];omega),xj] at a_;simp only [bZ,e5,nJ,qZ,aqq,↓ag,ak,simprocAttr];refine ⟨⟨ay.set (aqh _) _,_,rfl,a_⟩,?_⟩;rw [aJ];show s.length - (a + (decodeL s a).2)<s.length-a;omega
   . rw [aqr a'] at nJ;rw [Wm (by omega)] at a_;simp only [bZ,e5,nJ,aqq,↓ag,ak,simprocAttr];rw [a_];exact ⟨rfl,ay⟩
def aK.enc (w:aK):List V:=[.int .i64 w.kind,.int .i64 w.num,.int .i64 w.pos,.str w.text]
def hj:List aK->List V
 | []=>[]
 | w::ws=>w.enc++hj ws
theorem Xn:∀a b:List aK,hj (a++b)=hj a++hj b
 | [],b=>rfl
 | w::a,b=>by simp only [hj,aqP,Xn a b,aq7]
theorem Oy:∀a:List aK,(hj a).length=a.length * 4
 | []=>rfl
 | w::a=>by simp only [hj,aqC,Oy a,aqp,aK.enc,aqB];omega
def C9 (ws:List aK):Except (Int × Nat) (List aK)->Except (Int × Nat) (List aK)
 | .ok bn=>.ok (ws++bn)
 | .error e=>.error e
theorem alQ (ws:List aK) (w:aK) (r:Except (Int × Nat) (List aK)):C9 ws (y5 w r)=C9 (ws++[w]) r:=by
 cases r with
 | ok bn=>simp [C9,y5]
 | error e=>rfl
theorem alR (r:Except (Int × Nat) (List aK)):C9 [] r=r:=by cases r<;>rfl
def Yf (s:List UInt8) (h:ae) (x:V) (ab:ae):Prop:=Ext h ab/\match hp s with
 | .ok ws=>∃v,x=.tuple [v,.agg [.int .i64 0,.int .i64 0]]/\fe h.next ab 4 v ws.length (hj ws)
 | .error e=>x=.tuple [.cn,.agg [.int .i64 e.1,.int .i64 e.2]]
theorem P4 (c:UInt8):(0<=Lib.indexByte [9,10,13,32] c)=(blank c=true):=by
 have aV:∀d:UInt8,(d == c)=decide (c=d):=fun d=>by
  by_cases q:c=d
  . subst q;simp
  . have fb:¬d=c:=fun e=>q e.symm;simp [q,fb]
 simp only [Lib.indexByte,aV,blank];by_cases U:c=9
 . subst U;decide
 . by_cases ad:c=10
   . subst ad;decide
   . by_cases aC:c=13
     . subst aC;decide
     . by_cases aX:c=32
       . subst aX;decide
       . simp [U,ad,aC,aX]
theorem F3 (s:List UInt8) (h:ae):e9 Tryz.prog 13 [.str s] h (Yf s h):=by
 refine Z9.z rfl (dw ?_);unfold Qj;by_cases B1:(65536:Int) < (s.length:Int)
 . simp only [B1,↓ag,ak,simprocAttr];refine ⟨((Ext.refl h).new _).set (aqh _) _,?_⟩;unfold hp;rw [aqw (by omega)];rfl
 simp only [B1,↓ag,ak,simprocAttr];refine cT (amp s (by omega) _) ?_;rintro x U ⟨rfl,Ll⟩;have ay:Ext h (h.new (.bz [.int .i64 0,.int .i64 0] 0 false)):=(Ext.refl h).new _;have zK:=ay.trans Ll;have g1:U.get (aE h.next)=.bz [.int .i64 0,.int .i64 0] 0 false:=by rw [Ll.get _ (kf (by rw [jK];omega))];simp only [↓ag,ak,simprocAttr]
 have Vh:h.next+1<=U.next:=Ll.next
 have du:(aE U.next=aE h.next)=False:=by rw [ns];exact aqx (by omega)
 have eg:(aE h.next=aE U.next)=False:=by rw [ns];exact aqx (by omega)
 have pr:(U.next=h.next)=False:=aqx (by omega);have ps:(h.next=U.next)=False:=aqx (by omega);have hlen:¬65536<s.length:=by omega
 by_cases aa:vS s<s.length
 . have tx:((vS s:Int) < (s.length:Int))=True:=aqO (by omega);simp only [tx,g1,du,eg,pr,ps,↓ag,ak,simprocAttr];refine ⟨zK.set (aqh _) _,?_⟩;unfold hp;rw [aqr hlen,aqw aa]
 have tx:((vS s:Int) < (s.length:Int))=False:=aqx (by omega);have nf:hp s=sn s 0:=by unfold hp;rw [aqr hlen,aqr aa]
 simp only [tx,g1,du,eg,pr,ps,↓ag,ak,simprocAttr];have af0:Ext h (U.new (.bz [.str s,.int .i64 0,.int .i64 0] 0 false)):=zK.new _
 refine iV (fun r ab=>r 0=.str s/\r 3=.ptr (aE h.next) 0/\r 5=.ptr (aE U.next) 0/\∃(a:Nat) (ws:List aK) (v:V),r 6=v/\ab.get (aE U.next)=.bz [.str s,.int .i64 a,.int .i64 0] 0 false/\a<=s.length/\ws.length<=a/\
  ab.get (aE h.next)=.bz [.int .i64 0,.int .i64 0] 0 false/\Ext h ab/\U.next+1<=ab.next/\fe (U.next+1) ab 4 v ws.length (hj ws)/\hp s=C9 ws (sn (s.drop a) a))
  (fun r ab=>s.length - ((gW (ab.get (aE U.next)) 1).getD .bad).toN) ?_ ?_
 . refine ⟨by simp only [↓ag,ak,simprocAttr],by simp only [↓ag,ak,simprocAttr],by simp only [↓ag,ak,simprocAttr],0,[],.cn,by simp only [↓ag,ak,simprocAttr],by simp only [↓ag,ak,simprocAttr]<;>rfl,by omega,by simp,by simp only [g1,du,pr,eg,ps,↓ag,ak,simprocAttr],af0,?_,⟨rfl,rfl⟩,?_⟩
   . rw [jK];exact aqh _
   . rw [nf,arp,alR]
 . rintro r ab ⟨bZ,b6,cK,a,ws,v,eH,aJ,c1,kw,bK,Fw,nJ,gp,bT⟩;unfold Qq;have ib:Old ab (aE U.next):=kf (by omega);by_cases gx:(s.length:Int)<=(a:Int)
   . have a_:a=s.length:=by omega
     have Fh:hp s=.ok ws:=by rw [bT,a_,asa];show Except.ok (ws++[])=_;rw [aqI]
     simp only [bZ,b6,cK,eH,aJ,bK,gx,du,eg,pr,ps,↓ag,ak,simprocAttr];refine ⟨Fw.set (aqh _) _,?_⟩;rw [Fh];refine ⟨v,rfl,?_⟩;have:=gp.mod ((Mod.refl (fun q=>q=aE h.next) ab).self (.bz [.int .i64 0,.int .i64 0] 0 false)) (fun q aI e=>by have ad:=gp.base aI;rw [show q=aE h.next from e,dj] at ad;omega);exact this.mono (by omega)
   . have a':a<s.length:=by omega
     rw [drop_cons a',UK,<-drop_cons a'] at bT;have f0:(0<=(a:Int))=True:=aqO (by omega);have f1:((a:Int) < (s.length:Int))=True:=aqO (by omega);have b0:IntKind.i64.wrap ((a:Int)+1)=((a+1:Nat):Int):=by rw [wrap_i64 (by omega) (by omega)];rfl
     simp only [bZ,b6,cK,eH,aJ,bK,gx,du,eg,pr,ps,f0,f1,aqm a',aqq,↓ag,ak,simprocAttr];refine eo (T9 _ _ _) ?_;rw [W'];by_cases E4:blank s[a]=true
     . have Ka:(0<=Lib.indexByte [9,10,13,32] s[a])=True:=by rw [P4,E4];exact eq_self _
       rw [aqw E4] at bT;simp only [Ka,b0,bZ,b6,cK,eH,aJ,bK,gx,du,eg,pr,ps,f0,f1,aqm a',aqq,↓ag,ak,simprocAttr];refine ⟨⟨a+1,ws,rfl,by omega,by omega,Fw.set (by omega) _,nJ,?_,bT⟩,by omega⟩;exact gp.mod ((Mod.refl (fun q=>q=aE U.next) ab).self _) (fun q aI e=>by have ad:=gp.base aI;rw [show q=aE U.next from e,dj] at ad;omega)
     . have Ka:(0<=Lib.indexByte [9,10,13,32] s[a])=False:=by rw [P4];exact aqx E4
       rw [aqr E4] at bT;simp only [Ka,b0,bZ,b6,cK,eH,aJ,bK,gx,du,eg,pr,ps,f0,f1,aqm a',aqq,↓ag,ak,simprocAttr];have B8:=J7 s [40,42] (a:Int) [.int .i64 0] (aE U.next) 0 false ab aJ (by omega) (by omega);rw [aqq] at B8;refine eo B8 ?_;cases p5:([40,42]:List UInt8).isPrefixOf (s.drop a) with
       | true=>
         rw [p5,aqw rfl] at bT;simp only [b0,bZ,b6,cK,eH,aJ,bK,gx,du,eg,pr,ps,f0,f1,aqm a',aqq,↓ag,ak,simprocAttr];refine cT (aj8 s a 0 (aE U.next) ab aJ c1 (by omega) ib) ?_;rintro x ad ⟨rfl,hm,aL⟩;have sg:ad.get (aE h.next)=.bz [.int .i64 0,.int .i64 0] 0 false:=by rw [hm.get _ (kf (by omega)) (by rw [eg];exact id),bK]
         have Fu:Ext h ad:=Fw.oP hm (fun b ah=>by rw [show b=aE U.next from ah,dj];omega);have CQ:=hm.next
         have my:=gp.mod hm (fun q aI e=>by have ad:=gp.base aI;rw [show q=aE U.next from e,dj] at ad;omega);cases KR:h4 (s.drop a) 0 with
         | some n=>
           rw [KR] at aL bT;obtain ⟨g2,hle⟩:=aL;have zw:=Gm KR;unfold gq at g2;simp only [b0,bZ,b6,cK,eH,g2,aJ,sg,gx,du,eg,pr,ps,f0,f1,aqm a',aqq,↓ag,ak,simprocAttr];refine ⟨⟨a+n,ws,rfl,hle,by omega,Fu,by omega,my,?_⟩,by omega⟩;rw [bT];simp only [ar3]
         | none=>
           rw [KR] at aL bT;unfold gq at aL;simp only [b0,bZ,b6,cK,eH,aL,aJ,sg,gx,du,eg,pr,ps,f0,f1,aqm a',aqq,↓ag,ak,simprocAttr];refine ⟨Fu.set (aqh _) _,?_⟩;rw [bT];rfl
       | false=>
         rw [p5,aqr arw] at bT;simp only [b0,bZ,b6,cK,eH,aJ,bK,gx,du,eg,pr,ps,f0,f1,aqm a',aqq,↓ag,ak,simprocAttr];refine cT (ajZ s a (aE U.next) ab aJ a' (by omega) ib) ?_;rintro x ad w;obtain ⟨hm,k,n,t,rfl,bX⟩:=w;have sg:ad.get (aE h.next)=.bz [.int .i64 0,.int .i64 0] 0 false:=by rw [hm.get _ (kf (by omega)) (by rw [eg];exact id),bK]
         have Fu:Ext h ad:=Fw.oP hm (fun b ah=>by rw [show b=aE U.next from ah,dj];omega);have CQ:=hm.next
         have my:=gp.mod hm (fun q aI e=>by have ad:=gp.base aI;rw [show q=aE U.next from e,dj] at ad;omega);have m0:(aE ad.next=aE h.next)=False:=by rw [ns];exact aqx (by omega)
         have m1:(aE ad.next=aE U.next)=False:=by rw [ns];exact aqx (by omega)
         have UT:(ad.next=h.next)=False:=aqx (by omega);have UU:(ad.next=U.next)=False:=aqx (by omega);have Fv:Ext ad (((ad.new (.bz [.int .i64 0,.int .i64 0,.int .i64 0,.str []] 0 false)).set (aE ad.next) (.bz [.int .i64 k,.int .i64 n,.int .i64 0,.str t] 0 false)).set (aE ad.next) (.bz [.int .i64 k,.int .i64 n,.int .i64 a,.str t] 0 false)):=(((Ext.refl ad).new _).set (aqh _) _).set (aqh _) _;obtain ⟨v3,aC,an,av,aH,bP,cE⟩:=Ip (cs:=[.int .i64 k,.int .i64 n,.int .i64 a,.str t]) (by omega) (my.ext Fv) (by simp only [rk,jK];omega) (by unfold top;omega) rfl rfl;simp only [rk,jK] at an bP;have T2:Ext h aC:=(Fu.trans Fv).oP aH (fun b ah=>aqn (by omega) (my.base ah));have Cn:aC.get (aE h.next)=.bz [.int .i64 0,.int .i64 0] 0 false:=by rw [aH.get _ (kf (by simp only [rk,jK];omega)) (fun aI=>by have:=my.base aI;rw [dj] at this;omega),Fv.get _ (kf (by omega)),sg]
         have lN:aC.get (aE U.next)=ad.get (aE U.next):=by rw [aH.get _ (kf (by simp only [rk,jK];omega)) (fun aI=>by have:=my.base aI;rw [dj] at this;omega),Fv.get _ (kf (by omega))]
         cases nJ:hd (s.drop a) with
         | ok q=>
           have zw:=Gg nJ;rw [nJ] at bX bT;obtain ⟨rfl,rfl,rfl,g2,hle⟩:=bX;unfold gq at g2;rw [g2] at lN;simp only [an,m0,m1,UT,UU,b0,bZ,b6,cK,eH,g2,lN,aJ,sg,gx,du,eg,pr,ps,f0,f1,aqm a',aqq,↓ag,ak,simprocAttr];refine ⟨⟨a+q.2.2.2,ws++[⟨q.1,q.2.1,a,q.2.2.1⟩],rfl,hle,by simp;omega,Cn,T2,by omega,?_,?_⟩,by omega⟩
           . rw [aqC,Xn];exact av
           . rw [bT,alQ];simp only [ar3]
         | error e=>
           rw [nJ] at bX bT;obtain ⟨he,a1,g2⟩:=bX;unfold gq at g2;rw [g2] at lN;simp only [he,an,m0,m1,UT,UU,b0,bZ,b6,cK,eH,g2,lN,Cn,aJ,sg,gx,du,eg,pr,ps,f0,f1,aqm a',aqq,↓ag,ak,simprocAttr];refine ⟨T2.set (aqh _) _,?_⟩;rw [bT];rfl
def V9 (s:List UInt8) (at' eA e:Int) (out:V):cz:=.bz [.str s,.int .i64 at',.int .i64 eA,.int .i64 e,out] 0 false
def yv (L:List (List UInt8)):List V:=L.map V.str
theorem N2 (L:List (List UInt8)):(yv L).length=L.length:=by simp [yv]
theorem ank {L:List (List UInt8)} {i:Nat} (aG:i<L.length):(yv L)[i]? =some (.str L[i]):=by unfold yv;rw [aq3,aqm aG];rfl
theorem acv {t:List UInt8} {L:List (List UInt8)} {i:Nat} (aG:i<L.length):(L.drop i).contains t=(decide (L[i]=t)||(L.drop (i+1)).contains t):=by rw [aq0 aG,List.contains_cons];congr 1;rw [arc];simp;exact eq_comm
abbrev Yy (b:aN) (B:Nat):aN->Prop:=fun q=>q=b\/B<=cM q
def Kg:List UInt8->Bool
 | d::_=>pW d.toNat
 | []=>false
def fa (k:Int) (s:List UInt8):Bool:=
 decide (s≠[])&&decide (s.length<=64)&&s.all gS&&(if k=3 then (r5 s||s.head? == some 95)&&!decide (s=[95])&&!re s else if k=4 then Kg s else r5 s)
theorem agj (t:List UInt8) (L:List (List UInt8)) (v:V) (h:ae) (H:fD h 1 v L.length (yv L)) (dU:L.length<=100000):
 e9 Tryz.prog 165 [v,.str t] h fun x ab=>ab=h/\∃i:Int,x=.int .i64 i/\decide (0<=i)=L.contains t:=by
 refine aah.z rfl (dw ?_);unfold QE;simp +contextual only [H.len,↓ag,ak,simprocAttr];refine iV (fun r ab=>ab=h/\r 0=v/\r 1=.str t/\r 7=.int .i64 L.length/\∃i:Nat,r 8=.int .i64 i/\i<=L.length/\L.contains t=(L.drop i).contains t) (fun r ab=>L.length - (r 8).toN) ?_ ?_
 . exact ⟨rfl,by simp only [↓ag,ak,simprocAttr],by simp only [↓ag,ak,simprocAttr],by simp only [↓ag,ak,simprocAttr],0,by simp only [↓ag,ak,simprocAttr]<;>rfl,by omega,rfl⟩
 . rintro r ab ⟨rfl,bZ,ca,eM,i,e5,aG,bT⟩;unfold QF;by_cases a':i<L.length
   . have g0:((i:Int) < (L.length:Int))=True:=aqO (by omega);obtain ⟨ct,bb,xH,qH⟩:=H.fy (k:=.i64) a';have hc:=qH.hc (i:=i * 1) (by rw [N2];omega);simp only [asj] at hc xH;have Kv:(yv L)[i]'(by rw [N2];exact a')=.str L[i]:=by
      have:=ank a';rw [aqm (by rw [N2];exact a')] at this;exact arB this
     rw [Kv] at hc;rw [acv a'] at bT;have w:IntKind.i64.wrap ((i:Int)+1)=((i+1:Nat):Int):=by rw [wrap_i64 (by omega) (by omega)];rfl
     by_cases he:t=L[i]
     . have fq:decide (t=L[i])=true:=arf he;simp +contextual only [bZ,ca,eM,e5,g0,xH,hc,fq,↓ag,ak,simprocAttr];exact ⟨i,rfl,by rw [bT,<-he];simp⟩
     . have fq:decide (t=L[i])=false:=ary he;simp +contextual only [bZ,ca,eM,e5,g0,xH,hc,fq,w,↓ag,ak,simprocAttr];refine ⟨⟨i+1,rfl,a',?_⟩,by omega⟩;rw [bT,ary (fun q=>he q.symm),ar8]
   . have g0:((i:Int) < (L.length:Int))=False:=aqx (by omega);rw [ara (by omega)] at bT;simp +contextual only [bZ,ca,eM,e5,g0,↓ag,ak,simprocAttr];exact ⟨_,rfl,by rw [bT];rfl⟩
theorem abK (t:List UInt8) (L:List (List UInt8)) (v:V) (h:ae) (H:fD h 1 v L.length (yv L)) (dU:L.length<=100000):
 gm Tryz.prog 135 [v,.str t] h (.bool (L.contains t)) h:=by
 refine n2 (Z8.z rfl (dw ?_));unfold Qp;simp +contextual only [↓ag,ak,simprocAttr];refine cT (agj t L v h H dU) ?_;rintro x U ⟨rfl,i,rfl,aG⟩;simp +contextual only [aG,↓ag,ak,simprocAttr]
theorem Za {s:List UInt8} (h:∀c ∈ s,c.toNat<128):vS s=s.length:=by
 have aq:∀a,a<s.length->oq s a=1:=by
  intro a a_;have aY:decodeL s a=((s[a]).toNat,1):=by unfold decodeL;rw [Lib.decode_at];simp only [S0,aqm a_,arD];unfold Lib.decodeN;rw [aqw (h _ (aq1 a_))]
  unfold oq;rw [aY,aqr (by have:=h _ (aq1 a_);simp only [aru,and_true];omega)]
 have:∀n a,s.length-a=n->a<=s.length->sy s a=s.length:=by
  intro n
  induction n with
  | zero=>intro a U ad;exact Wm (by omega)
  | succ n aT=>
    intro a U ad;have a':a<s.length:=by omega
    rw [NK a' (by rw [aq a a'];decide),aq a a'];exact aT _ (by omega) (by omega)
 exact this s.length 0 (by omega) (by omega)
theorem ai6 {s:List UInt8} (h:∀c ∈ s,c.toNat<128):hp s=if 65536<s.length then .error (3,0) else sn s 0:=by unfold hp;rw [Za h,aqr (arv _)]
theorem ajk {c:UInt8} (h:gS c=true):blank c=false/\c≠40:=by
 constructor
 . cases ah:blank c with
   | false=>rfl
   | true=>
     unfold blank at ah;simp only [aro,aqy] at ah;rcases ah with ((rfl | rfl) | rfl) | rfl<;>exact absurd h (by decide)
 . rintro rfl;exact absurd h (by decide)
theorem aj3 {c:UInt8} (h:c≠40) (r:List UInt8):([40,42]:List UInt8).isPrefixOf (c::r)=false:=by
 have:((40:UInt8) == c)=false:=by rw [arx];exact fun q=>h q.symm
 simp [List.isPrefixOf,this]
theorem WD {c:UInt8} (h:ko c.toNat=true):gw c=false/\c≠34:=by unfold ko at h;simp only [aqi,aqy] at h;refine ⟨?_,by rintro rfl;exact absurd h (by decide)⟩;unfold gw o9;simp only [ar4,are];omega
theorem ad6 {c:UInt8} (h:pW c.toNat=true):gw c=false/\c≠34/\ko c.toNat=false/\c≠95:=by
 unfold pW at h;simp only [aqi,aqy] at h;refine ⟨?_,by rintro rfl;exact absurd h (by decide),?_,by rintro rfl;exact absurd h (by decide)⟩
 . unfold gw o9;simp only [ar4,are];omega
 . unfold ko;simp only [ar4,are];omega
theorem L6 {k:Int} {s:List UInt8} (h:fa k s=true):s≠[]/\s.length<=64/\s.all gS=true/\(if k=3 then (r5 s||s.head? == some 95)&&!decide (s=[95])&&!re s else if k=4 then Kg s else r5 s)=true:=by unfold fa at h;rw [aqi,aqi,aqi,aqy,aqy] at h;exact ⟨h.1.1.1,h.1.1.2,h.1.2,h.2⟩
theorem aj0 {c:UInt8} {t:List UInt8} (h:ko c.toNat=true\/c=95):hd (c::t)=jv 3 (c::t):=by
 have aY:gw c=false:=h.elim (fun q=>(WD q).1) (fun q=>by rw [q];decide);have ad_:c≠34:=h.elim (fun q=>(WD q).2) (fun q=>by rw [q];decide);have az:(ko c.toNat||decide (c=95))=true:=by simpa using h
 simp only [hd,aY,az,aqr ad_,aqk,aqs,aqu]
theorem Y_ {c:UInt8} (h:gS c=true):c.toNat<128:=by unfold gS xQ o9 ko pW at h;simp only [aro,aqi,aqy] at h;omega
theorem W7 {p:UInt8->Bool}:∀s:List UInt8,s.all p=true->s.takeWhile p=s
 | [],_=>rfl
 | c::s,h=>by rw [arG,aqi] at h;rw [arF,h.1,aqw rfl,W7 s h.2]
theorem PE (p:UInt8->Bool):∀s:List UInt8,(s.takeWhile p).all p=true
 | []=>rfl
 | c::s=>by
   rw [arF]
   split
   . rename_i h;rw [arG,h,PE p s];rfl
   . rfl
theorem L3 {k:Int} {c:UInt8} {r:List UInt8} {q:Int × Int × List UInt8 × Nat} (ar:(k=3/\(ko c.toNat=true\/c=95))\/(k=4/\pW c.toNat=true)\/(k=5/\ko c.toNat=true)) (h:jv k (c::r)=.ok q) (aI:q.1=3\/q.1=4\/q.1=5):
 q.1=k/\fa k q.2.2.1=true:=by
 have aD:gS c=true:=by
  rcases ar with ⟨_,q | q⟩ | ⟨_,q⟩ | ⟨_,q⟩
  . exact NU q
  . exact Xb q
  . exact S3 q
  . exact NU q
 have aB:(c::r).takeWhile gS=c::r.takeWhile gS:=by rw [arF,aqw aD]
 have a_:=PE gS (c::r);rw [aB] at a_;unfold jv at h;simp only [aB] at h;generalize r.takeWhile gS=t at *
 split at h
 . cases h;simp at aI
 . rename_i afw
   split at h
   . cases h;simp at aI
   . rename_i zz
     split at h
     . cases h
     . rename_i hlen;cases h;refine ⟨rfl,?_⟩;have oD:(if k=3 then (r5 (c::t)||(c::t).head? == some 95)&&!decide (c::t=[95])&&!re (c::t) else if k=4 then Kg (c::t) else r5 (c::t))=true:=by
        rcases ar with ⟨rfl,z⟩ | ⟨rfl,z⟩ | ⟨rfl,z⟩
        . rw [aqw rfl];have U:(r5 (c::t)||(c::t).head? == some 95)=true:=by
           rcases z with z | z
           . show (ko c.toNat||_)=true;rw [z];rfl
           . subst z;simp
          rw [U,ary (fun z=>afw ⟨rfl,z⟩),Bool.eq_false_iff.2 (fun z=>zz ⟨rfl,z⟩)];rfl
        . exact z
        . exact z
       show fa k (c::t)=true;unfold fa;rw [oD,a_,arf (show c::t≠[] by simp),arf (show (c::t).length<=64 by omega)];rfl
theorem Vc {r:List UInt8} {q:Int × Int × List UInt8 × Nat} (h:hd r=.ok q) (aI:q.1=3\/q.1=4\/q.1=5):fa q.1 q.2.2.1=true:=by
 match r,h with
 | c::r,h=>
   simp only [hd] at h
   split at h
   . unfold tN at h;simp only at h
     split at h
     . cases h
     . cases h;simp at aI
   . split at h
     . unfold qw at h
       split at h
       . cases h
       . split at h
         . cases h
         . cases h;simp at aI
     . split at h
       . rename_i az;have:=L3 (.inl ⟨rfl,by simpa using az⟩) h aI;rw [this.1];exact this.2
       . split at h
         . rename_i az;have:=L3 (.inr (.inl ⟨rfl,az⟩)) h aI;rw [this.1];exact this.2
         . split at h
           . rename_i az;cases aL:jv 5 r with
             | error e=>rw [aL] at h;cases h
             | ok fb=>
               rw [aL] at h;cases h;obtain ⟨d,t,rfl⟩:∃d t,r=d::t:=by
                cases r with
                | nil=>simp [r5] at az
                | cons d t=>exact ⟨d,t,rfl⟩
               have:=L3 (.inr (.inr ⟨rfl,az.2⟩)) aL aI;show fa fb.1 fb.2.2.1=true;rw [this.1];exact this.2
           . unfold uc at h
             split at h
             . cases h;simp at aI
             . cases h
theorem CB:∀(f:Nat) (r:List UInt8) (p:Nat) (ws:List aK),ll f r p=.ok ws->∀w ∈ ws,w.kind=3\/w.kind=4\/w.kind=5->fa w.kind w.text=true
 | 0,r,p,ws,h,w,hw,_=>by simp only [ll,Except.ok.injEq] at h;subst h;cases hw
 | f+1,[],p,ws,h,w,hw,_=>by simp only [ll,Except.ok.injEq] at h;subst h;cases hw
 | f+1,c::r,p,ws,h,w,hw,ar=>by
   simp only [ll] at h
   split at h
   . exact CB f _ _ ws h w hw ar
   . split at h
     . split at h
       . cases h
       . exact CB f _ _ ws h w hw ar
     . split at h
       . cases h
       . rename_i q aL;cases aa:ll f ((c::r).drop q.2.2.2) (p+q.2.2.2) with
         | error aM=>rw [aa] at h;cases h
         | ok bn=>
           rw [aa] at h;simp only [y5,Except.ok.injEq] at h;subst h;rcases aqN.1 hw with rfl | hw
           . exact Vc aL ar
           . exact CB f _ _ bn aa w hw ar
theorem amf {k:Int} {s:List UInt8} (ar:k=3\/k=4\/k=5) (h:fa k s=true):hp (if k=5 then 39::s else s)=.ok [⟨k,0,0,s⟩]:=by
 obtain ⟨g1,g2,g3,g4⟩:=L6 h;obtain ⟨c,t,rfl⟩:=List.exists_cons_of_ne_nil g1;have aet:∀d ∈ (if k=5 then 39::c::t else c::t),d.toNat<128:=by
  intro d aY;have U:∀d ∈ c::t,d.toNat<128:=fun d aY=>Y_ (aqR.1 g3 d aY)
  split at aY
  . rcases aqN.1 aY with rfl | aY
    . decide
    . exact U d aY
  . exact U d aY
 rw [ai6 aet,aqr (by split<;>simp only [aqp] at g2 ⊢<;>omega)];have aD:gS c=true:=by rw [arG,aqi] at g3;exact g3.1
 obtain ⟨ct,c6⟩:=ajk aD;have rd:∀j:Int,(j=3->c::t≠[95]/\re (c::t)=false)->jv j (c::t)=.ok (j,0,c::t,(c::t).length):=by intro j bU;unfold jv;simp only [W7 _ g3];rw [aqr (fun q=>(bU q.1).1 q.2),aqr (fun q=>by rw [(bU q.1).2] at q;simp at q),aqr (by omega)]
 have fin:∀(d:UInt8) (u:List UInt8) (q:Int × Int × List UInt8 × Nat),blank d=false->d≠40->hd (d::u)=.ok q->q.2.2.2=(d::u).length->sn (d::u) 0=.ok [⟨q.1,q.2.1,0,q.2.2.1⟩]:=by intro d u q aM bh cu dA;rw [UK,aM,aqr arw,aj3 bh,aqr arw,cu];simp only [dA,asa];rfl
 rcases ar with rfl | rfl | rfl
 . rw [aqr (by decide)];rw [aqw rfl] at g4;simp only [aqi,arb,are,aro,arO] at g4;have ba:ko c.toNat=true\/c=95:=g4.1.1.imp id (fun q=>arB q);exact fin c t _ ct c6 (by rw [aj0 ba];exact rd 3 (fun _=>⟨g4.1.2,g4.2⟩)) rfl
 . rw [aqr (by decide)];rw [aqr (by decide),aqw rfl] at g4;have aJ:pW c.toNat=true:=g4;obtain ⟨eg,lZ,n3,n4⟩:=ad6 aJ;refine fin c t (4,0,c::t,(c::t).length) ct c6 ?_ rfl;simp only [hd,eg,n3,aJ,aqr lZ,aqk,aqs,aqu,ar8,aqy,aqr n4];exact rd 4 (fun q=>absurd q (by decide))
 . rw [aqw rfl];rw [aqr (by decide),aqr (by decide)] at g4;refine fin 39 (c::t) (5,0,c::t,(c::t).length+1) (by decide) (by decide) ?_ rfl;simp only [hd];rw [aqr (by decide),aqr (by decide),aqr (by decide),aqr (by decide),aqw ⟨trivial,g4⟩,rd 5 (fun q=>absurd q (by decide))];rfl
def uv (k:Int) (s:List UInt8):Bool:=decide (s.length<=64)&&decide (s≠[])&&(match hp (if k=5 then 39::s else s) with
 | .ok [w]=>decide (w.kind=k)&&decide (w.pos=0)&&decide (w.text≠[])&&decide ((if k=5 then 39::s else s)=(if w.kind=5 then 39::w.text else w.text))
 | _=>false)
theorem an9 {k:Int} (ar:k=3\/k=4\/k=5) (s:List UInt8):uv k s=fa k s:=by
 rw [arc];refine ⟨fun h=>?_,fun h=>?_⟩
 . unfold uv at h;simp only [aqi,aqy] at h;obtain ⟨_,aC⟩:=h
   split at aC
   . rename_i w hw;simp only [aqi,aqy] at aC;obtain ⟨⟨⟨aM,_⟩,_⟩,dA⟩:=aC;subst aM;have aL:fa w.kind w.text=true:=by
      generalize (if w.kind=5 then 39::s else s)=z at hw;unfold hp at hw
      split at hw
      . cases hw
      . split at hw
        . cases hw
        . exact CB _ _ _ _ hw w (by simp) ar
     have:s=w.text:=by
      split at dA
      . exact (List.cons.inj dA).2
      . exact dA
     rw [this];exact aL
   . cases aC
 . obtain ⟨g1,g2,_,_⟩:=L6 h;unfold uv;rw [amf ar h];simp [g1,g2]
abbrev cP (α:Type):=Except (Int × Nat) α
def b3:Int × Nat:=(-1,0)
section
variable (ao:Nat)
def c2:List aK->Nat
 | w::_=>w.pos
 | []=>ao
def eG (k:Int):List aK->Bool
 | w::_=>decide (w.kind=k)
 | []=>false
def cl (s:List UInt8):List aK->Bool
 | w::_=>(decide (w.kind=7)||decide (w.kind=6))&&decide (w.text=s)
 | []=>false
def hQ (s:List UInt8) (ws:List aK):cP (List aK):=if cl s ws then .ok ws.tail else .error (270,c2 ao ws)
def hr (k:Int):List aK->cP (aK × List aK)
 | w::ws=>if w.kind=k then .ok (w,ws) else .error (270,w.pos)
 | []=>.error (270,ao)
def two (k:Int) (a b:aR):aR:=.mk k 0 a.a [] [a,b]
def pv (s:List UInt8) (a b:aR):aR:=.mk 38 0 a.a s [a,b]
def ue (dW:List (List UInt8)) (ws:List aK):Bool:=dW.any fun s=>cl s ws
def xX (n:Int):Int:=if n=-1073741824 then n else -n
def rq:List UInt8:=[45,62]
def qq:List UInt8:=[42]
def jj:List UInt8:=[40]
def kH:List UInt8:=[41]
def nw:List UInt8:=[44]
def kI:List UInt8:=[45]
def vV:List UInt8:=[43]
def vW:List UInt8:=[47]
def ji:List UInt8:=[61]
def vU:List UInt8:=[60]
def vT:List UInt8:=[60,61]
def G8:List UInt8:=[33]
def nv:List UInt8:=[124]
def G9:List UInt8:=[59]
def Wu:List UInt8:=[59,59]
def G':List UInt8:=[58,61]
def ua:List UInt8:=[95]
def vr:List UInt8:=[109,111,100]
def lX:List UInt8:=[116,114,117,101]
def lW:List UInt8:=[102,97,108,115,101]
def tH:List UInt8:=[98,101,103,105,110]
def LB:List UInt8:=[101,110,100]
def FM:List UInt8:=[111,102]
def FI:List UInt8:=[97,110,100]
def vp:List UInt8:=[102,117,110]
def vq:List UInt8:=[108,101,116]
def vs:List UInt8:=[114,101,99]
def zP:List UInt8:=[105,110]
def FK:List UInt8:=[105,102]
def LD:List UInt8:=[116,104,101,110]
def LA:List UInt8:=[101,108,115,101]
def FL:List UInt8:=[109,97,116,99,104]
def FO:List UInt8:=[116,114,121]
def FQ:List UInt8:=[119,105,116,104]
def FN:List UInt8:=[114,97,105,115,101]
def FP:List UInt8:=[116,121,112,101]
def FJ:List UInt8:=[101,120,99,101,112,116,105,111,110]
structure rO where
 ty:Nat->List aK->cP (aR × List aK)
 ix:Nat->List aK->cP (aR × List aK)
 named:Nat->List aK->cP (aR × List aK)
 j6:Nat->List aK->cP (aR × List aK)
 jz:Nat->List aR->List aK->cP (List aR × List aK)
 pat:Nat->List aK->cP (aR × List aK)
 jO:Nat->List aK->cP (aR × List aK)
 hq:Nat->List aK->cP (aR × List aK)
 seq:Nat->List aK->cP (aR × List aK)
 cases:Nat->List aR->List aK->cP (List aR × List aK)
 fn:Nat->Nat->List aK->cP (aR × List aK)
 one:Nat->List aK->cP (aR × List aK)
 iD:Nat->Int->Nat->List aK->cP (aR × List aK)
 lt:Nat->Nat->List aK->cP (aR × List aK)
 binds:Nat->List aR->List aK->cP (List aR × List aK)
 pair:Nat->List aK->cP (aR × List aK)
 j9:Nat->List aK->cP (aR × List aK)
 h8:Nat->List aK->cP (aR × List aK)
 ih:Nat->List aK->cP (aR × List aK)
 lq:Nat->aR->List aK->cP (aR × List aK)
 lr:Nat->aR->List aK->cP (aR × List aK)
 pre:Nat->List aK->cP (aR × List aK)
 app:Nat->List aK->cP (aR × List aK)
 args:Nat->aR->List aK->cP (aR × List aK)
 atom:Nat->List aK->cP (aR × List aK)
def rO.none:rO:=⟨fun _ _=>.error b3,fun _ _=>.error b3,fun _ _=>.error b3,fun _ _=>.error b3,fun _ _ _=>.error b3,fun _ _=>.error b3,fun _ _=>.error b3,fun _ _=>.error b3,fun _ _=>.error b3,fun _ _ _=>.error b3,fun _ _ _=>.error b3,
 fun _ _=>.error b3,fun _ _ _ _=>.error b3,fun _ _ _=>.error b3,fun _ _ _=>.error b3,fun _ _=>.error b3,fun _ _=>.error b3,fun _ _=>.error b3,fun _ _=>.error b3,fun _ _ _=>.error b3,fun _ _ _=>.error b3,fun _ _=>.error b3,fun _ _=>.error b3,fun _ _ _=>.error b3,fun _ _=>.error b3⟩
def m_ (d:Nat) (ws:List aK) (k:cP (aR × List aK)):cP (aR × List aK):=if 1000<=d then .error (271,c2 ao ws) else k
def nY:aR->List aK->aR × List aK
 | a,[]=>(a,[])
 | a,w::ws=>if w.kind=3 then nY (.mk 2 0 a.a w.text [a]) ws else (a,w::ws)
def ss (ws:List aK):Option (List UInt8):=if cl ji ws then some ji else if cl vU ws then some vU else if cl vT ws then some vT else none
def su (ws:List aK):Option (List UInt8):=if cl vV ws then some vV else if cl kI ws then some kI else none
def sv (ws:List aK):Option (List UInt8):=if cl qq ws then some qq else if cl vW ws then some vW else if cl vr ws then some vr else none
def NY (ws:List aK):Bool:=ue [ua,kI,jj,lX,lW] ws||eG 3 ws||eG 1 ws||eG 4 ws
def rR (ws:List aK):Bool:=ue [jj,tH,lX,lW] ws||eG 1 ws||eG 2 ws||eG 3 ws||eG 4 ws
variable (T:rO)
def On (d:Nat) (ws:List aK):cP (aR × List aK):=m_ ao d ws do
 let (a,ws) <-T.ix (d+1) ws
 if cl rq ws then
  let (b,ws) <-T.ty (d+1) ws.tail
  return (two 4 a b,ws)
 else return (a,ws)
def MW (d:Nat) (ws:List aK):cP (aR × List aK):=do
 let (a,ws) <-T.named d ws
 if cl qq ws then
  let (b,ws) <-T.ix d ws.tail
  return (two 3 a b,ws)
 else return (a,ws)
def L5 (d:Nat) (ws:List aK):cP (aR × List aK):=do
 let (a,ws) <-T.j6 d ws
 return nY a ws
def pU (l:List aR) (ws:List aK):cP Unit:=if l.length=64 then .error (270,c2 ao ws) else .ok ()
def uq (d:Nat) (l:List aR) (ws:List aK):cP (List aR × List aK):=
 if cl nw ws then do
  pU ao l ws.tail
  let (a,ws) <-T.ty d ws.tail
  T.jz d (l++[a]) ws
 else .ok (l,ws)
def yy (d:Nat) (ws:List aK):cP (aR × List aK):=
 if eG 5 ws then (hr ao 5 ws).map fun q=>(.mk 1 0 (c2 ao ws) q.1.text [],q.2)
 else if eG 3 ws then (hr ao 3 ws).map fun q=>(.mk 2 0 (c2 ao ws) q.1.text [],q.2)
 else do
  let fE:=c2 ao ws
  let ws <-hQ ao jj ws
  let (a,ws) <-T.ty d ws
  let (l,ws) <-T.jz d [a] ws
  let ws <-hQ ao kH ws
  if l.length=1 then return (a,ws)
  else
   let (w,ws) <-hr ao 3 ws
   return (.mk 2 0 fE w.text l,ws)
def M6 (d:Nat) (ws:List aK):cP (aR × List aK):=m_ ao d ws do
 let (a,ws) <-T.jO (d+1) ws
 if cl nw ws then
  let (b,ws) <-T.pat (d+1) ws.tail
  return (two 15 a b,ws)
 else return (a,ws)
def ye (d:Nat) (ws:List aK):cP (aR × List aK):=
 if eG 4 ws then do
  let (w,ws) <-hr ao 4 ws
  if NY ws then
   let (p,ws) <-T.hq d ws
   return (.mk 16 0 w.pos w.text [p],ws)
  else return (.mk 16 0 w.pos w.text [],ws)
 else T.hq d ws
def yf (d:Nat) (ws:List aK):cP (aR × List aK):=
 let fE:Int:=c2 ao ws
 if cl ua ws then .ok (.mk 10 0 fE [] [],ws.tail)
 else if eG 3 ws then (hr ao 3 ws).map fun q=>(.mk 11 0 fE q.1.text [],q.2)
 else if eG 4 ws then (hr ao 4 ws).map fun q=>(.mk 16 0 fE q.1.text [],q.2)
 else if eG 1 ws then (hr ao 1 ws).map fun q=>(.mk 12 q.1.num fE [] [],q.2)
 else if cl kI ws then (hr ao 1 ws.tail).map fun q=>(.mk 12 (xX q.1.num) fE [] [],q.2)
 else if cl lX ws then .ok (.mk 14 1 fE [] [],ws.tail)
 else if cl lW ws then .ok (.mk 14 0 fE [] [],ws.tail)
 else do
  let ws <-hQ ao jj ws
  if cl kH ws then return (.mk 13 0 fE [] [],ws.tail)
  else
   let (p,ws) <-T.pat d ws
   let ws <-hQ ao kH ws
   return (p,ws)
def NS (d:Nat) (ws:List aK):cP (aR × List aK):=m_ ao d ws do
 let (a,ws) <-T.one (d+1) ws
 if cl G9 ws then
  let (b,ws) <-T.seq (d+1) ws.tail
  return (two 35 a b,ws)
 else return (a,ws)
def I0 (d:Nat) (l:List aR) (ws:List aK):cP (List aR × List aK):=do
 let (p,ws) <-T.pat d ws
 let ws <-hQ ao rq ws
 let (b,ws) <-T.seq d ws
 if cl nv ws then T.cases d (l++[two 45 p b]) ws.tail else return (l++[two 45 p b],ws)
def JP (d fE:Nat) (ws:List aK):cP (aR × List aK):=do
 let (p,ws) <-T.pat d ws
 let ws <-hQ ao rq ws
 let (b,ws) <-T.seq d ws
 return (.mk 27 0 fE [] [p,b],ws)
def x9 (d:Nat) (ws:List aK):cP (aR × List aK):=
 let fE:=c2 ao ws
 if cl vq ws then T.lt d fE ws.tail
 else if cl vp ws then T.fn d fE ws.tail
 else if cl FK ws then do
  let (a,ws) <-T.seq d ws.tail
  let ws <-hQ ao LD ws
  let (b,ws) <-T.one d ws
  let ws <-hQ ao LA ws
  let (c,ws) <-T.one d ws
  return (.mk 31 0 fE [] [a,b,c],ws)
 else if cl FL ws then T.iD d 32 fE ws.tail
 else if cl FO ws then T.iD d 33 fE ws.tail
 else do
  let (a,ws) <-T.pair d ws
  if cl G' ws then
   let (b,ws) <-T.one d ws.tail
   return (two 37 a b,ws)
  else return (a,ws)
def I3 (d:Nat) (kind:Int) (fE:Nat) (ws:List aK):cP (aR × List aK):=do
 let (a,ws) <-T.seq d ws
 let ws <-hQ ao FQ ws
 let (l,ws) <-T.cases d [] (if cl nv ws then ws.tail else ws)
 return (.mk kind 0 fE [] (a::l),ws)
def xT (d fE:Nat) (ws:List aK):cP (aR × List aK):=
 if cl vs ws then do
  let (l,ws) <-T.binds d [] ws.tail
  let ws <-hQ ao zP ws
  let (b,ws) <-T.seq d ws
  return (.mk 30 0 fE [] (l++[b]),ws)
 else do
  let (p,ws) <-T.pat d ws
  let ws <-hQ ao ji ws
  let (a,ws) <-T.seq d ws
  let ws <-hQ ao zP ws
  let (b,ws) <-T.seq d ws
  return (.mk 29 0 fE [] [p,a,b],ws)
def IJ (d:Nat) (l:List aR) (ws:List aK):cP (List aR × List aK):=do
 let (w,ws) <-hr ao 3 ws
 let ws <-hQ ao ji ws
 let fE:=c2 ao ws
 let ws <-hQ ao vp ws
 let (f,ws) <-T.fn d fE ws
 if cl FI ws then T.binds d (l++[.mk 46 0 w.pos w.text [f]]) ws.tail else return (l++[.mk 46 0 w.pos w.text [f]],ws)
def MT (d:Nat) (ws:List aK):cP (aR × List aK):=do
 let (a,ws) <-T.j9 d ws
 if cl nw ws then
  let (b,ws) <-T.pair d ws.tail
  return (two 26 a b,ws)
 else return (a,ws)
def I9 (d:Nat) (ws:List aK):cP (aR × List aK):=do
 let (a,ws) <-T.h8 d ws
 match ss ws with
 | some s=>do
   let (b,ws) <-T.h8 d ws.tail
   return (pv s a b,ws)
 | none=>return (a,ws)
def N3 (d:Nat) (ws:List aK):cP (aR × List aK):=do
 let (a,ws) <-T.ih d ws
 T.lq d a ws
def x_ (d:Nat) (a:aR) (ws:List aK):cP (aR × List aK):=
 match su ws with
 | some s=>do
   let (b,ws) <-T.ih d ws.tail
   T.lq d (pv s a b) ws
 | none=>.ok (a,ws)
def N4 (d:Nat) (ws:List aK):cP (aR × List aK):=do
 let (a,ws) <-T.pre d ws
 T.lr d a ws
def ya (d:Nat) (a:aR) (ws:List aK):cP (aR × List aK):=
 match sv ws with
 | some s=>do
   let (b,ws) <-T.pre d ws.tail
   T.lr d (pv s a b) ws
 | none=>.ok (a,ws)
def Nl (d:Nat) (ws:List aK):cP (aR × List aK):=m_ ao d ws (
 let fE:=c2 ao ws
 if cl kI ws then (T.pre (d+1) ws.tail).map fun q=>(.mk 39 0 fE [] [q.1],q.2)
 else if cl G8 ws then (T.pre (d+1) ws.tail).map fun q=>(.mk 36 0 fE [] [q.1],q.2)
 else T.app (d+1) ws)
def uP (d:Nat) (ws:List aK):cP (aR × List aK):=
 let fE:=c2 ao ws
 if cl FN ws then (T.atom d ws.tail).map fun q=>(.mk 34 0 fE [] [q.1],q.2)
 else if eG 4 ws then do
  let (w,ws) <-hr ao 4 ws
  if rR ws then
   let (a,ws) <-T.atom d ws
   return (.mk 25 0 fE w.text [a],ws)
  else return (.mk 25 0 fE w.text [],ws)
 else do
  let (a,ws) <-T.atom d ws
  T.args d a ws
def wM (d:Nat) (a:aR) (ws:List aK):cP (aR × List aK):=
 if rR ws then do
  let (b,ws) <-T.atom d ws
  T.args d (two 28 a b) ws
 else .ok (a,ws)
def wP (d:Nat) (ws:List aK):cP (aR × List aK):=
 let fE:Int:=c2 ao ws
 if eG 1 ws then (hr ao 1 ws).map fun q=>(.mk 20 q.1.num fE [] [],q.2)
 else if eG 2 ws then (hr ao 2 ws).map fun q=>(.mk 21 0 fE q.1.text [],q.2)
 else if eG 3 ws then (hr ao 3 ws).map fun q=>(.mk 24 0 fE q.1.text [],q.2)
 else if eG 4 ws then (hr ao 4 ws).map fun q=>(.mk 25 0 fE q.1.text [],q.2)
 else if cl lX ws then .ok (.mk 23 1 fE [] [],ws.tail)
 else if cl lW ws then .ok (.mk 23 0 fE [] [],ws.tail)
 else if cl tH ws then do
  let (a,ws) <-T.seq d ws.tail
  let ws <-hQ ao LB ws
  return (a,ws)
 else do
  let ws <-hQ ao jj ws
  if cl kH ws then return (.mk 22 0 fE [] [],ws.tail)
  else
   let (a,ws) <-T.seq d ws
   let ws <-hQ ao kH ws
   return (a,ws)
def rO.step:rO:=⟨On ao T,MW T,L5 T,yy ao T,uq ao T,M6 ao T,ye ao T,yf ao T,NS ao T,I0 ao T,JP ao T,x9 ao T,I3 ao T,xT ao T,IJ ao T,MT T,I9 T,N3 T,N4 T,x_ T,ya T,Nl ao T,uP ao T,wM T,wP ao T⟩
def bD:Nat->rO
 | 0=>rO.none
 | n+1=>(bD n).step ao
def o8 (kind:Int) (ws:List aK):cP (aR × List aK):=do
 let (w,ws) <-hr ao 4 ws
 if cl FM ws then
  let (t,ws) <-T.ty 0 ws.tail
  return (.mk kind 0 w.pos w.text [t],ws)
 else return (.mk kind 0 w.pos w.text [],ws)
def n' (w:aK):aR:=.mk 1 0 w.pos w.text []
def mN:Nat->List aR->List aK->cP (List aR × List aK)
 | 0,_,_=>.error b3
 | n+1,l,ws=>if cl nw ws then do
    pU ao l ws.tail
    let (w,ws) <-hr ao 5 ws.tail
    mN n (l++[n' w]) ws
   else .ok (l,ws)
def tS (n:Nat) (ws:List aK):cP (List aR × List aK):=
 if eG 5 ws then (hr ao 5 ws).map fun q=>([n' q.1],q.2)
 else if cl jj ws then do
  let (w,ws) <-hr ao 5 ws.tail
  let (l,ws) <-mN ao n [n' w] ws
  let ws <-hQ ao kH ws
  return (l,ws)
 else .ok ([],ws)
def tb:Nat->List aR->List aK->cP (List aR × List aK)
 | 0,_,_=>.error b3
 | n+1,l,ws=>if cl nv ws then do
    let (c,ws) <-o8 ao T 47 ws.tail
    tb n (l++[c]) ws
   else .ok (l,ws)
def tc (n:Nat) (ws:List aK):cP (aR × List aK):=
 let fE:Int:=c2 ao ws
 if cl FP ws then do
  let (l,ws) <-tS ao n ws.tail
  let (w,ws) <-hr ao 3 ws
  let ws <-hQ ao ji ws
  let (c,ws) <-o8 ao T 47 ws
  let (m,ws) <-tb ao T n (l++[c]) ws
  return (.mk 50 l.length fE w.text m,ws)
 else if cl FJ ws then do
  let (c,ws) <-o8 ao T 51 ws.tail
  return (.mk c.k c.n fE c.s c.l,ws)
 else do
  let ws <-hQ ao vq ws
  if cl vs ws then
   let (l,ws) <-T.binds 0 [] ws.tail
   return (.mk 53 0 fE [] l,ws)
  else
   let (p,ws) <-T.pat 0 ws
   let ws <-hQ ao ji ws
   let (b,ws) <-T.seq 0 ws
   return (.mk 52 0 fE [] [p,b],ws)
def td:Nat->List aR->List aK->cP (List aR)
 | 0,_,_=>.error b3
 | n+1,l,ws=>if ws=[] then .ok l else do
    let (p,ws) <-tc ao T n ws
    if 200<p.deep then .error (271,p.a.toNat) else
    let ws <-hQ ao Wu ws
    td n (l++[p]) ws
end
def rX (ws:List aK):Nat:=30 * ws.length+30
def l4 (s:List UInt8):cP (List aR):=
 match hp s with
 | .error e=>.error e
 | .ok ws=>td s.length (bD s.length (rX ws)) (rX ws) [] ws
def eL {α:Type} (E:Int × Nat->Prop) (ws:List aK):cP (α × List aK)->Prop
 | .error e=>E e
 | .ok q=>q.2.length<ws.length
def ku {α:Type} (E:Int × Nat->Prop) (ws:List aK):cP (α × List aK)->Prop
 | .error e=>E e
 | .ok q=>q.2.length<=ws.length
def uB (e:Int × Nat):Prop:=e≠b3
theorem pX (e:Int × Nat) (h:e≠b3):uB e:=h
section
variable {α β:Type} {ws:List aK} {ao:Nat} {E:Int × Nat->Prop}
theorem eL.bind {G:cP β->Prop} {r:cP (α × List aK)} {f:α × List aK->cP β} (h:eL E ws r) (j0:∀e,E e->G (.error e)) (aA:∀a bw,bw.length<ws.length->G (f (a,bw))):G (r >>= f):=by
 cases r with
 | error e=>exact j0 e h
 | ok q=>exact aA q.1 q.2 h
theorem ku.bind {G:cP β->Prop} {r:cP (α × List aK)} {f:α × List aK->cP β} (h:ku E ws r) (j0:∀e,E e->G (.error e)) (aA:∀a bw,bw.length<=ws.length->G (f (a,bw))):G (r >>= f):=by
 cases r with
 | error e=>exact j0 e h
 | ok q=>exact aA q.1 q.2 h
theorem eL.map {r:cP (α × List aK)} {f:α × List aK->β × List aK} (h:eL E ws r) (aA:∀q,(f q).2=q.2):eL E ws (r.map f):=by
 cases r with
 | error e=>exact h
 | ok q=>show (f q).2.length<_;rw [aA];exact h
theorem eL.ge {r:cP (α × List aK)} (h:eL E ws r):ku E ws r:=by
 cases r with
 | error e=>exact h
 | ok q=>exact arh h
theorem eL.lt {bw:List aK} {r:cP (α × List aK)} (h:ku E bw r) (aD:bw.length<ws.length):eL E ws r:=by
 cases r with
 | error e=>exact h
 | ok q=>exact Nat.lt_of_le_of_lt h aD
theorem ku.le {bw:List aK} {r:cP (α × List aK)} (h:ku E bw r) (aD:bw.length<=ws.length):ku E ws r:=by
 cases r with
 | error e=>exact h
 | ok q=>exact aqn h aD
theorem eL.le {bw:List aK} {r:cP (α × List aK)} (h:eL E bw r) (aD:bw.length<=ws.length):eL E ws r:=by
 cases r with
 | error e=>exact h
 | ok q=>exact ar0 h aD
theorem dQ {e:Int × Nat} (h:E e):eL (α:=α) E ws (.error e):=h
theorem qU {e:Int × Nat} (h:E e):ku (α:=α) E ws (.error e):=h
theorem Hk (p:Nat):((270:Int),p)≠b3:=by simp [b3]
theorem ajT (p:Nat):((271:Int),p)≠b3:=by simp [b3]
theorem fi {s:List UInt8} {ws:List aK} (h:cl s ws=true):ws.tail.length<ws.length:=by
 cases ws with
 | nil=>cases h
 | cons w ws=>simp
theorem kc (eB:∀e,e≠b3->E e) {G:cP β->Prop} {s:List UInt8} {f:List aK->cP β} (j0:∀e,E e->G (.error e)) (aA:∀bw,bw.length<ws.length->G (f bw)):G (hQ ao s ws >>= f):=by
 unfold hQ
 split
 . exact aA _ (fi (by assumption))
 . exact j0 _ (eB _ (Hk _))
theorem kJ (eB:∀e,e≠b3->E e) {k:Int}:eL E ws (hr ao k ws):=by
 cases ws with
 | nil=>exact eB _ (Hk _)
 | cons w ws=>
   simp only [hr]
   split
   . simp [eL]
   . exact eB _ (Hk _)
theorem SB (eB:∀e,e≠b3->E e) {G:cP β->Prop} {l:List aR} {f:Unit->cP β} (j0:∀e,E e->G (.error e)) (aA:G (f ())):G (pU ao l ws >>= f):=by
 unfold pU
 split
 . exact j0 _ (eB _ (Hk _))
 . exact aA
theorem Es (eB:∀e,e≠b3->E e) {d:Nat} {r:cP (aR × List aK)} (h:eL E ws r):eL E ws (m_ ao d ws r):=by
 unfold m_
 split
 . exact eB _ (ajT _)
 . exact h
theorem U':∀(a:aR) (ws:List aK),(nY a ws).2.length<=ws.length
 | a,[]=>aqh _
 | a,w::ws=>by
   simp only [nY]
   split
   . exact aqn (U' _ ws) (by simp)
   . exact aqh _
theorem akP {s:List UInt8} (h:ss ws=some s):ws.tail.length<ws.length:=by
 unfold ss at h
 repeat' split at h
 all_goals first
  | exact fi (by assumption)
  | cases h
theorem Vw {s:List UInt8} (h:su ws=some s):ws.tail.length<ws.length:=by
 unfold su at h
 repeat' split at h
 all_goals first
  | exact fi (by assumption)
  | cases h
theorem Vx {s:List UInt8} (h:sv ws=some s):ws.tail.length<ws.length:=by
 unfold sv at h
 repeat' split at h
 all_goals first
  | exact fi (by assumption)
  | cases h
end
structure Told (E:Int × Nat->Prop) (n:Nat) (T:rO):Prop where
 ty:∀d ws,E b3\/30 * ws.length+4<=n->eL E ws (T.ty d ws)
 ix:∀d ws,E b3\/30 * ws.length+3<=n->eL E ws (T.ix d ws)
 named:∀d ws,E b3\/30 * ws.length+2<=n->eL E ws (T.named d ws)
 j6:∀d ws,E b3\/30 * ws.length+1<=n->eL E ws (T.j6 d ws)
 jz:∀d l ws,E b3\/30 * ws.length+1<=n->ku E ws (T.jz d l ws)
 pat:∀d ws,E b3\/30 * ws.length+3<=n->eL E ws (T.pat d ws)
 jO:∀d ws,E b3\/30 * ws.length+2<=n->eL E ws (T.jO d ws)
 hq:∀d ws,E b3\/30 * ws.length+1<=n->eL E ws (T.hq d ws)
 seq:∀d ws,E b3\/30 * ws.length+9<=n->eL E ws (T.seq d ws)
 cases:∀d l ws,E b3\/30 * ws.length+4<=n->eL E ws (T.cases d l ws)
 fn:∀d a ws,E b3\/30 * ws.length+4<=n->eL E ws (T.fn d a ws)
 one:∀d ws,E b3\/30 * ws.length+8<=n->eL E ws (T.one d ws)
 iD:∀d k a ws,E b3\/30 * ws.length+10<=n->eL E ws (T.iD d k a ws)
 lt:∀d a ws,E b3\/30 * ws.length+4<=n->eL E ws (T.lt d a ws)
 binds:∀d l ws,E b3\/30 * ws.length+1<=n->eL E ws (T.binds d l ws)
 pair:∀d ws,E b3\/30 * ws.length+7<=n->eL E ws (T.pair d ws)
 j9:∀d ws,E b3\/30 * ws.length+6<=n->eL E ws (T.j9 d ws)
 h8:∀d ws,E b3\/30 * ws.length+5<=n->eL E ws (T.h8 d ws)
 ih:∀d ws,E b3\/30 * ws.length+4<=n->eL E ws (T.ih d ws)
 lq:∀d a ws,E b3\/30 * ws.length+1<=n->ku E ws (T.lq d a ws)
 lr:∀d a ws,E b3\/30 * ws.length+1<=n->ku E ws (T.lr d a ws)
 pre:∀d ws,E b3\/30 * ws.length+3<=n->eL E ws (T.pre d ws)
 app:∀d ws,E b3\/30 * ws.length+2<=n->eL E ws (T.app d ws)
 args:∀d a ws,E b3\/30 * ws.length+2<=n->ku E ws (T.args d a ws)
 atom:∀d ws,E b3\/30 * ws.length+1<=n->eL E ws (T.atom d ws)
theorem Oc {E:Int × Nat->Prop} (eB:∀e,e≠b3->E e) (ao:Nat):∀n,Told E n (bD ao n)
 | 0=>by constructor<;>(intros;rename_i h;exact h.elim id fun h=>by omega)
 | n+1=>by
   have I:=Oc eB ao n;constructor
   case ty=>
    intro d ws aL;refine Es eB ((I.ix _ ws (aL.imp id fun aL=>by omega)).bind (fun _=>dQ) fun a bc U=>?_)
    try simp only
    split
    . rename_i az;have:=fi az
      try dsimp only
      exact (I.ty _ _ (aL.imp id fun aL=>by omega)).bind (fun _=>dQ) fun b br ad=>by show br.length<_;omega
    . exact U
   case ix=>
    intro d ws aL
    try dsimp only
    refine (I.named _ ws (aL.imp id fun aL=>by omega)).bind (fun _=>dQ) fun a bc U=>?_
    try simp only
    split
    . rename_i az;have:=fi az
      try dsimp only
      exact (I.ix _ _ (aL.imp id fun aL=>by omega)).bind (fun _=>dQ) fun b br ad=>by show br.length<_;omega
    . exact U
   case named=>
    intro d ws aL
    try dsimp only
    refine (I.j6 _ ws (aL.imp id fun aL=>by omega)).bind (fun _=>dQ) fun a bc U=>?_;exact Nat.lt_of_le_of_lt (U' a bc) U
   case j6=>
    intro d ws aL;show eL E ws (yy ao _ d ws);unfold yy
    split
    . exact (kJ eB).map fun _=>rfl
    split
    . exact (kJ eB).map fun _=>rfl
    try dsimp only
    refine kc eB (fun _=>dQ) fun bc U=>?_
    try dsimp only
    refine (I.ty _ _ (aL.imp id fun aL=>by omega)).bind (fun _=>dQ) fun a br ad=>?_
    try dsimp only
    refine (I.jz _ _ _ (aL.imp id fun aL=>by omega)).bind (fun _=>dQ) fun l dT aC=>?_
    try dsimp only
    refine kc eB (fun _=>dQ) fun fJ aX=>?_
    try simp only
    split
    . show fJ.length<_;omega
    . try dsimp only
      exact (kJ eB).bind (fun _=>dQ) fun w gY bF=>by show gY.length<_;omega
   case jz=>
    intro d l ws aL;show ku E ws (uq ao _ d l ws);unfold uq
    split
    . rename_i az;have:=fi az
      try dsimp only
      refine SB eB (fun _=>qU) ?_
      try dsimp only
      refine (I.ty _ _ (aL.imp id fun aL=>by omega)).bind (fun _=>qU) fun a br ad=>?_
      try dsimp only
      exact (I.jz _ _ _ (aL.imp id fun aL=>by omega)).le (by omega)
    . exact aqh _
   case pat=>
    intro d ws aL;refine Es eB ((I.jO _ ws (aL.imp id fun aL=>by omega)).bind (fun _=>dQ) fun a bc U=>?_)
    try simp only
    split
    . rename_i az;have:=fi az
      try dsimp only
      exact (I.pat _ _ (aL.imp id fun aL=>by omega)).bind (fun _=>dQ) fun b br ad=>by show br.length<_;omega
    . exact U
   case jO=>
    intro d ws aL;show eL E ws (ye ao _ d ws);unfold ye
    split
    . try dsimp only
      refine (kJ eB).bind (fun _=>dQ) fun w bc U=>?_
      try simp only
      split
      . try dsimp only
        exact (I.hq _ _ (aL.imp id fun aL=>by omega)).bind (fun _=>dQ) fun b br ad=>by show br.length<_;omega
      . exact U
    . try dsimp only
      exact I.hq _ _ (aL.imp id fun aL=>by omega)
   case hq=>
    intro d ws aL;show eL E ws (yf ao _ d ws);unfold yf
    try simp only
    split
    . exact fi (by assumption)
    split
    . exact (kJ eB).map fun _=>rfl
    split
    . exact (kJ eB).map fun _=>rfl
    split
    . exact (kJ eB).map fun _=>rfl
    split
    . rename_i az;have:=fi az;exact eL.le (bw:=ws.tail) ((kJ eB).map fun _=>rfl) (arh this)
    split
    . exact fi (by assumption)
    split
    . exact fi (by assumption)
    try dsimp only
    refine kc eB (fun _=>dQ) fun bc U=>?_
    split
    . rename_i az;have:=fi az;show bc.tail.length<_;omega
    . try dsimp only
      refine (I.pat _ _ (aL.imp id fun aL=>by omega)).bind (fun _=>dQ) fun a br ad=>?_
      try dsimp only
      exact kc eB (fun _=>dQ) fun dT aC=>by show dT.length<_;omega
   case seq=>
    intro d ws aL;refine Es eB ((I.one _ ws (aL.imp id fun aL=>by omega)).bind (fun _=>dQ) fun a bc U=>?_)
    try simp only
    split
    . rename_i az;have:=fi az
      try dsimp only
      exact (I.seq _ _ (aL.imp id fun aL=>by omega)).bind (fun _=>dQ) fun b br ad=>by show br.length<_;omega
    . exact U
   case cases=>
    intro d l ws aL
    try dsimp only
    refine (I.pat _ ws (aL.imp id fun aL=>by omega)).bind (fun _=>dQ) fun a bc U=>?_
    try dsimp only
    refine kc eB (fun _=>dQ) fun br ad=>?_
    try dsimp only
    refine (I.seq _ _ (aL.imp id fun aL=>by omega)).bind (fun _=>dQ) fun b dT aC=>?_
    try simp only
    split
    . rename_i az;have:=fi az
      try dsimp only
      exact (I.cases _ _ _ (aL.imp id fun aL=>by omega)).le (by omega)
    . show dT.length<_;omega
   case fn=>
    intro d a0 ws aL
    try dsimp only
    refine (I.pat _ ws (aL.imp id fun aL=>by omega)).bind (fun _=>dQ) fun a bc U=>?_
    try dsimp only
    refine kc eB (fun _=>dQ) fun br ad=>?_
    try dsimp only
    exact (I.seq _ _ (aL.imp id fun aL=>by omega)).bind (fun _=>dQ) fun b dT aC=>by show dT.length<_;omega
   case one=>
    intro d ws aL;show eL E ws (x9 ao _ d ws);unfold x9
    try simp only
    split
    . rename_i az;have:=fi az
      try dsimp only
      exact (I.lt _ _ _ (aL.imp id fun aL=>by omega)).le (by omega)
    split
    . rename_i az;have:=fi az
      try dsimp only
      exact (I.fn _ _ _ (aL.imp id fun aL=>by omega)).le (by omega)
    split
    . rename_i az;have:=fi az
      try dsimp only
      refine (I.seq _ _ (aL.imp id fun aL=>by omega)).bind (fun _=>dQ) fun a bc U=>?_
      try dsimp only
      refine kc eB (fun _=>dQ) fun br ad=>?_
      try dsimp only
      refine (I.one _ _ (aL.imp id fun aL=>by omega)).bind (fun _=>dQ) fun a dT aC=>?_
      try dsimp only
      refine kc eB (fun _=>dQ) fun fJ aX=>?_
      try dsimp only
      exact (I.one _ _ (aL.imp id fun aL=>by omega)).bind (fun _=>dQ) fun a gY bF=>by show gY.length<_;omega
    split
    . rename_i az;have:=fi az
      try dsimp only
      exact (I.iD _ _ _ _ (aL.imp id fun aL=>by omega)).le (by omega)
    split
    . rename_i az;have:=fi az
      try dsimp only
      exact (I.iD _ _ _ _ (aL.imp id fun aL=>by omega)).le (by omega)
    try dsimp only
    refine (I.pair _ ws (aL.imp id fun aL=>by omega)).bind (fun _=>dQ) fun a bc U=>?_
    try simp only
    split
    . rename_i az;have:=fi az
      try dsimp only
      exact (I.one _ _ (aL.imp id fun aL=>by omega)).bind (fun _=>dQ) fun b br ad=>by show br.length<_;omega
    . exact U
   case iD=>
    intro d k a0 ws aL
    try dsimp only
    refine (I.seq _ ws (aL.imp id fun aL=>by omega)).bind (fun _=>dQ) fun a bc U=>?_
    try dsimp only
    refine kc eB (fun _=>dQ) fun br ad=>?_;have aC:(if cl nv br then br.tail else br).length<=br.length:=by split<;>simp
    try dsimp only
    exact (I.cases _ _ _ (aL.imp id fun aL=>by omega)).bind (fun _=>dQ) fun b fJ aX=>by show fJ.length<_;omega
   case lt=>
    intro d a0 ws aL;show eL E ws (xT ao _ d a0 ws);unfold xT
    split
    . rename_i az;have:=fi az
      try dsimp only
      refine (I.binds _ _ _ (aL.imp id fun aL=>by omega)).bind (fun _=>dQ) fun a bc U=>?_
      try dsimp only
      refine kc eB (fun _=>dQ) fun br ad=>?_
      try dsimp only
      exact (I.seq _ _ (aL.imp id fun aL=>by omega)).bind (fun _=>dQ) fun b dT aC=>by show dT.length<_;omega
    . try dsimp only
      refine (I.pat _ ws (aL.imp id fun aL=>by omega)).bind (fun _=>dQ) fun a bc U=>?_
      try dsimp only
      refine kc eB (fun _=>dQ) fun br ad=>?_
      try dsimp only
      refine (I.seq _ _ (aL.imp id fun aL=>by omega)).bind (fun _=>dQ) fun b dT aC=>?_
      try dsimp only
      refine kc eB (fun _=>dQ) fun fJ aX=>?_
      try dsimp only
      exact (I.seq _ _ (aL.imp id fun aL=>by omega)).bind (fun _=>dQ) fun b gY bF=>by show gY.length<_;omega
   case binds=>
    intro d l ws aL
    try dsimp only
    refine (kJ eB).bind (fun _=>dQ) fun w bc U=>?_
    try dsimp only
    refine kc eB (fun _=>dQ) fun br ad=>?_
    try dsimp only
    refine kc eB (fun _=>dQ) fun dT aC=>?_
    try dsimp only
    refine (I.fn _ _ _ (aL.imp id fun aL=>by omega)).bind (fun _=>dQ) fun b fJ aX=>?_
    try simp only
    split
    . rename_i az;have:=fi az
      try dsimp only
      exact (I.binds _ _ _ (aL.imp id fun aL=>by omega)).le (by omega)
    . show fJ.length<_;omega
   case pair=>
    intro d ws aL
    try dsimp only
    refine (I.j9 _ ws (aL.imp id fun aL=>by omega)).bind (fun _=>dQ) fun a bc U=>?_
    try simp only
    split
    . rename_i az;have:=fi az
      try dsimp only
      exact (I.pair _ _ (aL.imp id fun aL=>by omega)).bind (fun _=>dQ) fun b br ad=>by show br.length<_;omega
    . exact U
   case j9=>
    intro d ws aL
    try dsimp only
    refine (I.h8 _ ws (aL.imp id fun aL=>by omega)).bind (fun _=>dQ) fun a bc U=>?_
    try simp only
    split
    . rename_i az;have:=akP az
      try dsimp only
      exact (I.h8 _ _ (aL.imp id fun aL=>by omega)).bind (fun _=>dQ) fun b br ad=>by show br.length<_;omega
    . exact U
   case h8=>
    intro d ws aL
    try dsimp only
    refine (I.ih _ ws (aL.imp id fun aL=>by omega)).bind (fun _=>dQ) fun a bc U=>?_
    try dsimp only
    exact eL.lt (I.lq _ _ _ (aL.imp id fun aL=>by omega)) U
   case ih=>
    intro d ws aL
    try dsimp only
    refine (I.pre _ ws (aL.imp id fun aL=>by omega)).bind (fun _=>dQ) fun a bc U=>?_
    try dsimp only
    exact eL.lt (I.lr _ _ _ (aL.imp id fun aL=>by omega)) U
   case lq=>
    intro d a ws aL;show ku E ws (x_ _ d a ws);unfold x_
    split
    . rename_i az;have:=Vw az
      try dsimp only
      refine (I.ih _ _ (aL.imp id fun aL=>by omega)).bind (fun _=>qU) fun b bc U=>?_
      try dsimp only
      exact (I.lq _ _ _ (aL.imp id fun aL=>by omega)).le (by omega)
    . exact aqh _
   case lr=>
    intro d a ws aL;show ku E ws (ya _ d a ws);unfold ya
    split
    . rename_i az;have:=Vx az
      try dsimp only
      refine (I.pre _ _ (aL.imp id fun aL=>by omega)).bind (fun _=>qU) fun b bc U=>?_
      try dsimp only
      exact (I.lr _ _ _ (aL.imp id fun aL=>by omega)).le (by omega)
    . exact aqh _
   case pre=>
    intro d ws aL;refine Es eB ?_
    try simp only
    split
    . rename_i az;have:=fi az;exact eL.le (bw:=ws.tail) ((I.pre _ _ (aL.imp id fun aL=>by omega)).map fun _=>rfl) (by omega)
    split
    . rename_i az;have:=fi az;exact eL.le (bw:=ws.tail) ((I.pre _ _ (aL.imp id fun aL=>by omega)).map fun _=>rfl) (by omega)
    try dsimp only
    exact I.app _ _ (aL.imp id fun aL=>by omega)
   case app=>
    intro d ws aL;show eL E ws (uP ao _ d ws);unfold uP
    try simp only
    split
    . rename_i az;have:=fi az;exact eL.le (bw:=ws.tail) ((I.atom _ _ (aL.imp id fun aL=>by omega)).map fun _=>rfl) (by omega)
    split
    . try dsimp only
      refine (kJ eB).bind (fun _=>dQ) fun w bc U=>?_
      try simp only
      split
      . try dsimp only
        exact (I.atom _ _ (aL.imp id fun aL=>by omega)).bind (fun _=>dQ) fun b br ad=>by show br.length<_;omega
      . exact U
    . try dsimp only
      refine (I.atom _ _ (aL.imp id fun aL=>by omega)).bind (fun _=>dQ) fun b br ad=>?_
      try dsimp only
      exact eL.lt (I.args _ _ _ (aL.imp id fun aL=>by omega)) ad
   case args=>
    intro d a ws aL;show ku E ws (wM _ d a ws);unfold wM
    split
    . try dsimp only
      refine (I.atom _ _ (aL.imp id fun aL=>by omega)).bind (fun _=>qU) fun b br ad=>?_
      try dsimp only
      exact (I.args _ _ _ (aL.imp id fun aL=>by omega)).le (by omega)
    . exact aqh _
   case atom=>
    intro d ws aL;show eL E ws (wP ao _ d ws);unfold wP
    try simp only
    split
    . exact (kJ eB).map fun _=>rfl
    split
    . exact (kJ eB).map fun _=>rfl
    split
    . exact (kJ eB).map fun _=>rfl
    split
    . exact (kJ eB).map fun _=>rfl
    split
    . exact fi (by assumption)
    split
    . exact fi (by assumption)
    split
    . rename_i az;have:=fi az
      try dsimp only
      refine (I.seq _ _ (aL.imp id fun aL=>by omega)).bind (fun _=>dQ) fun a bc U=>?_
      try dsimp only
      exact kc eB (fun _=>dQ) fun br ad=>by show br.length<_;omega
    try dsimp only
    refine kc eB (fun _=>dQ) fun bc U=>?_
    split
    . rename_i az;have:=fi az;show bc.tail.length<_;omega
    . try dsimp only
      refine (I.seq _ _ (aL.imp id fun aL=>by omega)).bind (fun _=>dQ) fun a br ad=>?_
      try dsimp only
      exact kc eB (fun _=>dQ) fun dT aC=>by show dT.length<_;omega
theorem told (ao n:Nat):Told uB n (bD ao n):=Oc pX ao n
theorem shorter (ao n:Nat):Told (fun _=>True) n (bD ao n):=Oc (fun _ _=>trivial) ao n
section
variable {ao:Nat} {T:rO} {N:Nat} (I:Told uB N T)
include I
theorem Jf {k:Int} {ws:List aK} (h:30 * ws.length+4<=N):eL uB ws (o8 ao T k ws):=by
 try dsimp only
 refine (kJ pX).bind (fun _=>dQ) fun w bc U=>?_
 try simp only
 split
 . rename_i az;have:=fi az
   try dsimp only
   exact (I.ty _ _ (.inr (by omega))).bind (fun _=>dQ) fun b br ad=>by show br.length<_;omega
 . exact U
theorem RW:∀{n:Nat} {l:List aR} {ws:List aK},ws.length<n->30 * ws.length+4<=N->ku uB ws (tb ao T n l ws)
 | 0,l,ws,h,_=>by omega
 | n+1,l,ws,h,bO=>by
   simp only [tb]
   split
   . rename_i az;have:=fi az
     try dsimp only
     refine (Jf I (by omega)).bind (fun _=>qU) fun c bc U=>?_
     try dsimp only
     exact ku.le (bw:=bc) (RW (by omega) (by omega)) (by omega)
   . exact aqh _
omit I in
theorem VJ:∀{n:Nat} {l:List aR} {ws:List aK},ws.length<n->ku uB ws (mN ao n l ws)
 | 0,l,ws,h=>by omega
 | n+1,l,ws,h=>by
   simp only [mN]
   split
   . rename_i az;have:=fi az
     try dsimp only
     refine SB pX (fun _=>qU) ?_
     try dsimp only
     refine (kJ pX).bind (fun _=>qU) fun c bc U=>?_
     try dsimp only
     exact ku.le (bw:=bc) (VJ (by omega)) (by omega)
   . exact aqh _
omit I in
theorem alo {n:Nat} {ws:List aK} (h:ws.length<n):ku uB ws (tS ao n ws):=by
 unfold tS
 split
 . exact eL.ge (eL.map (kJ pX) fun _=>rfl)
 split
 . rename_i az;have:=fi az
   try dsimp only
   refine (kJ pX).bind (fun _=>qU) fun w bc U=>?_
   try dsimp only
   refine (VJ (ws:=bc) (by omega)).bind (fun _=>qU) fun l br ad=>?_
   try dsimp only
   exact kc pX (fun _=>qU) fun dT aC=>by show dT.length<=_;omega
 . exact aqh _
theorem ab8 {n:Nat} {ws:List aK} (h:ws.length<n) (bO:30 * ws.length+30<=N):eL uB ws (tc ao T n ws):=by
 unfold tc
 try simp only
 split
 . rename_i az;have:=fi az;refine (alo (by omega)).bind (fun _=>dQ) fun l bc U=>?_
   try dsimp only
   refine (kJ pX).bind (fun _=>dQ) fun w br ad=>?_
   try dsimp only
   refine kc pX (fun _=>dQ) fun dT aC=>?_
   try dsimp only
   refine (Jf I (by omega)).bind (fun _=>dQ) fun c fJ aX=>?_
   try dsimp only
   exact (RW (ws:=fJ) I (by omega) (by omega)).bind (fun _=>dQ) fun m gY bF=>by show gY.length<_;omega
 split
 . rename_i az;have:=fi az
   try dsimp only
   exact (Jf I (by omega)).bind (fun _=>dQ) fun c bc U=>by show bc.length<_;omega
 try dsimp only
 refine kc pX (fun _=>dQ) fun bc U=>?_
 split
 . rename_i az;have:=fi az
   try dsimp only
   exact (I.binds _ _ _ (.inr (by omega))).bind (fun _=>dQ) fun c br ad=>by show br.length<_;omega
 . try dsimp only
   refine (I.pat _ _ (.inr (by omega))).bind (fun _=>dQ) fun p br ad=>?_
   try dsimp only
   refine kc pX (fun _=>dQ) fun dT aC=>?_
   try dsimp only
   exact (I.seq _ _ (.inr (by omega))).bind (fun _=>dQ) fun b fJ aX=>by show fJ.length<_;omega
theorem R3:∀{n:Nat} {l:List aR} {ws:List aK},ws.length+1<n->30 * ws.length+30<=N->td ao T n l ws≠.error b3
 | 0,l,ws,h,_=>by omega
 | n+1,l,ws,h,bO=>by
   simp only [td]
   split
   . simp
   . refine (ab8 I (by omega) bO).bind (G:=fun r=>r≠.error b3) (fun e h z=>h (by cases z;rfl)) fun p bc U=>?_
     try simp only
     split
     . intro z;cases z
     . try dsimp only
       refine kc pX (G:=fun r=>r≠.error b3) (fun e h z=>h (by cases z;rfl)) fun br ad=>?_
       try dsimp only
       exact R3 (ws:=br) (by omega) (by omega)
end
theorem alr (s:List UInt8) (h:∀e,hp s=.error e->e≠b3):l4 s≠.error b3:=by
 unfold l4;cases aD:hp s with
 | error e=>simp only;intro q;cases q;exact h _ aD rfl
 | ok ws=>exact R3 (told s.length (rX ws)) (by unfold rX;omega) (by unfold rX;omega)
structure aoH (s:List UInt8) (p:Nat) (b:aN) (B:Nat) (ws:List aK) (h:ae) (res:sY) (ab:ae):Prop where
 mod:Mod (Yy b B) h ab
 res:∃v2,match res with
  | .ok q=>ab.get b=V9 s ((p+q.2.2.2:Nat):Int) p 0 v2/\p+q.2.2.2<=s.length/\fe B ab 4 v2 (ws.length+1) (hj (ws++[⟨q.1,q.2.1,p,q.2.2.1⟩]))
  | .error e=>e≠0/\∃a1:Int,ab.get b=V9 s a1 p e v2
def RF:bL:=
 .seq (.seq (.ax [aj 22 5,dN 23 22,fk 24 23,cF 25 24,aj 26 4,iN 27 26,kM 28 25 27])
 (.cond (.t 28)
 (.skip)
 (.exit 0)))
 (.block 1 (.seq (.ax [aj 29 5,c8 30 29 23,eW 6,⟨none,.st 5 (.t 6) (.t 30),none,[6,30]⟩])
 (.seq (.ax [aj 31 5,eX 32 6,iY 33 31 32 24])
 (.seq (.ax [aj 34 5,⟨some 35,.call 25 [(.t 34),(.c (.str [59,59]))],none,[34]⟩])
 (bL.Bv [cF 36 2,eX 37 6,iN 38 36,⟨some 39,.kx 1 5 [(.int .i64 0),(.int .i64 0),(.int .i64 0),(.str []),.cn] [(0,5,(.c (.agg [(.int .i64 0),(.int .i64 0),(.int .i64 0),(.str []),.cn])))],none,[]⟩,sN 40 36 39,uH 41 40 38,⟨none,.st 5 (.t 41) (.t 37),none,[41,37]⟩,⟨none,.st 1 (.t 2) (.t 40),none,[2,40]⟩] [(0,[4]),(1,[4])])))))
def RB:bL:=
 .seq (.ax [⟨some 2,.new [.cn],none,[]⟩,AW 3])
 (.seq (.ax [aj 8 0,c8 9 8 13,aj 7 9,pC 10 7,pD 11 7,aj 4 10,⟨none,.st 2 (.t 3) (.t 11),none,[3,11]⟩])
 (.seq (.seq (.ax [jD 12 3,cF 13 12,AR 14 13 0])
 (.cond (.t 14)
 (.seq (.draw [⟨some 15,.iH 2 (.t 3),none,[3]⟩,⟨none,.st 1 (.t 2) (.c .cn),none,[2]⟩,⟨none,.st 2 (.t 3) (.t 15),none,[3,15]⟩] [(0,[1,2])] [] [])
 (.ret))
 (.skip)))
 (.seq (.ax [⟨some 16,.fn 22 [(.t 2),(.t 3)],none,[2,3]⟩,⟨some 17179869185,.gg (.t 16) [],none,[17179869185,16]⟩])
 (.seq (.ax [aj 17 4,aj 18 0,lE 19 18,⟨some 20,.build [.cn,(.int .i64 0),(.int .i64 0),(.int .i64 0)] [(0,1,(.t 17)),(2,1,(.t 19))],none,[17,19]⟩,oZ 21 20,aj 5 21])
 (.seq (.block 0 (.loop RF))
 (.seq (.ax [cF 42 2,⟨some 43,.build [(.int .i64 0),(.int .i64 0)] [],none,[]⟩,⟨none,.st 1 (.t 2) (.t 42),none,[2,42]⟩,⟨none,.st 2 (.t 3) (.t 43),none,[3,43]⟩])
 (.ret)))))))
theorem aa6:wv 9 44 Tryz.f9 RB [.bS 2,.hG 3 2]:=⟨Tryz.func9,by kernel_rfl⟩
def QW:bL:=
 .seq (.seq (.ax [aj 29 0,HQ 30 29])
 (.cond (.t 30)
 (.skip)
 (.exit 1)))
 (.block 2 (.ax [aj 31 4,aj 32 0,f_ 33 32 53 47,k6 34 33,sN 35 31 34,aj 4 35]))
def QT:bL:=
 .seq (.ax [eW 2])
 (.seq (.ax [aj 8 0,c8 9 8 49,aj 3 9])
 (.seq (.block 0 (.seq (.ax [aj 11 0,⟨some 12,.call 50 [(.t 11),(.c (.str [116,121,112,101]))],none,[11]⟩,aj 10 12])
 (.cond (.t 10)
 (.seq (.ax [aj 13 0,c8 14 13 51,aj 4 14])
 (.seq (.ax [aj 15 4,iN 16 15,aj 17 0,f_ 18 17 52 3,qD 19 18,aj 20 3,⟨some 21,.build [(.int .i64 0),(.int .i64 0),(.int .i64 0),(.str []),.cn] [(0,1,(.c (.int .i64 50))),(1,1,(.t 16)),(3,1,(.t 19)),(2,1,(.t 20))],none,[16,19,20]⟩,eW 5,⟨none,.st 5 (.t 5) (.t 21),none,[5,21]⟩])
 (.seq (.ax [aj 22 0,DM 23 22])
 (.seq (.ax [aj 24 4,aj 25 0,f_ 26 25 53 47,k6 27 26,sN 28 24 27,aj 4 28])
 (.seq (.block 1 (.loop QW))
 (.seq (.ax [aj 36 4,qC 37 5,⟨none,.st 1 (.t 37) (.t 36),none,[37,36]⟩])
 (.seq (.ax [eX 38 5,⟨none,.st 5 (.t 2) (.t 38),none,[2,38]⟩])
 (.ret))))))))
 (.seq (.ax [aj 40 0,⟨some 41,.call 50 [(.t 40),(.c (.str [101,120,99,101,112,116,105,111,110]))],none,[40]⟩,aj 39 41])
 (.cond (.t 39)
 (.seq (.ax [aj 42 0,f_ 43 42 53 51,eW 6,⟨none,.st 5 (.t 6) (.t 43),none,[6,43]⟩])
 (.seq (.ax [aj 44 3,iB 45 6,⟨none,.st 1 (.t 45) (.t 44),none,[45,44]⟩])
 (.seq (.ax [eX 46 6,⟨none,.st 5 (.t 2) (.t 46),none,[2,46]⟩])
 (.ret))))
 (.skip))))))
 (.seq (.ax [aj 47 0,⟨some 48,.call 25 [(.t 47),(.c (.str [108,101,116]))],none,[47]⟩])
 (.seq (.seq (.ax [aj 49 0,⟨some 50,.call 50 [(.t 49),(.c (.str [114,101,99]))],none,[49]⟩])
 (.cond (.t 50)
 (.seq (.ax [aj 51 3,aj 52 0,c8 53 52 54,sQ 54 51 53 53,⟨none,.st 5 (.t 2) (.t 54),none,[2,54]⟩])
 (.ret))
 (.skip)))
 (.seq (.ax [aj 55 0,c8 56 55 55,eW 7,⟨none,.st 5 (.t 7) (.t 56),none,[7,56]⟩])
 (.seq (.ax [aj 57 0,DM 58 57])
 (.seq (.draw [aj 59 3,eX 60 7,aj 61 0,c8 62 61 56,HL 63 60 62,sQ 64 59 63 52,⟨none,.st 5 (.t 2) (.t 64),none,[2,64]⟩] [(1,[3,6])] [3] [59,60,61,62,63,64])
 (.ret))))))))
theorem aaw:dJ 23 65 Tryz.f23 QT [.hG 2 5]:=⟨Tryz.func23,by kernel_rfl⟩
def QX:bL:=
 .seq (.ax [oZ 3 1])
 (.seq (.ax [eX 4 3,c8 5 4 40,sP 6 5 200])
 (.cond (.t 6)
 (.ax [aj 7 0,iB 8 3,cF 9 8,wA 10 7 9 57 271])
 (.skip)))
theorem aax:dJ 24 11 Tryz.f24 QX []:=⟨Tryz.func24,by kernel_rfl⟩
def QY:bL:=
 .seq (.ax [aj 4 0,aj 5 1,iY 6 4 5 50,qE 7 6])
 (.cond (.t 7)
 (.ax [aj 8 0,aj 9 0,c8 10 9 49,wA 11 8 10 57 270])
 (.skip))
theorem aay:dJ 25 12 Tryz.f25 QY []:=⟨Tryz.func25,by kernel_rfl⟩
def c49:bL:=
 .seq (.ax [ht 2 0])
 (.seq (.seq (.draw [aj 3 0,dN 4 3,fk 5 4,cF 6 5,aj 7 0,dN 8 7,jD 9 8,cF 10 9,iN 11 10,kM 12 6 11] [] [] [])
 (.cond (.t 12)
 (.seq (.draw [aj 13 0,dN 14 13,jD 15 14,cF 16 15,aj 17 0,dN 18 17,fk 19 18,cF 20 19,DO 21 16 20,iB 22 21,cF 23 22,aj 2 23] [] [] [])
 (.ret))
 (.skip)))
 (.seq (.ax [aj 24 0,dN 25 24,iB 26 25,cF 27 26,aj 2 27])
 (.ret)))
theorem aaH:dJ 49 28 Tryz.f49 c49 [.t 2]:=⟨Tryz.func49,by kernel_rfl⟩
def Q_:bL:=
 .seq (.ax [hF 4])
 (.seq (.seq (.ax [aj 5 0,aj 6 1,iY 7 5 6 97])
 (.cond (.t 7)
 (.seq (.ax [aj 8 0,dN 9 8,fk 10 9,cF 11 10,hV 12 11 1,dN 13 8,fk 14 13,⟨none,.st 1 (.t 14) (.t 12),none,[14,12]⟩])
 (.seq (.ax [AV 4])
 (.ret)))
 (.skip)))
 (.seq (.ax [hF 4])
 (.ret)))
theorem aaI:dJ 50 15 Tryz.f50 Q_ [.t 4]:=⟨Tryz.func50,by kernel_rfl⟩
def Ra:bL:=
 .seq (.seq (.ax [cF 17 1,DN 18 17])
 (.cond (.t 18)
 (.skip)
 (.exit 0)))
 (.block 1 (.seq (.ax [cF 19 1,aj 20 4,iY 21 19 20 100])
 (.ax [aj 22 4,aj 23 3,⟨some 24,.o7 (.t 23) [],none,[23]⟩,k6 25 24,sN 26 22 25,aj 4 26])))
def c51:bL:=
 .seq (.ax [oZ 1 0,oc 2])
 (.seq (.ax [⟨some 5,.fn 98 [(.t 1)],none,[1]⟩,aj 3 5])
 (.seq (.seq (.ax [cF 6 1,f_ 7 6 99 5])
 (.cond (.t 7)
 (.seq (.ax [aj 8 3,⟨some 9,.o7 (.t 8) [],none,[8]⟩,k6 10 9,aj 2 10])
 (.ret))
 (.skip)))
 (.seq (.seq (.ax [cF 11 1,DL 12 11 50,qE 13 12])
 (.cond (.t 13)
 (.seq (.ax [oc 2])
 (.ret))
 (.skip)))
 (.seq (.ax [aj 14 3,⟨some 15,.o7 (.t 14) [],none,[14]⟩,k6 16 15,aj 4 16])
 (.seq (.block 0 (.loop Ra))
 (.seq (.ax [cF 27 1,yP 28 27 25])
 (.seq (.ax [aj 29 4,aj 2 29])
 (.ret))))))))
theorem aaJ:dJ 51 30 Tryz.f51 c51 [.t 2]:=⟨Tryz.func51,by kernel_rfl⟩
def Rb:bL:=
 .seq (.ax [rH 4])
 (.seq (.seq (.ax [aj 5 0,aj 6 1,iY 7 5 6 99,qE 8 7])
 (.cond (.t 8)
 (.ax [aj 9 0,aj 10 0,c8 11 10 49,wA 12 9 11 57 270])
 (.skip)))
 (.seq (.ax [aj 13 0,dN 14 13,fk 15 14,cF 16 15,hV 17 16 1,dN 18 13,fk 19 18,⟨none,.st 1 (.t 19) (.t 17),none,[19,17]⟩])
 (.seq (.draw [aj 20 0,dN 21 20,jD 22 21,cF 23 22,aj 24 0,dN 25 24,fk 26 25,cF 27 26,DI 28 27 1,DO 29 23 28,⟨some 30,.iH 4 (.t 29),none,[29]⟩,⟨none,.st 4 (.t 4) (.t 30),none,[4,30]⟩] [(3,[11]),(7,[11]),(10,[11])] [] [])
 (.ret))))
theorem aaK:dJ 52 31 Tryz.f52 Rb [.hG 4 4]:=⟨Tryz.func52,by kernel_rfl⟩
def Rc:bL:=
 .seq (.ax [eW 4])
 (.seq (.ax [aj 7 0,f_ 8 7 52 4,rH 5,⟨none,.st 4 (.t 5) (.t 8),none,[5,8]⟩])
 (.seq (.ax [aj 9 1,pE 10 5,cF 11 10,iB 12 5,cF 13 12,⟨some 14,.build [(.int .i64 0),(.int .i64 0),(.int .i64 0),(.str []),.cn] [(0,1,(.t 9)),(3,1,(.t 11)),(2,1,(.t 13))],none,[9,11,13]⟩,eW 6,⟨none,.st 5 (.t 6) (.t 14),none,[6,14]⟩])
 (.seq (.seq (.ax [aj 15 0,⟨some 16,.call 50 [(.t 15),(.c (.str [111,102]))],none,[15]⟩])
 (.cond (.t 16)
 (.ax [aj 17 0,c8 18 17 101,k6 19 18,qC 20 6,⟨none,.st 1 (.t 20) (.t 19),none,[20,19]⟩])
 (.skip)))
 (.seq (.ax [eX 21 6,⟨none,.st 5 (.t 4) (.t 21),none,[4,21]⟩])
 (.ret)))))
theorem aaL:dJ 53 22 Tryz.f53 Rc [.hG 4 5]:=⟨Tryz.func53,by kernel_rfl⟩
def Re:bL:=
 .block 1 (.seq (.ax [aj 6 0,f_ 7 6 52 3,rH 4,⟨none,.st 4 (.t 4) (.t 7),none,[4,7]⟩])
 (.seq (.ax [aj 8 0,DM 9 8])
 (.seq (.ax [aj 10 0,c8 11 10 49,aj 5 11])
 (.seq (.ax [aj 12 0,⟨some 13,.call 25 [(.t 12),(.c (.str [102,117,110]))],none,[12]⟩])
 (.seq (.draw [aj 14 3,pE 15 4,cF 16 15,iB 17 4,cF 18 17,aj 19 0,aj 20 5,iY 21 19 20 102,k6 22 21,HN 23 16 18 22 46,k6 24 23,sN 25 14 24,aj 3 25] [(2,[7,11]),(4,[7,11])] [7] [14,15,16,17,18,19,20,21,22,23,24,25,3])
 (.seq (.ax [aj 26 0,⟨some 27,.call 50 [(.t 26),(.c (.str [97,110,100]))],none,[26]⟩,qE 28 27])
 (.cond (.t 28)
 (.seq (.ax [aj 29 3,aj 2 29])
 (.ret))
 (.skip))))))))
def Rd:bL:=
 .seq (.ax [oc 2])
 (.seq (.ax [oc 3])
 (.block 0 (.loop Re)))
theorem aaM:dJ 54 30 Tryz.f54 Rd [.t 2]:=⟨Tryz.func54,by kernel_rfl⟩
def Rf:bL:=
 .seq (.ax [eW 2])
 (.seq (.ax [aj 4 0,c8 5 4 103])
 (.seq (.ax [aj 6 0,⟨some 17179869185,.gg (.c (.func 104 [])) [(.t 6)],none,[17179869185,6]⟩])
 (.seq (.ax [aj 7 0,c8 8 7 105,eW 3,⟨none,.st 5 (.t 3) (.t 8),none,[3,8]⟩])
 (.seq (.seq (.ax [aj 9 0,DN 10 9])
 (.cond (.t 10)
 (.seq (.draw [eX 11 3,aj 12 0,c8 13 12 55,sR 14 11 13 106 15,⟨none,.st 5 (.t 2) (.t 14),none,[2,14]⟩] [(0,[2,3])] [2,3] [11,12,13,14])
 (.ret))
 (.skip)))
 (.seq (.ax [eX 15 3,⟨none,.st 5 (.t 2) (.t 15),none,[2,15]⟩])
 (.ret))))))
theorem aaN:wv 55 16 Tryz.f55 Rf [.hG 2 5]:=⟨Tryz.func55,by kernel_rfl⟩
def Rh:bL:=
 .seq (.ax [eW 2])
 (.seq (.ax [aj 4 0,c8 5 4 103])
 (.seq (.ax [aj 6 0,⟨some 17179869185,.gg (.c (.func 104 [])) [(.t 6)],none,[17179869185,6]⟩])
 (.seq (.ax [aj 7 0,c8 8 7 107,eW 3,⟨none,.st 5 (.t 3) (.t 8),none,[3,8]⟩])
 (.seq (.seq (.ax [aj 9 0,⟨some 10,.call 50 [(.t 9),(.c (.str [59]))],none,[9]⟩])
 (.cond (.t 10)
 (.seq (.draw [eX 11 3,aj 12 0,c8 13 12 56,sR 14 11 13 106 35,⟨none,.st 5 (.t 2) (.t 14),none,[2,14]⟩] [(0,[2,3])] [2,3] [11,12,13,14])
 (.ret))
 (.skip)))
 (.seq (.ax [eX 15 3,⟨none,.st 5 (.t 2) (.t 15),none,[2,15]⟩])
 (.ret))))))
theorem aaO:wv 56 16 Tryz.f56 Rh [.hG 2 5]:=⟨Tryz.func56,by kernel_rfl⟩
def Ri:bL:=
 .ax [aj 6 1,aj 7 2,⟨some 8,.build [(.int .i64 0),(.int .i64 0)] [(0,1,(.t 6)),(1,1,(.t 7))],none,[6,7]⟩,⟨some 9,.build [(.int .i64 0),(.int .i64 0)] [(0,2,(.t 8))],none,[8]⟩,⟨some 10,.si 54 (.t 9),none,[9]⟩,⟨none,.cB (.t 10),none,[10]⟩]
theorem aaP:dJ 57 11 Tryz.f57 Ri []:=⟨Tryz.func57,by kernel_rfl⟩
def RC:bL:=
 .seq (.ax [hF 4])
 (.seq (.draw [aj 5 0,f_ 6 5 99 7,aj 7 6,iO 8 0 7,uD 9 8 7 99 6,il 10 7 9,aj 11 10,fC 12 0 11,rI 13 12 11,uE 14 13 11,j8 15 14 11,fC 16 0 11,rI 17 16 11,uF 18 17 11,j8 19 18 11,⟨some 20,.fy 4 (.t 15) (.t 19),(some (11,true)),[15,19,11]⟩,⟨some 21,.hI 3 (.t 20),(some (11,true)),[20,11]⟩,j8 22 21 11,fC 23 1 11,⟨some 24,.bin (.str .eql) (.t 22) (.t 23),(some (11,true)),[22,23,11]⟩,hW 25 11 24,aj 4 25] [(10,[22]),(14,[22]),(17,[22])] [1,4] [5,6,7,8,9,10,11,12,13,14,15,16,17,18,19,20,21,22,23,24,25,4])
 (.ret))
theorem aa3:dJ 97 26 Tryz.f97 RC [.t 4]:=⟨Tryz.func97,by kernel_rfl⟩
def RD:bL:=
 .seq (.ax [eW 1])
 (.seq (.ax [cF 3 0,f_ 4 3 52 5,rH 2,⟨none,.st 4 (.t 2) (.t 4),none,[2,4]⟩])
 (.seq (.ax [pE 5 2,cF 6 5,iB 7 2,cF 8 7,rG 9 6 8 1,⟨none,.st 5 (.t 1) (.t 9),none,[1,9]⟩])
 (.ret)))
theorem aa4:dJ 98 10 Tryz.f98 RD [.hG 1 5]:=⟨Tryz.func98,by kernel_rfl⟩
def RE:bL:=
 .seq (.ax [hF 4])
 (.seq (.draw [aj 5 0,dN 6 5,fk 7 6,cF 8 7,aj 9 0,dN 10 9,jD 11 10,cF 12 11,iN 13 12,kM 14 8 13,aj 15 14,fC 16 0 15,rI 17 16 15,uE 18 17 15,j8 19 18 15,fC 20 0 15,rI 21 20 15,uF 22 21 15,j8 23 22 15,⟨some 24,.fy 4 (.t 19) (.t 23),(some (15,true)),[19,23,15]⟩,uE 25 24 15,j8 26 25 15,fC 27 1 15,⟨some 28,.bin (.int .eql) (.t 26) (.t 27),(some (15,true)),[26,27,15]⟩,hW 29 15 28,aj 4 29] [] [] [])
 (.ret))
theorem aa5:dJ 99 30 Tryz.f99 RE [.t 4]:=⟨Tryz.func99,by kernel_rfl⟩
def Qa:bL:=
 .seq (.ax [aj 4 1,iN 5 4,jV 6 5 64])
 (.cond (.t 6)
 (.ax [aj 7 0,aj 8 0,c8 9 8 49,wA 10 7 9 57 270])
 (.skip))
theorem ZW:dJ 100 11 Tryz.f100 Qa []:=⟨Tryz.func100,by kernel_rfl⟩
def Qb:bL:=
 .seq (.ax [eW 2])
 (.seq (.ax [aj 4 0,c8 5 4 103])
 (.seq (.ax [aj 6 0,⟨some 17179869185,.gg (.c (.func 104 [])) [(.t 6)],none,[17179869185,6]⟩])
 (.seq (.ax [aj 7 0,c8 8 7 146,eW 3,⟨none,.st 5 (.t 3) (.t 8),none,[3,8]⟩])
 (.seq (.seq (.ax [aj 9 0,⟨some 10,.call 50 [(.t 9),(.c (.str [45,62]))],none,[9]⟩])
 (.cond (.t 10)
 (.seq (.draw [eX 11 3,aj 12 0,c8 13 12 101,sR 14 11 13 106 4,⟨none,.st 5 (.t 2) (.t 14),none,[2,14]⟩] [(0,[2,3])] [2,3] [11,12,13,14])
 (.ret))
 (.skip)))
 (.seq (.ax [eX 15 3,⟨none,.st 5 (.t 2) (.t 15),none,[2,15]⟩])
 (.ret))))))
theorem ZX:wv 101 16 Tryz.f101 Qb [.hG 2 5]:=⟨Tryz.func101,by kernel_rfl⟩
def Qc:bL:=
 .seq (.ax [eW 4])
 (.seq (.ax [aj 6 0,c8 7 6 55,eW 5,⟨none,.st 5 (.t 5) (.t 7),none,[5,7]⟩])
 (.seq (.ax [aj 8 0,⟨some 9,.call 25 [(.t 8),(.c (.str [45,62]))],none,[8]⟩])
 (.seq (.draw [aj 10 1,eX 11 5,aj 12 0,c8 13 12 56,HL 14 11 13,sQ 15 10 14 27,⟨none,.st 5 (.t 4) (.t 15),none,[4,15]⟩] [(1,[3,6])] [3] [10,11,12,13,14,15])
 (.ret))))
theorem ZY:dJ 102 16 Tryz.f102 Qc [.hG 4 5]:=⟨Tryz.func102,by kernel_rfl⟩
def Qd:bL:=
 .seq (.seq (.ax [aj 2 0,dN 3 2,pE 4 3,cF 5 4,sO 6 5 1000])
 (.cond (.t 6)
 (.ax [aj 7 0,aj 8 0,c8 9 8 49,wA 10 7 9 57 271])
 (.skip)))
 (.ax [aj 11 0,dN 12 11,pE 13 12,cF 14 13,hV 15 14 1,dN 16 11,pE 17 16,⟨none,.st 1 (.t 17) (.t 15),none,[17,15]⟩])
theorem ZZ:dJ 103 18 Tryz.f103 Qd []:=⟨Tryz.func103,by kernel_rfl⟩
def IQ:bL:=
 .ax [aj 2 0,dN 3 2,pE 4 3,cF 5 4,DI 6 5 1,dN 7 2,pE 8 7,⟨none,.st 1 (.t 8) (.t 6),none,[8,6]⟩]
theorem Qe:dJ 104 9 Tryz.f104 IQ []:=⟨Tryz.func104,by kernel_rfl⟩
def Qf:bL:=
 .seq (.ax [eW 2])
 (.seq (.seq (.ax [aj 5 0,f_ 6 5 99 4,qE 7 6])
 (.cond (.t 7)
 (.seq (.ax [aj 8 0,c8 9 8 147,⟨none,.st 5 (.t 2) (.t 9),none,[2,9]⟩])
 (.ret))
 (.skip)))
 (.seq (.ax [aj 10 0,f_ 11 10 52 4,rH 3,⟨none,.st 4 (.t 3) (.t 11),none,[3,11]⟩])
 (.seq (.ax [pE 12 3,cF 13 12,iB 14 3,cF 15 14,rG 16 13 15 16,eW 4,⟨none,.st 5 (.t 4) (.t 16),none,[4,16]⟩])
 (.seq (.seq (.ax [aj 17 0,⟨some 18,.kx 5 1 [(.str [])] [(0,1,(.c (.str [95]))),(1,1,(.c (.str [45]))),(2,1,(.c (.str [40]))),(3,1,(.c (.str [116,114,117,101]))),(4,1,(.c (.str [102,97,108,115,101])))],none,[]⟩,iY 19 17 18 148,aj 20 19,iO 21 0 20,uD 22 21 20 99 3,il 23 20 22,aj 24 23,iO 25 0 24,uD 26 25 24 99 1,il 27 24 26,aj 28 27,iO 29 0 28,uD 30 29 28 99 4,il 31 28 30])
 (.cond (.t 31)
 (.ax [aj 32 0,c8 33 32 147,k6 34 33,qC 35 4,⟨none,.st 1 (.t 35) (.t 34),none,[35,34]⟩])
 (.skip)))
 (.seq (.ax [eX 36 4,⟨none,.st 5 (.t 2) (.t 36),none,[2,36]⟩])
 (.ret))))))
theorem Z0:dJ 105 37 Tryz.f105 Qf [.hG 2 5]:=⟨Tryz.func105,by kernel_rfl⟩
def Qg:bL:=
 .seq (.ax [oZ 4 1,oZ 5 2,eW 6])
 (.seq (.ax [aj 7 0,iB 8 4,cF 9 8,eX 10 4,eX 11 5,HL 12 10 11,O9 13 7 9 12,⟨none,.st 5 (.t 6) (.t 13),none,[6,13]⟩])
 (.ret))
theorem Z1:dJ 106 14 Tryz.f106 Qg [.hG 6 5]:=⟨Tryz.func106,by kernel_rfl⟩
def Qh:bL:=
 .seq (.ax [eW 2])
 (.seq (.ax [aj 7 0,c8 8 7 49,aj 3 8])
 (.seq (.block 0 (.seq (.ax [aj 10 0,⟨some 11,.call 50 [(.t 10),(.c (.str [108,101,116]))],none,[10]⟩,aj 9 11])
 (.cond (.t 9)
 (.seq (.ax [aj 12 0,aj 13 3,iY 14 12 13 149,⟨none,.st 5 (.t 2) (.t 14),none,[2,14]⟩])
 (.ret))
 (.seq (.ax [aj 16 0,⟨some 17,.call 50 [(.t 16),(.c (.str [102,117,110]))],none,[16]⟩,aj 15 17])
 (.cond (.t 15)
 (.seq (.ax [aj 18 0,aj 19 3,iY 20 18 19 102,⟨none,.st 5 (.t 2) (.t 20),none,[2,20]⟩])
 (.ret))
 (.seq (.ax [aj 22 0,⟨some 23,.call 50 [(.t 22),(.c (.str [105,102]))],none,[22]⟩,aj 21 23])
 (.cond (.t 21)
 (.seq (.ax [aj 24 0,c8 25 24 56,eW 4,⟨none,.st 5 (.t 4) (.t 25),none,[4,25]⟩])
 (.seq (.ax [aj 26 0,⟨some 27,.call 25 [(.t 26),(.c (.str [116,104,101,110]))],none,[26]⟩])
 (.seq (.ax [aj 28 0,c8 29 28 107,eW 5,⟨none,.st 5 (.t 5) (.t 29),none,[5,29]⟩])
 (.seq (.ax [aj 30 0,⟨some 31,.call 25 [(.t 30),(.c (.str [101,108,115,101]))],none,[30]⟩])
 (.seq (.draw [aj 32 3,eX 33 4,eX 34 5,aj 35 0,c8 36 35 107,O8 37 33 34 36,sQ 38 32 37 31,⟨none,.st 5 (.t 2) (.t 38),none,[2,38]⟩] [(1,[4,7]),(2,[4,7])] [4] [32,33,34,35,36,37,38])
 (.ret))))))
 (.seq (.ax [aj 40 0,⟨some 41,.call 50 [(.t 40),(.c (.str [109,97,116,99,104]))],none,[40]⟩,aj 39 41])
 (.cond (.t 39)
 (.seq (.ax [aj 42 0,aj 43 3,wA 44 42 43 150 32,⟨none,.st 5 (.t 2) (.t 44),none,[2,44]⟩])
 (.ret))
 (.seq (.ax [aj 46 0,⟨some 47,.call 50 [(.t 46),(.c (.str [116,114,121]))],none,[46]⟩,aj 45 47])
 (.cond (.t 45)
 (.seq (.ax [aj 48 0,aj 49 3,wA 50 48 49 150 33,⟨none,.st 5 (.t 2) (.t 50),none,[2,50]⟩])
 (.ret))
 (.skip))))))))))))
 (.seq (.ax [aj 51 0,c8 52 51 151,eW 6,⟨none,.st 5 (.t 6) (.t 52),none,[6,52]⟩])
 (.seq (.seq (.ax [aj 53 0,⟨some 54,.call 50 [(.t 53),(.c (.str [58,61]))],none,[53]⟩])
 (.cond (.t 54)
 (.seq (.draw [eX 55 6,aj 56 0,c8 57 56 107,sR 58 55 57 106 37,⟨none,.st 5 (.t 2) (.t 58),none,[2,58]⟩] [(0,[2,3])] [2,3] [55,56,57,58])
 (.ret))
 (.skip)))
 (.seq (.ax [eX 59 6,⟨none,.st 5 (.t 2) (.t 59),none,[2,59]⟩])
 (.ret))))))
theorem Z2:dJ 107 60 Tryz.f107 Qh [.hG 2 5]:=⟨Tryz.func107,by kernel_rfl⟩
def Qs:bL:=
 .seq (.ax [eW 2])
 (.seq (.ax [aj 4 0,c8 5 4 184,eW 3,⟨none,.st 5 (.t 3) (.t 5),none,[3,5]⟩])
 (.seq (.seq (.ax [aj 6 0,⟨some 7,.call 50 [(.t 6),(.c (.str [42]))],none,[6]⟩])
 (.cond (.t 7)
 (.seq (.draw [eX 8 3,aj 9 0,c8 10 9 146,sR 11 8 10 106 3,⟨none,.st 5 (.t 2) (.t 11),none,[2,11]⟩] [(0,[2,3])] [2,3] [8,9,10,11])
 (.ret))
 (.skip)))
 (.seq (.ax [eX 12 3,⟨none,.st 5 (.t 2) (.t 12),none,[2,12]⟩])
 (.ret))))
theorem Z':dJ 146 13 Tryz.f146 Qs [.hG 2 5]:=⟨Tryz.func146,by kernel_rfl⟩
def Qt:bL:=
 .seq (.ax [eW 2])
 (.seq (.ax [aj 5 0,c8 6 5 49,aj 3 6])
 (.seq (.block 0 (.seq (.ax [aj 8 0,⟨some 9,.call 50 [(.t 8),(.c (.str [95]))],none,[8]⟩,aj 7 9])
 (.cond (.t 7)
 (.seq (.ax [aj 10 3,AS 11 10 10,⟨none,.st 5 (.t 2) (.t 11),none,[2,11]⟩])
 (.ret))
 (.seq (.ax [aj 13 0,f_ 14 13 99 3,aj 12 14])
 (.cond (.t 12)
 (.seq (.ax [aj 15 0,f_ 16 15 52 3,qD 17 16,aj 18 3,rG 19 17 18 11,⟨none,.st 5 (.t 2) (.t 19),none,[2,19]⟩])
 (.ret))
 (.seq (.ax [aj 21 0,f_ 22 21 99 4,aj 20 22])
 (.cond (.t 20)
 (.seq (.ax [aj 23 0,f_ 24 23 52 4,qD 25 24,aj 26 3,rG 27 25 26 16,⟨none,.st 5 (.t 2) (.t 27),none,[2,27]⟩])
 (.ret))
 (.seq (.ax [aj 29 0,f_ 30 29 99 1,aj 28 30])
 (.cond (.t 28)
 (.seq (.ax [aj 31 0,f_ 32 31 52 1,⟨some 33,.qS 1 (.t 32),none,[32]⟩,aj 34 3,HM 35 33 34 12,⟨none,.st 5 (.t 2) (.t 35),none,[2,35]⟩])
 (.ret))
 (.seq (.ax [aj 37 0,⟨some 38,.call 50 [(.t 37),(.c (.str [45]))],none,[37]⟩,aj 36 38])
 (.cond (.t 36)
 (.seq (.ax [aj 39 0,f_ 40 39 52 1,⟨some 41,.qS 1 (.t 40),none,[40]⟩,c8 42 41 185,aj 43 3,HM 44 42 43 12,⟨none,.st 5 (.t 2) (.t 44),none,[2,44]⟩])
 (.ret))
 (.seq (.ax [aj 46 0,⟨some 47,.call 50 [(.t 46),(.c (.str [116,114,117,101]))],none,[46]⟩,aj 45 47])
 (.cond (.t 45)
 (.seq (.ax [aj 48 3,O' 49 48 14 1,⟨none,.st 5 (.t 2) (.t 49),none,[2,49]⟩])
 (.ret))
 (.seq (.ax [aj 51 0,⟨some 52,.call 50 [(.t 51),(.c (.str [102,97,108,115,101]))],none,[51]⟩,aj 50 52])
 (.cond (.t 50)
 (.seq (.ax [aj 53 3,AS 54 53 14,⟨none,.st 5 (.t 2) (.t 54),none,[2,54]⟩])
 (.ret))
 (.skip))))))))))))))))
 (.seq (.ax [aj 55 0,DL 56 55 25])
 (.seq (.seq (.ax [aj 57 0,yP 58 57 50])
 (.cond (.t 58)
 (.seq (.ax [aj 59 3,AS 60 59 13,⟨none,.st 5 (.t 2) (.t 60),none,[2,60]⟩])
 (.ret))
 (.skip)))
 (.seq (.ax [aj 61 0,c8 62 61 55,eW 4,⟨none,.st 5 (.t 4) (.t 62),none,[4,62]⟩])
 (.seq (.ax [aj 63 0,yP 64 63 25])
 (.seq (.ax [eX 65 4,⟨none,.st 5 (.t 2) (.t 65),none,[2,65]⟩])
 (.ret))))))))
theorem Z_:dJ 147 66 Tryz.f147 Qt [.hG 2 5]:=⟨Tryz.func147,by kernel_rfl⟩
def Qv:bL:=
 .seq (.ax [kM 10 9 8])
 (.seq (.cond (.t 10)
 (.skip)
 (.exit 0))
 (.seq (.block 1 (.seq (.ax [uG 11 7 9,cF 12 11,aj 6 12])
 (.seq (.ax [aj 13 0,aj 14 6,iY 15 13 14 97])
 (.cond (.t 15)
 (.seq (.ax [AV 4])
 (.ret))
 (.skip)))))
 (.ax [hV 16 9 1,aj 9 16])))
def Qu:bL:=
 .seq (.ax [hF 4])
 (.seq (.seq (.ax [aj 7 1,iN 8 7,ht 9 0])
 (.block 0 (.loop Qv)))
 (.seq (.ax [hF 4])
 (.ret)))
theorem aaa:dJ 148 17 Tryz.f148 Qu [.t 4]:=⟨Tryz.func148,by kernel_rfl⟩
def Qw:bL:=
 .seq (.ax [eW 4])
 (.seq (.seq (.ax [aj 8 0,⟨some 9,.call 50 [(.t 8),(.c (.str [114,101,99]))],none,[8]⟩])
 (.cond (.t 9)
 (.seq (.ax [aj 10 0,c8 11 10 54,aj 5 11])
 (.seq (.ax [aj 12 0,⟨some 13,.call 25 [(.t 12),(.c (.str [105,110]))],none,[12]⟩])
 (.seq (.ax [aj 14 1,aj 15 5,aj 16 0,c8 17 16 56,k6 18 17,sN 19 15 18,sQ 20 14 19 30,⟨none,.st 5 (.t 4) (.t 20),none,[4,20]⟩])
 (.ret))))
 (.skip)))
 (.seq (.ax [aj 21 0,c8 22 21 55,eW 6,⟨none,.st 5 (.t 6) (.t 22),none,[6,22]⟩])
 (.seq (.ax [aj 23 0,DM 24 23])
 (.seq (.ax [aj 25 0,c8 26 25 56,eW 7,⟨none,.st 5 (.t 7) (.t 26),none,[7,26]⟩])
 (.seq (.ax [aj 27 0,⟨some 28,.call 25 [(.t 27),(.c (.str [105,110]))],none,[27]⟩])
 (.seq (.draw [aj 29 1,eX 30 6,eX 31 7,aj 32 0,c8 33 32 56,O8 34 30 31 33,sQ 35 29 34 29,⟨none,.st 5 (.t 4) (.t 35),none,[4,35]⟩] [(1,[4,7]),(2,[4,7])] [4] [29,30,31,32,33,34,35])
 (.ret)))))))
theorem aab:dJ 149 36 Tryz.f149 Qw [.hG 4 5]:=⟨Tryz.func149,by kernel_rfl⟩
def Qz:bL:=
 .seq (.ax [eW 6])
 (.seq (.ax [aj 8 0,c8 9 8 56,k6 10 9,aj 7 10])
 (.seq (.ax [aj 11 0,⟨some 12,.call 25 [(.t 11),(.c (.str [119,105,116,104]))],none,[11]⟩])
 (.seq (.ax [aj 13 1,aj 14 2,aj 15 7,aj 16 0,c8 17 16 186,sN 18 15 17,O9 19 13 14 18,⟨none,.st 5 (.t 6) (.t 19),none,[6,19]⟩])
 (.ret))))
theorem aad:dJ 150 20 Tryz.f150 Qz [.hG 6 5]:=⟨Tryz.func150,by kernel_rfl⟩
def QA:bL:=
 .seq (.ax [eW 2])
 (.seq (.ax [aj 4 0,c8 5 4 187,eW 3,⟨none,.st 5 (.t 3) (.t 5),none,[3,5]⟩])
 (.seq (.seq (.ax [aj 6 0,DN 7 6])
 (.cond (.t 7)
 (.seq (.draw [eX 8 3,aj 9 0,c8 10 9 151,sR 11 8 10 106 26,⟨none,.st 5 (.t 2) (.t 11),none,[2,11]⟩] [(0,[2,3])] [2,3] [8,9,10,11])
 (.ret))
 (.skip)))
 (.seq (.ax [eX 12 3,⟨none,.st 5 (.t 2) (.t 12),none,[2,12]⟩])
 (.ret))))
theorem aae:dJ 151 13 Tryz.f151 QA [.hG 2 5]:=⟨Tryz.func151,by kernel_rfl⟩
def QH:bL:=
 .seq (.seq (.ax [aj 6 0,f_ 7 6 99 3])
 (.cond (.t 7)
 (.skip)
 (.exit 0)))
 (.block 1 (.draw [aj 8 0,iB 11 3,cF 12 11,eX 13 3,k6 14 13,f_ 9 8 52 3,qD 10 9,HN 15 10 12 14 2,⟨none,.st 5 (.t 3) (.t 15),none,[3,15]⟩] [(2,[5,8]),(3,[5,8])] [] []))
def QG:bL:=
 .seq (.ax [eW 2])
 (.seq (.ax [aj 4 0,c8 5 4 206,eW 3,⟨none,.st 5 (.t 3) (.t 5),none,[3,5]⟩])
 (.seq (.block 0 (.loop QH))
 (.seq (.ax [eX 16 3,⟨none,.st 5 (.t 2) (.t 16),none,[2,16]⟩])
 (.ret))))
theorem aai:dJ 184 17 Tryz.f184 QG [.hG 2 5]:=⟨Tryz.func184,by kernel_rfl⟩
def QI:bL:=
 .seq (.ax [ht 2 0])
 (.seq (.seq (.ax [aj 3 0,⟨some 4,.bin (.int .eql) (.t 3) (.c (.int .i64 (-1073741824))),none,[3]⟩])
 (.cond (.t 4)
 (.seq (.ax [aj 5 0,aj 2 5])
 (.ret))
 (.skip)))
 (.seq (.ax [aj 6 0,⟨some 7,.un .neg (.t 6),none,[6]⟩,aj 2 7])
 (.ret)))
theorem aaj:dJ 185 8 Tryz.f185 QI [.t 2]:=⟨Tryz.func185,by kernel_rfl⟩
def QK:bL:=
 .block 1 (.seq (.ax [aj 7 0,c8 8 7 55,eW 4,⟨none,.st 5 (.t 4) (.t 8),none,[4,8]⟩])
 (.seq (.ax [aj 9 0,⟨some 10,.call 25 [(.t 9),(.c (.str [45,62]))],none,[9]⟩])
 (.seq (.draw [aj 11 3,eX 12 4,aj 13 0,c8 14 13 56,sR 15 12 14 106 45,k6 16 15,sN 17 11 16,aj 3 17] [(1,[3,4])] [3,4] [11,12,13,14,15,16,17,3])
 (.seq (.ax [aj 18 0,HQ 19 18,qE 20 19])
 (.cond (.t 20)
 (.seq (.ax [aj 21 3,aj 2 21])
 (.ret))
 (.skip))))))
def QJ:bL:=
 .seq (.ax [oc 2])
 (.seq (.ax [aj 5 0,HQ 6 5])
 (.seq (.ax [oc 3])
 (.block 0 (.loop QK))))
theorem aak:dJ 186 22 Tryz.f186 QJ [.t 2]:=⟨Tryz.func186,by kernel_rfl⟩
def QL:bL:=
 .seq (.ax [eW 2])
 (.seq (.ax [aj 6 0,f_ 7 6 207 1,eW 3,⟨none,.st 5 (.t 3) (.t 7),none,[3,7]⟩])
 (.seq (.seq (.ax [aj 9 0,f_ 10 9 208 0,aj 8 10,pC 11 8,pD 12 8,aj 4 11,aj 5 12])
 (.seq (.ax [aj 13 5])
 (.cond (.t 13)
 (.seq (.draw [aj 14 4,eX 15 3,aj 16 0,f_ 17 16 207 1,DK 18 14 15 17 209,⟨none,.st 5 (.t 2) (.t 18),none,[2,18]⟩] [(1,[3,4])] [3,4] [14,15,16,17,18])
 (.ret))
 (.skip))))
 (.seq (.ax [eX 19 3,⟨none,.st 5 (.t 2) (.t 19),none,[2,19]⟩])
 (.ret))))
theorem aal:dJ 187 20 Tryz.f187 QL [.hG 2 5]:=⟨Tryz.func187,by kernel_rfl⟩
def QM:bL:=
 .seq (.seq (.ax [aj 28 0,DN 29 28])
 (.cond (.t 29)
 (.skip)
 (.exit 1)))
 (.block 2 (.seq (.ax [aj 30 0,aj 31 4,iY 32 30 31 100])
 (.ax [aj 33 4,aj 34 0,c8 35 34 101,k6 36 35,sN 37 33 36,aj 4 37])))
def c206:bL:=
 .seq (.ax [eW 2])
 (.seq (.ax [aj 5 0,c8 6 5 49,aj 3 6])
 (.seq (.block 0 (.seq (.ax [aj 8 0,f_ 9 8 99 5,aj 7 9])
 (.cond (.t 7)
 (.seq (.ax [aj 10 0,f_ 11 10 52 5,qD 12 11,aj 13 3,rG 14 12 13 1,⟨none,.st 5 (.t 2) (.t 14),none,[2,14]⟩])
 (.ret))
 (.seq (.ax [aj 16 0,f_ 17 16 99 3,aj 15 17])
 (.cond (.t 15)
 (.seq (.ax [aj 18 0,f_ 19 18 52 3,qD 20 19,aj 21 3,rG 22 20 21 2,⟨none,.st 5 (.t 2) (.t 22),none,[2,22]⟩])
 (.ret))
 (.skip))))))
 (.seq (.ax [aj 23 0,DL 24 23 25])
 (.seq (.ax [aj 25 0,c8 26 25 101,k6 27 26,aj 4 27])
 (.seq (.block 1 (.loop QM))
 (.seq (.ax [aj 38 0,yP 39 38 25])
 (.seq (.seq (.ax [aj 40 4,iN 41 40,jV 42 41 1])
 (.cond (.t 42)
 (.seq (.ax [aj 43 4,⟨some 44,.fy 5 (.t 43) (.c (.int .i64 0)),none,[43]⟩,eX 45 44,⟨none,.st 5 (.t 2) (.t 45),none,[2,45]⟩])
 (.ret))
 (.skip)))
 (.seq (.ax [aj 46 0,f_ 47 46 52 3,qD 48 47,aj 49 3,aj 50 4,HN 51 48 49 50 2,⟨none,.st 5 (.t 2) (.t 51),none,[2,51]⟩])
 (.ret)))))))))
theorem aam:dJ 206 52 Tryz.f206 c206 [.hG 2 5]:=⟨Tryz.func206,by kernel_rfl⟩
def IU:bL:=
 .block 1 (.seq (.ax [aj 17 0,aj 18 1,iY 19 17 18 208,aj 16 19,pC 20 16,pD 21 16,aj 6 20,aj 7 21])
 (.seq (.seq (.ax [aj 22 7,qE 23 22])
 (.cond (.t 23)
 (.exit 0)
 (.skip)))
 (.draw [aj 24 6,eX 25 5,aj 26 0,aj 27 1,hV 28 27 1,iY 29 26 28 207,DK 30 24 25 29 209,⟨none,.st 5 (.t 5) (.t 30),none,[5,30]⟩] [(1,[5,6])] [5,6] [24,25,26,27,28,29,30])))
def Ea:bL:=
 .seq (.ax [eW 4])
 (.seq (.seq (.ax [aj 8 1,sP 9 8 2])
 (.cond (.t 9)
 (.seq (.ax [aj 10 0,c8 11 10 223,⟨none,.st 5 (.t 4) (.t 11),none,[4,11]⟩])
 (.ret))
 (.skip)))
 (.seq (.ax [aj 12 0,aj 13 1,hV 14 13 1,iY 15 12 14 207,eW 5,⟨none,.st 5 (.t 5) (.t 15),none,[5,15]⟩])
 (.seq (.skip)
 (.seq (.block 0 (.loop IU))
 (.seq (.ax [eX 31 5,⟨none,.st 5 (.t 4) (.t 31),none,[4,31]⟩])
 (.ret))))))
theorem IT:dJ 207 32 Tryz.f207 Ea [.hG 4 5]:=⟨Tryz.func207,by kernel_rfl⟩
def QN:bL:=
 .seq (.ax [kM 13 12 11])
 (.seq (.cond (.t 13)
 (.skip)
 (.exit 0))
 (.seq (.block 1 (.seq (.ax [uG 14 10 12,cF 15 14,aj 7 15])
 (.seq (.ax [aj 16 0,aj 17 7,iY 18 16 17 50])
 (.cond (.t 18)
 (.seq (.ax [aj 19 7,aj 4 19,AV 5])
 (.ret))
 (.skip)))))
 (.ax [hV 20 12 1,aj 12 20])))
def c208:bL:=
 .seq (.ax [⟨some 4,.fz (.c (.str [])),none,[]⟩,hF 5])
 (.seq (.seq (.ax [⟨some 8,.call 224 [],none,[]⟩,aj 9 1,⟨some 10,.look .int .cn false (.t 8) (.t 9),none,[8,9]⟩,iN 11 10,ht 12 0])
 (.block 0 (.loop QN)))
 (.seq (.ax [⟨some 4,.fz (.c (.str [])),none,[]⟩,hF 5])
 (.ret)))
theorem aan:dJ 208 21 Tryz.f208 c208 [.t 4,.t 5]:=⟨Tryz.func208,by kernel_rfl⟩
def QO:bL:=
 .seq (.ax [oZ 4 1,oZ 5 2,eW 6])
 (.seq (.ax [eX 8 4,eX 9 5,sR 10 8 9 106 38,eW 7,⟨none,.st 5 (.t 7) (.t 10),none,[7,10]⟩])
 (.seq (.ax [aj 11 0,pE 12 7,⟨none,.st 1 (.t 12) (.t 11),none,[12,11]⟩])
 (.seq (.ax [eX 13 7,⟨none,.st 5 (.t 6) (.t 13),none,[6,13]⟩])
 (.ret))))
theorem aao:dJ 209 14 Tryz.f209 QO [.hG 6 5]:=⟨Tryz.func209,by kernel_rfl⟩
def QP:bL:=
 .seq (.ax [eW 2])
 (.seq (.ax [aj 4 0,c8 5 4 103])
 (.seq (.ax [aj 6 0,⟨some 17179869185,.gg (.c (.func 104 [])) [(.t 6)],none,[17179869185,6]⟩])
 (.seq (.ax [aj 7 0,c8 8 7 49,aj 3 8])
 (.seq (.block 0 (.seq (.ax [aj 10 0,⟨some 11,.call 50 [(.t 10),(.c (.str [45]))],none,[10]⟩,aj 9 11])
 (.cond (.t 9)
 (.seq (.ax [aj 12 3,aj 13 0,c8 14 13 223,k6 15 14,sQ 16 12 15 39,⟨none,.st 5 (.t 2) (.t 16),none,[2,16]⟩])
 (.ret))
 (.seq (.ax [aj 18 0,⟨some 19,.call 50 [(.t 18),(.c (.str [33]))],none,[18]⟩,aj 17 19])
 (.cond (.t 17)
 (.seq (.ax [aj 20 3,aj 21 0,c8 22 21 223,k6 23 22,sQ 24 20 23 36,⟨none,.st 5 (.t 2) (.t 24),none,[2,24]⟩])
 (.ret))
 (.skip))))))
 (.seq (.ax [aj 25 0,c8 26 25 229,⟨none,.st 5 (.t 2) (.t 26),none,[2,26]⟩])
 (.ret))))))
theorem aap:wv 223 27 Tryz.f223 QP [.hG 2 5]:=⟨Tryz.func223,by kernel_rfl⟩
def QQ:bL:=
 .seq (.ax [⟨some 0,.fz (.c .l0),none,[]⟩])
 (.seq (.ax [⟨some 1,.zW none,none,[]⟩,⟨some 2,.kx 3 1 [(.str [])] [(0,1,(.c (.str [61]))),(1,1,(.c (.str [60]))),(2,1,(.c (.str [60,61])))],none,[]⟩,⟨none,.qy .int (.t 1) (.c (.int .i64 0)) (.t 2),none,[1,2]⟩,⟨some 3,.kx 2 1 [(.str [])] [(0,1,(.c (.str [43]))),(1,1,(.c (.str [45])))],none,[]⟩,⟨none,.qy .int (.t 1) (.c (.int .i64 1)) (.t 3),none,[1,3]⟩,⟨some 4,.kx 3 1 [(.str [])] [(0,1,(.c (.str [42]))),(1,1,(.c (.str [47]))),(2,1,(.c (.str [109,111,100])))],none,[]⟩,⟨none,.qy .int (.t 1) (.c (.int .i64 2)) (.t 4),none,[1,4]⟩,aj 5 1,aj 0 5])
 (.ret))
theorem aaq:dJ 224 6 Tryz.f224 QQ [.t 0]:=⟨Tryz.func224,by kernel_rfl⟩
def QS:bL:=
 .seq (.seq (.ax [aj 33 0,c8 34 33 232])
 (.cond (.t 34)
 (.skip)
 (.exit 1)))
 (.block 2 (.draw [eX 35 5,aj 36 0,c8 37 36 231,sR 38 35 37 106 28,⟨none,.st 5 (.t 5) (.t 38),none,[5,38]⟩] [(0,[2,3])] [2,3] [35,36,37,38]))
def QR:bL:=
 .seq (.ax [eW 2])
 (.seq (.ax [aj 6 0,c8 7 6 49,aj 3 7])
 (.seq (.block 0 (.seq (.ax [aj 9 0,⟨some 10,.call 50 [(.t 9),(.c (.str [114,97,105,115,101]))],none,[9]⟩,aj 8 10])
 (.cond (.t 8)
 (.seq (.ax [aj 11 3,aj 12 0,c8 13 12 231,k6 14 13,sQ 15 11 14 34,⟨none,.st 5 (.t 2) (.t 15),none,[2,15]⟩])
 (.ret))
 (.seq (.ax [aj 17 0,f_ 18 17 99 4,aj 16 18])
 (.cond (.t 16)
 (.seq (.ax [aj 19 0,f_ 20 19 52 4,qD 21 20,aj 22 3,rG 23 21 22 25,eW 4,⟨none,.st 5 (.t 4) (.t 23),none,[4,23]⟩])
 (.seq (.seq (.ax [aj 24 0,c8 25 24 232])
 (.cond (.t 25)
 (.ax [aj 26 0,c8 27 26 231,k6 28 27,qC 29 4,⟨none,.st 1 (.t 29) (.t 28),none,[29,28]⟩])
 (.skip)))
 (.seq (.ax [eX 30 4,⟨none,.st 5 (.t 2) (.t 30),none,[2,30]⟩])
 (.ret))))
 (.skip))))))
 (.seq (.ax [aj 31 0,c8 32 31 231,eW 5,⟨none,.st 5 (.t 5) (.t 32),none,[5,32]⟩])
 (.seq (.block 1 (.loop QS))
 (.seq (.ax [eX 39 5,⟨none,.st 5 (.t 2) (.t 39),none,[2,39]⟩])
 (.ret))))))
theorem aar:dJ 229 40 Tryz.f229 QR [.hG 2 5]:=⟨Tryz.func229,by kernel_rfl⟩
def QU:bL:=
 .seq (.ax [eW 2])
 (.seq (.ax [aj 6 0,c8 7 6 49,aj 3 7])
 (.seq (.block 0 (.seq (.ax [aj 9 0,f_ 10 9 99 1,aj 8 10])
 (.cond (.t 8)
 (.seq (.ax [aj 11 0,f_ 12 11 52 1,⟨some 13,.qS 1 (.t 12),none,[12]⟩,aj 14 3,HM 15 13 14 20,⟨none,.st 5 (.t 2) (.t 15),none,[2,15]⟩])
 (.ret))
 (.seq (.ax [aj 17 0,f_ 18 17 99 2,aj 16 18])
 (.cond (.t 16)
 (.seq (.ax [aj 19 0,f_ 20 19 52 2,qD 21 20,aj 22 3,rG 23 21 22 21,⟨none,.st 5 (.t 2) (.t 23),none,[2,23]⟩])
 (.ret))
 (.seq (.ax [aj 25 0,f_ 26 25 99 3,aj 24 26])
 (.cond (.t 24)
 (.seq (.ax [aj 27 0,f_ 28 27 52 3,qD 29 28,aj 30 3,rG 31 29 30 24,⟨none,.st 5 (.t 2) (.t 31),none,[2,31]⟩])
 (.ret))
 (.seq (.ax [aj 33 0,f_ 34 33 99 4,aj 32 34])
 (.cond (.t 32)
 (.seq (.ax [aj 35 0,f_ 36 35 52 4,qD 37 36,aj 38 3,rG 39 37 38 25,⟨none,.st 5 (.t 2) (.t 39),none,[2,39]⟩])
 (.ret))
 (.seq (.ax [aj 41 0,⟨some 42,.call 50 [(.t 41),(.c (.str [116,114,117,101]))],none,[41]⟩,aj 40 42])
 (.cond (.t 40)
 (.seq (.ax [aj 43 3,O' 44 43 23 1,⟨none,.st 5 (.t 2) (.t 44),none,[2,44]⟩])
 (.ret))
 (.seq (.ax [aj 46 0,⟨some 47,.call 50 [(.t 46),(.c (.str [102,97,108,115,101]))],none,[46]⟩,aj 45 47])
 (.cond (.t 45)
 (.seq (.ax [aj 48 3,AS 49 48 23,⟨none,.st 5 (.t 2) (.t 49),none,[2,49]⟩])
 (.ret))
 (.seq (.ax [aj 51 0,⟨some 52,.call 50 [(.t 51),(.c (.str [98,101,103,105,110]))],none,[51]⟩,aj 50 52])
 (.cond (.t 50)
 (.seq (.ax [aj 53 0,c8 54 53 56,eW 4,⟨none,.st 5 (.t 4) (.t 54),none,[4,54]⟩])
 (.seq (.ax [aj 55 0,⟨some 56,.call 25 [(.t 55),(.c (.str [101,110,100]))],none,[55]⟩])
 (.seq (.ax [eX 57 4,⟨none,.st 5 (.t 2) (.t 57),none,[2,57]⟩])
 (.ret))))
 (.skip))))))))))))))))
 (.seq (.ax [aj 58 0,DL 59 58 25])
 (.seq (.seq (.ax [aj 60 0,yP 61 60 50])
 (.cond (.t 61)
 (.seq (.ax [aj 62 3,AS 63 62 22,⟨none,.st 5 (.t 2) (.t 63),none,[2,63]⟩])
 (.ret))
 (.skip)))
 (.seq (.ax [aj 64 0,c8 65 64 56,eW 5,⟨none,.st 5 (.t 5) (.t 65),none,[5,65]⟩])
 (.seq (.ax [aj 66 0,yP 67 66 25])
 (.seq (.ax [eX 68 5,⟨none,.st 5 (.t 2) (.t 68),none,[2,68]⟩])
 (.ret))))))))
theorem aau:dJ 231 69 Tryz.f231 QU [.hG 2 5]:=⟨Tryz.func231,by kernel_rfl⟩
def QV:bL:=
 .seq (.ax [hF 2])
 (.seq (.ax [aj 3 0,⟨some 4,.kx 4 1 [(.str [])] [(0,1,(.c (.str [40]))),(1,1,(.c (.str [98,101,103,105,110]))),(2,1,(.c (.str [116,114,117,101]))),(3,1,(.c (.str [102,97,108,115,101])))],none,[]⟩,iY 5 3 4 148,aj 6 5,iO 7 0 6,uD 8 7 6 99 1,il 9 6 8,aj 10 9,iO 11 0 10,uD 12 11 10 99 2,il 13 10 12,aj 14 13,iO 15 0 14,uD 16 15 14 99 3,il 17 14 16,aj 18 17,iO 19 0 18,uD 20 19 18 99 4,il 21 18 20,aj 2 21])
 (.ret))
theorem aav:dJ 232 22 Tryz.f232 QV [.t 2]:=⟨Tryz.func232,by kernel_rfl⟩
theorem Xo:∀W:List aK,hj W=(W.map aK.enc).flatten
 | []=>rfl
 | w::W=>by rw [hj,Xo W];rfl
theorem Ox {W:List aK} {i:Nat} (aG:i<W.length):((hj W).drop (i * 4)).take 4=(W[i]).enc:=by rw [Xo];exact JN (W.map aK.enc) i _ (fun u hu=>by obtain ⟨w,_,rfl⟩:=List.mem_map.1 hu;rfl) (by simp [aG])
structure dY (W:List aK) (ao aO:Nat) (h:ae) (d:Nat) (ws:List aK) (bB:V) (i:Nat):Prop where
 at_:Has h aO [bB,.int .i64 i,.int .i64 ao,.int .i64 d]
 e6:fD h 4 bB W.length (hj W)
 ap:¬bB.bd (aE aO)
 le:i<=W.length
 eq:ws=W.drop i
 uQ:W.length<=1000000
 wX:d<=1000
 jy:∀w ∈ W,w.text.length<=100000
 num:∀w ∈ W,w.kind=1->-1073741824<=w.num/\w.num<=1073741823
section
variable {W:List aK} {ao aO:Nat} {h ab:ae} {d:Nat} {ws:List aK} {bB:V} {i:Nat}
abbrev cb (aO:Nat):aN->Prop:=fun b=>b=aE aO
theorem dY.ext (c:dY W ao aO h d ws bB i) (e:Ext h ab):dY W ao aO ab d ws bB i:=⟨c.at_.ext e,c.e6.mod (e.mod (fun _=>False)) (fun _ _ q=>q),c.ap,c.le,c.eq,c.uQ,c.wX,c.jy,c.num⟩
theorem dY.put (c:dY W ao aO h d ws bB i) {hb hH:Nat} {bw:List aK} (aG:hb<=W.length) (he:bw=W.drop hb) (aY:hH<=1000):dY W ao aO (h.set (aE aO) (.bz [bB,.int .i64 hb,.int .i64 ao,.int .i64 hH] 0 false)) hH bw bB hb:=
 ⟨c.at_.put _,c.e6.mod ((Mod.refl (cb aO) h).set (fun _=>rfl) _) (fun b ah q=>c.ap (by rw [<-show b=aE aO from q];exact ah)),c.ap,aG,he,c.uQ,aY,c.jy,c.num⟩
theorem dY.box {H:ae} {hH:Nat} {bw:List aK} {hb:Nat} (c:dY W ao aO h d ws bB i) (fl:dY W ao aO H hH bw bB hb) {n:Nat} (aL:h.next<=n) (k:cz):dY W ao aO (H.set (aE n) k) hH bw bB hb:=
 ⟨fl.at_.set (by have:=c.at_.lt;omega) k,fl.e6.mod ((Mod.refl (fun b=>b=aE n) H).set (fun _=>rfl) k) (fun b ah q=>dh aL (by rw [<-show b=aE n from q];exact c.e6.cA ah)),c.ap,fl.le,fl.eq,c.uQ,fl.wX,c.jy,c.num⟩
theorem dY.len (c:dY W ao aO h d ws bB i):ju bB=some (.int .i64 W.length):=c.e6.len
theorem dY.word (c:dY W ao aO h d ws bB i) {j:Nat} (bU:j<W.length):∃b o,kU 4 bB (.int .i64 j)=some (.ptr b o)/\gW (h.get b) o=some (.int .i64 W[j].kind)/\gW (h.get b) (o+1)=some (.int .i64 W[j].num)/\gW (h.get b) (o+2)=some (.int .i64 W[j].pos)/\gW (h.get b) (o+3)=some (.str W[j].text)/\
 pk 4 (h.get b) o=some (.agg W[j].enc):=by
 obtain ⟨b,off,an,av⟩:=c.e6.fy (k:=.i64) bU;have aD:(hj W).length=W.length * 4:=Oy W;have cell:∀k,k<4->gW (h.get b) (off+j * 4+k)=(W[j].enc)[k]? :=fun k ar=>av.cell (Ox bU) (by omega) ar;refine ⟨b,off+j * 4,an,cell 0 (by omega),cell 1 (by omega),cell 2 (by omega),cell 3 (by omega),?_⟩;have:=av.iH (i:=j * 4) (n:=4) (by omega);rw [this,Ox bU]
theorem dY.here {w:aK} {r:List aK} (c:dY W ao aO h d (w::r) bB i):i<W.length/\r=W.drop (i+1)/\∃b o,kU 4 bB (.int .i64 i)=some (.ptr b o)/\gW (h.get b) o=some (.int .i64 w.kind)/\gW (h.get b) (o+1)=some (.int .i64 w.num)/\gW (h.get b) (o+2)=some (.int .i64 w.pos)/\gW (h.get b) (o+3)=some (.str w.text)/\
 pk 4 (h.get b) o=some (.agg w.enc):=by
 have aG:i<W.length:=by
  rcases ark i W.length with q | q
  . exact q
  . have:=c.eq;rw [ara q] at this;cases this
 have e:=c.eq;rw [aq0 aG] at e;obtain ⟨aM,bh⟩:=List.cons.inj e;obtain ⟨b,o,q⟩:=c.word aG;rw [<-aM] at q;exact ⟨aG,bh,b,o,q⟩
theorem dY.done (c:dY W ao aO h d [] bB i):i=W.length:=by have e:=c.eq;have:=congrArg List.length e;simp only [aqB,aqU] at this;have:=c.le;omega
end
def cg (e:Int × Nat):V:=.iface 54 (.agg [.int .i64 e.1,.int .i64 (e.2:Nat)])
def iq (W:List aK) (ao:Nat) (e:Int × Nat):Prop:=(e.1=270\/e.1=271)/\∃i,e.2=c2 ao (W.drop i)
def s4 {α:Type} (W:List aK) (ao aO:Nat) (aV:ae) (res:cP α) (x:V) (ab:ae):Prop:=∃e,res=.error e/\x=cg e/\Mod (cb aO) aV ab/\∃l a b c,Has ab aO [l,.int .i64 a,.int .i64 b,.int .i64 c]/\iq W ao e
section
variable {W:List aK} {ao aO:Nat} {h ab:ae} {d:Nat} {ws:List aK} {bB:V} {i:Nat}
theorem qn (C:dY W ao aO h d ws bB i):gm Tryz.prog 49 [.ptr (aE aO) 0] h (.int .i64 (c2 ao ws)) h:=by
 refine n2 (aaH.z rfl (dw ?_));unfold c49;cases ws with
 | nil=>
   have aG:=C.done;have f0:((i:Int) < (W.length:Int))=False:=aqx (by omega);simp only [C.at_.g,C.len,f0,↓ag,ak,simprocAttr];rfl
 | cons w r=>
   obtain ⟨aG,_,b,o,an,av,aH,bP,cE,dG⟩:=C.here;have f0:((i:Int) < (W.length:Int))=True:=aqO (by omega);simp only [C.at_.g,C.len,f0,an,bP,↓ag,ak,simprocAttr];rfl
theorem jJ (C:dY W ao aO h d ws bB i) (k:Int):gm Tryz.prog 99 [.ptr (aE aO) 0,.int .i64 k] h (.bool (eG k ws)) h:=by
 refine n2 (aa5.z rfl (dw ?_));unfold RE;cases ws with
 | nil=>
   have aG:=C.done;have f0:((i:Int) < (W.length:Int))=False:=aqx (by omega);simp only [C.at_.g,C.len,f0,↓ag,ak,simprocAttr];rfl
 | cons w r=>
   obtain ⟨aG,_,b,o,an,av,aH,bP,cE,dG⟩:=C.here;have f0:((i:Int) < (W.length:Int))=True:=aqO (by omega);simp only [C.at_.g,C.len,f0,an,av,arI,↓ag,ak,simprocAttr];rfl
theorem Wx (C:dY W ao aO h d ws bB i) (s:List UInt8):gm Tryz.prog 97 [.ptr (aE aO) 0,.str s] h (.bool (cl s ws)) h:=by
 refine n2 (aa3.z rfl (dw ?_));unfold RC;simp only [↓ag,ak,simprocAttr];refine eo (jJ C 7) ?_;cases ws with
 | nil=>
   have lV:eG 7 []=false:=rfl;have lU:eG 6 []=false:=rfl;simp only [lV,↓ag,ak,simprocAttr];refine eo (jJ C 6) ?_;simp only [lU,↓ag,ak,simprocAttr];rfl
 | cons w r=>
   obtain ⟨aG,_,b,o,an,av,aH,bP,cE,dG⟩:=C.here;by_cases lV:w.kind=7
   . have e':eG 7 (w::r)=true:=by simp [eG,lV]
     have es:cl s (w::r)=decide (w.text=s):=by simp [cl,lV]
     simp only [e',↓ag,ak,simprocAttr];simp only [C.at_.g,C.len,an,cE,es,↓ag,ak,simprocAttr]
   . have e':eG 7 (w::r)=false:=by simp [eG,lV]
     simp only [e',↓ag,ak,simprocAttr];refine eo (jJ C 6) ?_;by_cases lU:w.kind=6
     . have gE:eG 6 (w::r)=true:=by simp [eG,lU]
       have es:cl s (w::r)=decide (w.text=s):=by simp [cl,lU]
       simp only [gE,↓ag,ak,simprocAttr];simp only [C.at_.g,C.len,an,cE,es,↓ag,ak,simprocAttr]
     . have gE:eG 6 (w::r)=false:=by simp [eG,lU]
       have es:cl s (w::r)=false:=by simp [cl,lU,lV]
       simp only [gE,↓ag,ak,simprocAttr];simp only [es]
theorem gQ (C:dY W ao aO h d ws bB i) (s:List UInt8):e9 Tryz.prog 50 [.ptr (aE aO) 0,.str s] h fun x ab=>x=.bool (cl s ws)/\Mod (cb aO) h ab/\∃hb,dY W ao aO ab d (if cl s ws then ws.tail else ws) bB hb:=by
 refine aaI.z rfl (dw ?_);unfold Q_;simp only [↓ag,ak,simprocAttr];refine eo (Wx C s) ?_;cases az:cl s ws with
 | false=>
   simp only [↓ag,ak,simprocAttr];exact ⟨Mod.refl _ _,i,C⟩
 | true=>
   cases ws with
   | nil=>cases az
   | cons w r=>
     obtain ⟨aG,JF,_⟩:=C.here;have ah:=C.uQ;have jA:=rA aG (by omega);simp only [C.at_.g,jA,↓ag,ak,simprocAttr];exact ⟨(Mod.refl (cb aO) h).set (fun _=>rfl) _,i+1,C.put (hb:=i+1) (hH:=d) aG JF C.wX⟩
theorem dY.pl (C:dY W ao aO h d ws bB i) {k:Int} (ar:k=270\/k=271):iq W ao (k,c2 ao ws):=⟨ar,i,by rw [C.eq]⟩
theorem Be (C:dY W ao aO h d ws bB i) (e:Int) (a:Nat) (ai:iq W ao (e,a)) {α:Type}:jB Tryz.prog 57 [.ptr (aE aO) 0,.int .i64 e,.int .i64 (a:Nat)] h (fun _ _=>False) (s4 (α:=α) W ao aO h (.error (e,a))):=by refine aaP.x rfl (dw ?_);unfold Ri;simp only [↓ag,ak,simprocAttr,Un,W3,GB,FR,Er];exact ⟨(e,a),rfl,rfl,Mod.refl _ _,_,_,_,_,C.at_,ai⟩
theorem ke (C:dY W ao aO h d ws bB i) (s:List UInt8):jB Tryz.prog 25 [.ptr (aE aO) 0,.str s] h (fun x ab=>∃bw,hQ ao s ws=.ok bw/\Mod (cb aO) h ab/\∃hb,dY W ao aO ab d bw bB hb) (s4 W ao aO h (hQ ao s ws)):=by
 refine aay.x rfl (dw ?_);unfold QY;simp only [↓ag,ak,simprocAttr];refine cT (gQ C s) ?_;rintro x U ⟨rfl,m1,i1,cO⟩;cases az:cl s ws with
 | true=>
   rw [az,aqw rfl] at cO;simp only [Sn,↓ag,ak,simprocAttr];exact ⟨ws.tail,by simp [hQ,az],m1,i1,cO⟩
 | false=>
   rw [az,aqr arw] at cO;simp only [↓ag,ak,simprocAttr];refine eo (qn cO) ?_;simp only [↓ag,ak,simprocAttr];refine ch (Be (α:=List aK) cO 270 (c2 ao ws) (cO.pl (.inl rfl))) (fun _ _ q=>q.elim) ?_;rintro x ad ⟨e,he,rfl,m2,bk⟩;cases he;simp only [cg,GB,FR,Er];exact ⟨(270,c2 ao ws),by simp [hQ,az],rfl,m1.trans m2,bk⟩
theorem mb (C:dY W ao aO h d ws bB i) (k:Int):jB Tryz.prog 52 [.ptr (aE aO) 0,.int .i64 k] h (fun x ab=>∃q,hr ao k ws=.ok q/\x=.agg q.1.enc/\(q.1 ∈ W/\q.1.kind=k)/\Mod (cb aO) h ab/\∃hb,dY W ao aO ab d q.2 bB hb) (s4 W ao aO h (hr ao k ws)):=by
 refine aaK.x rfl (dw ?_);unfold Rb;obtain ⟨aV,tU,ef,Hw⟩:=gd h [.int .i64 0,.int .i64 0,.int .i64 0,.str []];have uz:=C.ext ef;have dK:aO≠h.next:=by have:=C.at_.lt;omega
 simp only [tU,↓ag,ak,simprocAttr];refine eo (jJ uz k) ?_;cases ar:eG k ws with
 | false=>
   simp only [↓ag,ak,simprocAttr];refine eo (qn uz) ?_;simp only [↓ag,ak,simprocAttr];refine ch (Be (α:=aK × List aK) uz 270 (c2 ao ws) (uz.pl (.inl rfl))) (fun _ _ q=>q.elim) ?_;rintro x ad ⟨e,he,rfl,m2,bk⟩;cases he;simp only [cg,GB,FR,Er,↓ag,ak,simprocAttr];refine ⟨(270,c2 ao ws),?_,rfl,(ef.mod _).trans m2,bk⟩;cases ws with
   | nil=>rfl
   | cons w r=>simp only [eG,are] at ar;simp [hr,ar,c2]
 | true=>
   cases ws with
   | nil=>cases ar
   | cons w r=>
     obtain ⟨aG,JF,_⟩:=uz.here;have EC:w=W[i]:=by have e:=uz.eq;rw [aq0 aG] at e;exact (List.cons.inj e).1
     have ah:=C.uQ;have jA:=rA aG (by omega);have bn:IntKind.i64.wrap (((i+1:Nat):Int)-1)=(i:Nat):=by rw [wrap_i64 (by omega) (by omega)];omega
     have cO:=uz.put (hb:=i+1) (hH:=d) aG JF C.wX;have bA:=Hw.set dK.symm (.bz [bB,.int .i64 (i+1:Nat),.int .i64 ao,.int .i64 d] 0 false);obtain ⟨b,o,an,av,aH,bP,cE,dG⟩:=cO.word aG;simp only [uz.at_.g,jA,↓ag,ak,simprocAttr];generalize lM:aV.set (aE aO) (.bz [bB,.int .i64 (i+1:Nat),.int .i64 ao,.int .i64 d] 0 false)=H at cO bA av aH bP cE dG ⊢;simp only [cO.at_.g,bA.g,bn,an,dG,aK.enc,↓ag,ak,simprocAttr];have g':=bA.put [.int .i64 W[i].kind,.int .i64 W[i].num,.int .i64 W[i].pos,.str W[i].text];simp only [g'.g,bx,↓ag,ak,simprocAttr];refine ⟨(w,r),?_,by rw [EC],⟨by rw [EC];exact aq1 aG,by simpa only [eG,aqy] using ar⟩,?_,i+1,C.box (lM ▸ cO) (aqh _) _⟩
     . simp only [eG,aqy] at ar;simp [hr,ar]
     . rw [<-lM];exact (((ef.mod (cb aO)).set (b:=aE aO) (fun _=>rfl) _)).set (fun o=>absurd o (dh (aqh _))) _
theorem Eu (C:dY W ao aO h d ws bB i):jB Tryz.prog 103 [.ptr (aE aO) 0] h (fun x ab=>d<1000/\Mod (cb aO) h ab/\dY W ao aO ab (d+1) ws bB i) (fun x ab=>1000<=d/\s4 (α:=aR) W ao aO h (.error (271,c2 ao ws)) x ab):=by
 refine ZZ.x rfl (dw ?_);unfold Qd;by_cases aY:d<1000
 . have f0:(1000<=(d:Int))=False:=aqx (by omega);have wd:IntKind.i64.wrap ((d:Int)+1)=((d+1:Nat):Int):=by rw [wrap_i64 (by omega) (by omega)];rfl
   simp only [C.at_.g,f0,wd,bx,↓ag,ak,simprocAttr];exact ⟨aY,(Mod.refl (cb aO) h).set (fun _=>rfl) _,C.put (hb:=i) (hH:=d+1) C.le C.eq aY⟩
 . have f0:(1000<=(d:Int))=True:=aqO (by omega);simp only [C.at_.g,f0,↓ag,ak,simprocAttr];refine eo (qn C) ?_;simp only [↓ag,ak,simprocAttr];refine ch (Be (α:=aR) C 271 (c2 ao ws) (C.pl (.inr rfl))) (fun _ _ q=>q.elim) ?_;rintro x ad ⟨e,he,rfl,m2,bk⟩;cases he;simp only [cg,bx,↓ag,ak,simprocAttr];exact ⟨by omega,(271,c2 ao ws),rfl,rfl,m2,bk⟩
theorem tI {u:Option V} (C:dY W ao aO h (d+1) ws bB i):oY Tryz.prog 104 [.ptr (aE aO) 0] u h fun eI ab=>eI=u/\Mod (cb aO) h ab/\dY W ao aO ab d ws bB i:=by
 refine Qe.d rfl (dw ?_);unfold IQ;have aY:=C.wX;have wd:IntKind.i64.wrap (((d+1:Nat):Int)-1)=(d:Int):=by rw [wrap_i64 (by omega) (by omega)];omega
 simp only [C.at_.g,wd,↓ag,ak,simprocAttr];exact ⟨(Mod.refl (cb aO) h).set (fun _=>rfl) _,C.put (hb:=i) (hH:=d) C.le C.eq (by omega)⟩
theorem tJ {u:Option V} {l:V} {a b c:Int} (C:Has h aO [l,.int .i64 a,.int .i64 b,.int .i64 c]):oY Tryz.prog 104 [.ptr (aE aO) 0] u h fun eI ab=>eI=u/\Mod (cb aO) h ab/\∃l a b c,Has ab aO [l,.int .i64 a,.int .i64 b,.int .i64 c]:=by refine Qe.d rfl (dw ?_);unfold IQ;simp only [C.g,↓ag,ak,simprocAttr];exact ⟨(Mod.refl (cb aO) h).set (fun _=>rfl) _,_,_,_,_,C.put _⟩
theorem SD (C:dY W ao aO h d ws bB i) {l:List aR} {cI:V} (aD:ju cI=some (.int .i64 l.length)):jB Tryz.prog 100 [.ptr (aE aO) 0,cI] h (fun x ab=>pU ao l ws=.ok ()/\ab=h) (s4 W ao aO h (pU ao l ws)):=by
 refine ZW.x rfl (dw ?_);unfold Qa;by_cases la:l.length=64
 . have f0:((l.length:Int)=64)=True:=aqO (by omega);simp only [aD,f0,↓ag,ak,simprocAttr];refine eo (qn C) ?_;simp only [↓ag,ak,simprocAttr];refine ch (Be (α:=Unit) C 270 (c2 ao ws) (C.pl (.inl rfl))) (fun _ _ q=>q.elim) ?_;rintro x ad ⟨e,he,rfl,m2,bk⟩;cases he;simp only [cg,bx,↓ag,ak,simprocAttr];exact ⟨(270,c2 ao ws),by simp [pU,la],rfl,m2,bk⟩
 . have f0:((l.length:Int)=64)=False:=aqx (by omega);simp only [aD,f0,bx,↓ag,ak,simprocAttr];simp [pU,la]
theorem ajR (n:Int) (aV:-1073741824<=n) (U:n<=1073741823) (h:ae):gm Tryz.prog 185 [.int .i64 n] h (.int .i64 (xX n)) h:=by
 refine n2 (aaj.z rfl (dw ?_));unfold QI xX;by_cases aL:n=-1073741824
 . simp only [aL,↓ag,ak,simprocAttr]
 . have w:IntKind.i64.wrap (0-n)=-n:=by rw [wrap_i64 (by omega) (by omega)];omega
   simp only [aL,w,↓ag,ak,simprocAttr]
end
end
end Go.Proofs.YtahfljfikfkpnaaGreatDoor
