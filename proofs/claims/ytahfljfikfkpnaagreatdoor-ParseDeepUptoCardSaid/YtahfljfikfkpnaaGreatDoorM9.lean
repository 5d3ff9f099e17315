/- The chapter's functions, walked by the abstract machine: plain lemmas, no condition. Printed by a program from longer texts: names made short. -/
import Derived.Test.YtahfljfikfkpnaaGreatDoorM7
import Derived.Test.YtahfljfikfkpnaaGreatDoorM8
import Derived.Shelf.Unicode.Decode
import Derived.Shelf.Unicode.DecodeSlow
import Derived.Shelf.Unicode.DecodeAny
import Derived.Shelf.Strconv.Atoi
import Derived.Shelf.Pu.ParseUintPublic10
import Derived.Lib.LaidU8T
import Derived.Test.YtahfljfikfkpnaaGreatDoorM5
set_option linter.unusedSectionVars false
set_option linter.unusedSimpArgs false
set_option linter.unusedVariables false
set_option maxHeartbeats 64000000
noncomputable section
namespace Go.Proofs.YtahfljfikfkpnaaGreatDoor
section
open Go ba
theorem aa8:Extern.findNext Tryz.f127=none:=by kernel_rfl
theorem aa7:(Extern.find Tryz.f127)=some Extern.BytealgIndexByte.indexByte:=by kernel_rfl
theorem aef (s:List UInt8) (c:Int) (h:ah):e5 Tryz.prog 127 [.str s,.int .u8 c] h (.int .i64 (Lib.indexByte s c.toNat.toUInt8)) h:=
 aeh (by decide) Tryz.func127 (by kernel_rfl) (by kernel_rfl) aa8 aa7 s c h
theorem aee (s:List UInt8) (c:Int) (h:ah):e5 Tryz.prog 77 [.str s,.int .u8 c] h (.int .i64 (Lib.indexByte s c.toNat.toUInt8)) h:=by refine je (YC.z rfl (cm ?_));unfold Ob;simp only [↓aa,ab,simprocAttr];refine bQ (aef _ _ _) ?_;simp only [↓aa,ab,simprocAttr]
theorem QK (s:List UInt8) (c:Int) (h:ah):e5 Tryz.prog 33 [.str s,.int .u8 c] h (.int .i64 (Lib.indexByte s c.toNat.toUInt8)) h:=by refine je (X5.z rfl (cm ?_));unfold NM;simp only [↓aa,ab,simprocAttr];refine bQ (aee _ _ _) ?_;simp only [↓aa,ab,simprocAttr]
end
section
open Go Go.Shelf
def Tryz.agt:Go.Shelf.Ren:=⟨fun | 197=>76 | 260=>126 | n=>n,fun | 9=>9 | 21=>21 | 3=>3 | 4=>4 | 5=>5 | 105=>94 | 119=>145 | 0=>0 | 46=>131 | 139=>148 | 138=>147 | n=>n,fun | 3=>0 | 4=>1 | n=>n⟩
theorem Tryz.ags:Go.Proofs.Lays.n197 Tryz.prog Tryz.agt:={
 mixed:=by kernel_rfl,
 f197:=Tryz.func76.trans (congrArg some (by kernel_rfl)),
 f260:=Tryz.func126.trans (congrArg some (by kernel_rfl)),
 t0:=Tryz.underlying0,
 a0:=Tryz.isAgg0,
 z0:=Tryz.sizeOf0,
 v0:=Tryz.zeroValue0,
 t3:=Tryz.underlying3,
 a3:=Tryz.isAgg3,
 z3:=Tryz.sizeOf3,
 v3:=Tryz.zeroValue3,
 t4:=Tryz.underlying4,
 a4:=Tryz.isAgg4,
 z4:=Tryz.sizeOf4,
 v4:=Tryz.zeroValue4,
 t5:=Tryz.underlying5,
 a5:=Tryz.isAgg5,
 z5:=Tryz.sizeOf5,
 v5:=Tryz.zeroValue5,
 t9:=Tryz.underlying9,
 a9:=Tryz.isAgg9,
 z9:=Tryz.sizeOf9,
 v9:=Tryz.zeroValue9,
 t21:=Tryz.underlying21,
 a21:=Tryz.isAgg21,
 z21:=Tryz.sizeOf21,
 v21:=Tryz.zeroValue21,
 t46:=Tryz.underlying131,
 a46:=Tryz.isAgg131,
 z46:=Tryz.sizeOf131,
 v46:=Tryz.zeroValue131,
 t105:=Tryz.underlying94,
 a105:=Tryz.isAgg94,
 z105:=Tryz.sizeOf94,
 v105:=Tryz.zeroValue94,
 t119:=Tryz.underlying145,
 a119:=Tryz.isAgg145,
 z119:=Tryz.sizeOf145,
 t138:=Tryz.underlying147,
 a138:=Tryz.isAgg147,
 z138:=Tryz.sizeOf147,
 v138:=Tryz.zeroValue147,
 t139:=Tryz.underlying148,
 a139:=Tryz.isAgg148,
 z139:=Tryz.sizeOf148,
 v139:=Tryz.zeroValue148,
 g3:=by kernel_rfl,
 g4:=by kernel_rfl}
def Tryz.agr:Go.Shelf.Ren:=⟨fun | 172=>162 | 244=>197 | 245=>161 | 247=>214 | 279=>193 | 280=>194 | 281=>195 | 282=>196 | 287=>160 | 316=>212 | 171=>93 | 205=>213 | 321=>191 | 322=>192 | 243=>142 | 246=>181 | 283=>200 | 284=>201 | 285=>202 | 286=>203 | 129=>219 | 317=>218 | 318=>220 | 319=>221 | 320=>222 | 337=>227 | 338=>228 | n=>n,fun | 9=>9 | 3=>3 | 75=>126 | 76=>138 | 4=>4 | 5=>5 | 167=>167 | 37=>26 | 0=>0 | 85=>188 | 2=>2 | 168=>169 | 53=>124 | 175=>127 | 46=>131 | 210=>186 | 127=>166 | 145=>198 | 143=>196 | 21=>21 | 171=>174 | 173=>177 | 212=>191 | 51=>153 | 20=>20 | 213=>192 | 232=>201 | 233=>202 | 80=>140 | n=>n,fun | 15=>3 | 16=>4 | 17=>5 | 18=>6 | 19=>7 | n=>n⟩
theorem Tryz.agq:Go.Proofs.Lays.n172 Tryz.prog Tryz.agr:={
 mixed:=by kernel_rfl,
 f129:=Tryz.func219.trans (congrArg some (by kernel_rfl)),
 f171:=Tryz.func93.trans (congrArg some (by kernel_rfl)),
 f172:=Tryz.func162.trans (congrArg some (by kernel_rfl)),
 f205:=Tryz.func213.trans (congrArg some (by kernel_rfl)),
 f243:=Tryz.func142.trans (congrArg some (by kernel_rfl)),
 f244:=Tryz.func197.trans (congrArg some (by kernel_rfl)),
 f245:=Tryz.func161.trans (congrArg some (by kernel_rfl)),
 f246:=Tryz.func181.trans (congrArg some (by kernel_rfl)),
 f247:=Tryz.func214.trans (congrArg some (by kernel_rfl)),
 f279:=Tryz.func193.trans (congrArg some (by kernel_rfl)),
 f280:=Tryz.func194.trans (congrArg some (by kernel_rfl)),
 f281:=Tryz.func195.trans (congrArg some (by kernel_rfl)),
 f282:=Tryz.func196.trans (congrArg some (by kernel_rfl)),
 f283:=Tryz.func200.trans (congrArg some (by kernel_rfl)),
 f284:=Tryz.func201.trans (congrArg some (by kernel_rfl)),
 f285:=Tryz.func202.trans (congrArg some (by kernel_rfl)),
 f286:=Tryz.func203.trans (congrArg some (by kernel_rfl)),
 f287:=Tryz.func160.trans (congrArg some (by kernel_rfl)),
 f316:=Tryz.func212.trans (congrArg some (by kernel_rfl)),
 f317:=Tryz.func218.trans (congrArg some (by kernel_rfl)),
 f318:=Tryz.func220.trans (congrArg some (by kernel_rfl)),
 f319:=Tryz.func221.trans (congrArg some (by kernel_rfl)),
 f320:=Tryz.func222.trans (congrArg some (by kernel_rfl)),
 f321:=Tryz.func191.trans (congrArg some (by kernel_rfl)),
 f322:=Tryz.func192.trans (congrArg some (by kernel_rfl)),
 f337:=Tryz.func227.trans (congrArg some (by kernel_rfl)),
 f338:=Tryz.func228.trans (congrArg some (by kernel_rfl)),
 t0:=Tryz.underlying0,
 a0:=Tryz.isAgg0,
 z0:=Tryz.sizeOf0,
 v0:=Tryz.zeroValue0,
 t2:=Tryz.underlying2,
 a2:=Tryz.isAgg2,
 z2:=Tryz.sizeOf2,
 v2:=Tryz.zeroValue2,
 t3:=Tryz.underlying3,
 a3:=Tryz.isAgg3,
 z3:=Tryz.sizeOf3,
 v3:=Tryz.zeroValue3,
 t4:=Tryz.underlying4,
 a4:=Tryz.isAgg4,
 z4:=Tryz.sizeOf4,
 v4:=Tryz.zeroValue4,
 t5:=Tryz.underlying5,
 a5:=Tryz.isAgg5,
 z5:=Tryz.sizeOf5,
 v5:=Tryz.zeroValue5,
 t9:=Tryz.underlying9,
 a9:=Tryz.isAgg9,
 z9:=Tryz.sizeOf9,
 v9:=Tryz.zeroValue9,
 t20:=Tryz.underlying20,
 a20:=Tryz.isAgg20,
 z20:=Tryz.sizeOf20,
 v20:=Tryz.zeroValue20,
 t21:=Tryz.underlying21,
 a21:=Tryz.isAgg21,
 z21:=Tryz.sizeOf21,
 v21:=Tryz.zeroValue21,
 t37:=Tryz.underlying26,
 a37:=Tryz.isAgg26,
 z37:=Tryz.sizeOf26,
 v37:=Tryz.zeroValue26,
 t46:=Tryz.underlying131,
 a46:=Tryz.isAgg131,
 z46:=Tryz.sizeOf131,
 v46:=Tryz.zeroValue131,
 t51:=Tryz.underlying153,
 a51:=Tryz.isAgg153,
 z51:=Tryz.sizeOf153,
 v51:=Tryz.zeroValue153,
 t53:=Tryz.underlying124,
 a53:=Tryz.isAgg124,
 z53:=Tryz.sizeOf124,
 v53:=Tryz.zeroValue124,
 t75:=Tryz.underlying126,
 a75:=Tryz.isAgg126,
 z75:=Tryz.sizeOf126,
 v75:=Tryz.zeroValue126,
 t76:=Tryz.underlying138,
 a76:=Tryz.isAgg138,
 z76:=Tryz.sizeOf138,
 v76:=Tryz.zeroValue138,
 t85:=Tryz.underlying188,
 a85:=Tryz.isAgg188,
 z85:=Tryz.sizeOf188,
 v85:=Tryz.zeroValue188,
 t127:=Tryz.underlying166,
 a127:=Tryz.isAgg166,
 z127:=Tryz.sizeOf166,
 v127:=Tryz.zeroValue166,
 t143:=Tryz.underlying196,
 a143:=Tryz.isAgg196,
 z143:=Tryz.sizeOf196,
 v143:=Tryz.zeroValue196,
 t145:=Tryz.underlying198,
 a145:=Tryz.isAgg198,
 z145:=Tryz.sizeOf198,
 v145:=Tryz.zeroValue198,
 t167:=Tryz.underlying167,
 a167:=Tryz.isAgg167,
 z167:=Tryz.sizeOf167,
 v167:=Tryz.zeroValue167,
 t168:=Tryz.underlying169,
 a168:=Tryz.isAgg169,
 z168:=Tryz.sizeOf169,
 v168:=Tryz.zeroValue169,
 t171:=Tryz.underlying174,
 a171:=Tryz.isAgg174,
 z171:=Tryz.sizeOf174,
 v171:=Tryz.zeroValue174,
 t173:=Tryz.underlying177,
 a173:=Tryz.isAgg177,
 z173:=Tryz.sizeOf177,
 v173:=Tryz.zeroValue177,
 t175:=Tryz.underlying127,
 a175:=Tryz.isAgg127,
 z175:=Tryz.sizeOf127,
 v175:=Tryz.zeroValue127,
 t210:=Tryz.underlying186,
 a210:=Tryz.isAgg186,
 z210:=Tryz.sizeOf186,
 v210:=Tryz.zeroValue186,
 t212:=Tryz.underlying191,
 a212:=Tryz.isAgg191,
 z212:=Tryz.sizeOf191,
 v212:=Tryz.zeroValue191,
 t213:=Tryz.underlying192,
 a213:=Tryz.isAgg192,
 z213:=Tryz.sizeOf192,
 t232:=Tryz.underlying201,
 a232:=Tryz.isAgg201,
 z232:=Tryz.sizeOf201,
 v232:=Tryz.zeroValue201,
 t233:=Tryz.underlying202,
 a233:=Tryz.isAgg202,
 z233:=Tryz.sizeOf202,
 v233:=Tryz.zeroValue202,
 g15:=by kernel_rfl,
 g16:=by kernel_rfl,
 g17:=by kernel_rfl,
 g18:=by kernel_rfl,
 g19:=by kernel_rfl}
def Tryz.Jx:Go.Shelf.Ren:=⟨fun | 14=>129 | 16=>160 | 17=>161 | 19=>191 | 20=>192 | 21=>193 | 22=>194 | 23=>195 | 24=>196 | 25=>212 | 27=>93 | 26=>213 | 28=>142 | 29=>181 | 30=>200 | 31=>201 | 32=>202 | 33=>203 | 35=>219 | 34=>218 | 36=>220 | 37=>221 | 38=>222 | 39=>227 | 40=>228 | n=>n,fun | 9=>9 | 3=>3 | 22=>124 | 24=>126 | 25=>127 | 4=>4 | 34=>167 | 5=>5 | 36=>131 | 37=>26 | 0=>0 | 39=>169 | 21=>21 | 44=>186 | 47=>166 | 50=>198 | 48=>196 | 2=>2 | 52=>174 | 55=>177 | 59=>191 | 60=>153 | 20=>20 | 61=>192 | 65=>201 | 66=>202 | 67=>140 | n=>n,fun | 0=>3 | 1=>4 | 2=>5 | 3=>6 | 4=>7 | n=>n⟩
theorem Tryz.QZ:Go.Proofs.LaysPu.n14 Tryz.prog Tryz.Jx:={
 mixed:=by kernel_rfl,
 f14:=Tryz.func129.trans (congrArg some (by kernel_rfl)),
 f16:=Tryz.func160.trans (congrArg some (by kernel_rfl)),
 f17:=Tryz.func161.trans (congrArg some (by kernel_rfl)),
 f19:=Tryz.func191.trans (congrArg some (by kernel_rfl)),
 f20:=Tryz.func192.trans (congrArg some (by kernel_rfl)),
 f21:=Tryz.func193.trans (congrArg some (by kernel_rfl)),
 f22:=Tryz.func194.trans (congrArg some (by kernel_rfl)),
 f23:=Tryz.func195.trans (congrArg some (by kernel_rfl)),
 f24:=Tryz.func196.trans (congrArg some (by kernel_rfl)),
 f25:=Tryz.func212.trans (congrArg some (by kernel_rfl)),
 f26:=Tryz.func213.trans (congrArg some (by kernel_rfl)),
 f27:=Tryz.func93.trans (congrArg some (by kernel_rfl)),
 f28:=Tryz.func142.trans (congrArg some (by kernel_rfl)),
 f29:=Tryz.func181.trans (congrArg some (by kernel_rfl)),
 f30:=Tryz.func200.trans (congrArg some (by kernel_rfl)),
 f31:=Tryz.func201.trans (congrArg some (by kernel_rfl)),
 f32:=Tryz.func202.trans (congrArg some (by kernel_rfl)),
 f33:=Tryz.func203.trans (congrArg some (by kernel_rfl)),
 f34:=Tryz.func218.trans (congrArg some (by kernel_rfl)),
 f35:=Tryz.func219.trans (congrArg some (by kernel_rfl)),
 f36:=Tryz.func220.trans (congrArg some (by kernel_rfl)),
 f37:=Tryz.func221.trans (congrArg some (by kernel_rfl)),
 f38:=Tryz.func222.trans (congrArg some (by kernel_rfl)),
 f39:=Tryz.func227.trans (congrArg some (by kernel_rfl)),
 f40:=Tryz.func228.trans (congrArg some (by kernel_rfl)),
 t0:=Tryz.underlying0,
 a0:=Tryz.isAgg0,
 z0:=Tryz.sizeOf0,
 v0:=Tryz.zeroValue0,
 i0:=by kernel_rfl,
 t2:=Tryz.underlying2,
 a2:=Tryz.isAgg2,
 z2:=Tryz.sizeOf2,
 v2:=Tryz.zeroValue2,
 i2:=by kernel_rfl,
 t3:=Tryz.underlying3,
 a3:=Tryz.isAgg3,
 z3:=Tryz.sizeOf3,
 v3:=Tryz.zeroValue3,
 i3:=by kernel_rfl,
 t4:=Tryz.underlying4,
 a4:=Tryz.isAgg4,
 z4:=Tryz.sizeOf4,
 v4:=Tryz.zeroValue4,
 i4:=by kernel_rfl,
 t5:=Tryz.underlying5,
 a5:=Tryz.isAgg5,
 z5:=Tryz.sizeOf5,
 v5:=Tryz.zeroValue5,
 i5:=by kernel_rfl,
 t9:=Tryz.underlying9,
 a9:=Tryz.isAgg9,
 z9:=Tryz.sizeOf9,
 v9:=Tryz.zeroValue9,
 i9:=by kernel_rfl,
 t20:=Tryz.underlying20,
 a20:=Tryz.isAgg20,
 z20:=Tryz.sizeOf20,
 v20:=Tryz.zeroValue20,
 i20:=by kernel_rfl,
 t21:=Tryz.underlying21,
 a21:=Tryz.isAgg21,
 z21:=Tryz.sizeOf21,
 v21:=Tryz.zeroValue21,
 i21:=by kernel_rfl,
 t22:=Tryz.underlying124,
 a22:=Tryz.isAgg124,
 z22:=Tryz.sizeOf124,
 v22:=Tryz.zeroValue124,
 i22:=by kernel_rfl,
 t24:=Tryz.underlying126,
 a24:=Tryz.isAgg126,
 z24:=Tryz.sizeOf126,
 v24:=Tryz.zeroValue126,
 i24:=by kernel_rfl,
 t25:=Tryz.underlying127,
 a25:=Tryz.isAgg127,
 z25:=Tryz.sizeOf127,
 v25:=Tryz.zeroValue127,
 i25:=by kernel_rfl,
 t34:=Tryz.underlying167,
 a34:=Tryz.isAgg167,
 z34:=Tryz.sizeOf167,
 v34:=Tryz.zeroValue167,
 i34:=by kernel_rfl,
 c34:=by kernel_rfl,
 t36:=Tryz.underlying131,
 a36:=Tryz.isAgg131,
 z36:=Tryz.sizeOf131,
 v36:=Tryz.zeroValue131,
 i36:=by kernel_rfl,
 t37:=Tryz.underlying26,
 a37:=Tryz.isAgg26,
 z37:=Tryz.sizeOf26,
 v37:=Tryz.zeroValue26,
 i37:=by kernel_rfl,
 t39:=Tryz.underlying169,
 a39:=Tryz.isAgg169,
 z39:=Tryz.sizeOf169,
 v39:=Tryz.zeroValue169,
 i39:=by kernel_rfl,
 t44:=Tryz.underlying186,
 a44:=Tryz.isAgg186,
 z44:=Tryz.sizeOf186,
 v44:=Tryz.zeroValue186,
 i44:=by kernel_rfl,
 t47:=Tryz.underlying166,
 a47:=Tryz.isAgg166,
 z47:=Tryz.sizeOf166,
 v47:=Tryz.zeroValue166,
 i47:=by kernel_rfl,
 t48:=Tryz.underlying196,
 a48:=Tryz.isAgg196,
 z48:=Tryz.sizeOf196,
 v48:=Tryz.zeroValue196,
 i48:=by kernel_rfl,
 t50:=Tryz.underlying198,
 a50:=Tryz.isAgg198,
 z50:=Tryz.sizeOf198,
 v50:=Tryz.zeroValue198,
 i50:=by kernel_rfl,
 t52:=Tryz.underlying174,
 a52:=Tryz.isAgg174,
 z52:=Tryz.sizeOf174,
 v52:=Tryz.zeroValue174,
 i52:=by kernel_rfl,
 t55:=Tryz.underlying177,
 a55:=Tryz.isAgg177,
 z55:=Tryz.sizeOf177,
 v55:=Tryz.zeroValue177,
 i55:=by kernel_rfl,
 t59:=Tryz.underlying191,
 a59:=Tryz.isAgg191,
 z59:=Tryz.sizeOf191,
 v59:=Tryz.zeroValue191,
 i59:=by kernel_rfl,
 t60:=Tryz.underlying153,
 a60:=Tryz.isAgg153,
 z60:=Tryz.sizeOf153,
 v60:=Tryz.zeroValue153,
 i60:=by kernel_rfl,
 t61:=Tryz.underlying192,
 a61:=Tryz.isAgg192,
 z61:=Tryz.sizeOf192,
 t65:=Tryz.underlying201,
 a65:=Tryz.isAgg201,
 z65:=Tryz.sizeOf201,
 v65:=Tryz.zeroValue201,
 i65:=by kernel_rfl,
 t66:=Tryz.underlying202,
 a66:=Tryz.isAgg202,
 z66:=Tryz.sizeOf202,
 v66:=Tryz.zeroValue202,
 i66:=by kernel_rfl,
 t67:=Tryz.underlying140,
 a67:=Tryz.isAgg140,
 z67:=Tryz.sizeOf140,
 v67:=Tryz.zeroValue140,
 i67:=by kernel_rfl,
 g0:=by kernel_rfl,
 m0:=by kernel_rfl,
 g1:=by kernel_rfl,
 m1:=by kernel_rfl,
 g2:=by kernel_rfl,
 m2:=by kernel_rfl,
 g3:=by kernel_rfl,
 m3:=by kernel_rfl,
 g4:=by kernel_rfl,
 m4:=by kernel_rfl}
def Tryz.Cm:Go.Shelf.Ren:=⟨fun | 260=>126 | n=>n,fun | 9=>9 | 21=>21 | 3=>3 | 4=>4 | 5=>5 | 119=>145 | 0=>0 | 46=>131 | 139=>148 | 138=>147 | n=>n,fun | 3=>0 | 4=>1 | n=>n⟩
theorem Tryz.agu:Go.Proofs.Lays.n260 Tryz.prog Tryz.Cm:={
 mixed:=by kernel_rfl,
 f260:=Tryz.func126.trans (congrArg some (by kernel_rfl)),
 t0:=Tryz.underlying0,
 a0:=Tryz.isAgg0,
 z0:=Tryz.sizeOf0,
 v0:=Tryz.zeroValue0,
 t3:=Tryz.underlying3,
 a3:=Tryz.isAgg3,
 z3:=Tryz.sizeOf3,
 v3:=Tryz.zeroValue3,
 t4:=Tryz.underlying4,
 a4:=Tryz.isAgg4,
 z4:=Tryz.sizeOf4,
 v4:=Tryz.zeroValue4,
 t5:=Tryz.underlying5,
 a5:=Tryz.isAgg5,
 z5:=Tryz.sizeOf5,
 v5:=Tryz.zeroValue5,
 t9:=Tryz.underlying9,
 a9:=Tryz.isAgg9,
 z9:=Tryz.sizeOf9,
 v9:=Tryz.zeroValue9,
 t21:=Tryz.underlying21,
 a21:=Tryz.isAgg21,
 z21:=Tryz.sizeOf21,
 v21:=Tryz.zeroValue21,
 t46:=Tryz.underlying131,
 a46:=Tryz.isAgg131,
 z46:=Tryz.sizeOf131,
 v46:=Tryz.zeroValue131,
 t119:=Tryz.underlying145,
 a119:=Tryz.isAgg145,
 z119:=Tryz.sizeOf145,
 t138:=Tryz.underlying147,
 a138:=Tryz.isAgg147,
 z138:=Tryz.sizeOf147,
 v138:=Tryz.zeroValue147,
 t139:=Tryz.underlying148,
 a139:=Tryz.isAgg148,
 z139:=Tryz.sizeOf148,
 v139:=Tryz.zeroValue148,
 g3:=by kernel_rfl,
 g4:=by kernel_rfl}
end
section
open Go ba Go.RowKit
section
open Go.Shelf
theorem Z9 (s:ByteArray) (w:World) (eb:Lib.Utf8Tabs 0 1 w):
 Calls Tryz.prog 76 #[.string s] w fun e w'=>e=.returned (.tuple #[.int .i32 (Lib.decodeGo s).1,.int .i64 (Lib.decodeGo s).2])/\Below w.heap.size w w':=Any.utf8_DecodeRuneInString Tryz.ags s w eb
theorem V' (s:ByteArray) (n:Int) (aG:s.size<=18) (h:Lib.atoi s.data.toList=some n) (w:World):
 Calls Tryz.prog 162 #[.string s] w fun e w'=>e=.returned (.tuple #[.int .i64 n,.nilIface])/\Below w.heap.size w w':=(Any.strconv_Atoi Tryz.agq s n aG h w).mono fun e w' q=>⟨q.1,by obtain ⟨t,rfl⟩:=q.2;exact Lib.bytesWorld_below _ _ _⟩
theorem ajm (s:ByteArray) (ac5:s.size<=9223372036854775806) (u:Nat) (h:Lib.parseUintB 64 s.data.toList=.ok u) (w:World):
 Calls Tryz.prog 129 #[.string s,.int .i64 10,.int .i64 64] w fun e w'=>e=.returned (.tuple #[.int .u64 u,.nilIface])/\Below w.heap.size w w':=(Any.strconv_ParseUint_10_at64_ok Tryz.QZ s ac5 u h w).mono fun e w' q=>⟨q.1,by
  rcases q.2 with rfl | rfl
  . exact Below.refl _ _
  . exact Lib.bytesWorld_below _ _ _⟩
theorem ajo (s:ByteArray) (w_:s.size<=281474976710656) (h:Lib.parseUintB 64 s.data.toList=.range) (w:World) (he:yq w 4):
 Calls Tryz.prog 129 #[.string s,.int .i64 10,.int .i64 64] w fun e w'=>(∃p,e=.returned (.tuple #[.int .u64 18446744073709551615,.iface (Tryz.Jx.t 39) p]))/\Below w.heap.size w w':=by
 obtain ⟨aV,ad,ag⟩:=he;refine (Any.strconv_ParseUint_10_at64_range Tryz.QZ s w_ h aV w ad ag).mono fun e w' q=>?_;obtain ⟨N,ar,_,_,bA⟩:=q;exact ⟨⟨_,ar⟩,bA⟩
end
theorem Ci {f:FuncId} (bl:Nat.beq f eA=false) {args:List V} {v:V} {h:ah} (mV:∃fn,Tryz.prog.funcs[f]? =some fn/\fn.body.isSome=true) (H:∀E xs w,Gw w->bH E args xs->Calls Tryz.prog f xs.toArray w fun e w'=>∃x,e=.returned x/\Rel E v x/\Below w.heap.size w w'):e5 Tryz.prog f args h v h:=by refine ⟨fun e=>by subst e;simp at bl,.inl ⟨mV,fun aA E w xs au s=>?_⟩⟩;refine (H E xs w (Lay.hX s.laid s.frame) au).mono fun e w' q=>?_;obtain ⟨x,rfl,bZ,ai⟩:=q;exact ⟨E,x,rfl,fun _ _ q=>q,bZ,s.below ai⟩
theorem Z7 (s:List UInt8) (h:ah):e5 Tryz.prog 76 [.str s] h (.tuple [.int .i32 (Lib.decodeGo ⟨⟨s⟩⟩).1,.int .i64 (Lib.decodeGo ⟨⟨s⟩⟩).2]) h:=by refine Ci (by decide) ⟨_,Tryz.func76,by kernel_rfl⟩ fun E xs w aG au=>?_;obtain ⟨y,en,rfl,an,rfl⟩:=au;simp only [Rel] at an;subst an;refine (Z9 ⟨⟨s⟩⟩ w aG.TI).mono fun e w' q=>?_;obtain ⟨rfl,ai⟩:=q;refine ⟨_,rfl,?_,ai⟩;simp only [Rel];exact ⟨_,rfl,_,_,rfl,rfl,_,_,rfl,rfl,rfl⟩
theorem Zx (s sub:List UInt8) (al:s.length<=100000) (h:ah):e5 Tryz.prog 133 [.str s,.str sub] h (.bool (Lib.contains s sub)) h:=by refine Ci (by decide) ⟨_,Tryz.func133,by kernel_rfl⟩ fun E xs w aG au=>?_;obtain ⟨y,en,rfl,an,z,vZ,rfl,av,rfl⟩:=au;simp only [Rel] at an av;subst an av;obtain ⟨m,hm⟩:=aG.maxLen;refine (Zz ⟨⟨s⟩⟩ ⟨⟨sub⟩⟩ m w (by show s.length<4294967281;omega) hm).mono fun e w' q=>?_;obtain ⟨rfl,rfl⟩:=q;refine ⟨_,rfl,?_,Below.refl _ _⟩;simp only [Rel]
theorem V9 (s:List UInt8) (n:Int) (aG:s.length<=18) (h:Lib.atoi s=some n) (aF:ah):e5 Tryz.prog 162 [.str s] aF (.tuple [.int .i64 n,.nilIface]) aF:=by refine Ci (by decide) ⟨_,Tryz.func162,by kernel_rfl⟩ fun E xs w tD au=>?_;obtain ⟨y,en,rfl,an,rfl⟩:=au;simp only [Rel] at an;subst an;refine (V' ⟨⟨s⟩⟩ n aG h w).mono fun e w' q=>?_;obtain ⟨rfl,ai⟩:=q;refine ⟨_,rfl,?_,ai⟩;simp only [Rel];exact ⟨_,rfl,_,_,rfl,rfl,_,_,rfl,rfl,rfl⟩
theorem ajl (s:List UInt8) (u:Nat) (aG:s.length<=100000) (h:Lib.parseUintB 64 s=.ok u) (aF:ah):e5 Tryz.prog 129 [.str s,.int .i64 10,.int .i64 64] aF (.tuple [.int .u64 u,.nilIface]) aF:=by refine Ci (by decide) ⟨_,Tryz.func129,by kernel_rfl⟩ fun E xs w tD au=>?_;obtain ⟨y,en,rfl,an,z,vZ,rfl,av,t,dE,rfl,aB,rfl⟩:=au;simp only [Rel] at an av aB;subst an av aB;refine (ajm ⟨⟨s⟩⟩ (by show s.length<=9223372036854775806;omega) u h w).mono fun e w' q=>?_;obtain ⟨rfl,ai⟩:=q;refine ⟨_,rfl,?_,ai⟩;simp only [Rel];exact ⟨_,rfl,_,_,rfl,rfl,_,_,rfl,rfl,rfl⟩
def aaL:TypeId:=Tryz.Jx.t 39
theorem ajn (s:List UInt8) (aG:s.length<=100000) (h:Lib.parseUintB 64 s=.range) (aF:ah):e5 Tryz.prog 129 [.str s,.int .i64 10,.int .i64 64] aF (.tuple [.int .u64 18446744073709551615,.iface aaL .bad]) aF:=by refine Ci (by decide) ⟨_,Tryz.func129,by kernel_rfl⟩ fun E xs w tD au=>?_;obtain ⟨y,en,rfl,an,z,vZ,rfl,av,t,dE,rfl,aB,rfl⟩:=au;simp only [Rel] at an av aB;subst an av aB;refine (ajo ⟨⟨s⟩⟩ (by show s.length<=281474976710656;omega) h w tD.O').mono fun e w' q=>?_;obtain ⟨⟨p,rfl⟩,ai⟩:=q;refine ⟨_,rfl,?_,ai⟩;simp only [Rel];exact ⟨_,rfl,_,_,rfl,rfl,_,_,rfl,⟨p,rfl,trivial⟩,rfl⟩
end
section
open Go ba
def k0 (s:List UInt8) (i:Nat):Nat:=if decodeL s i=(65533,1) then 0 else (decodeL s i).2
def uk:Nat->List UInt8->Nat->Nat
 | 0,s,_=>s.length
 | f+1,s,a=>if a<s.length then (if k0 s a=0 then a else uk f s (a+k0 s a)) else s.length
def sM (s:List UInt8) (a:Nat):Nat:=uk (s.length-a) s a
def qQ (s:List UInt8):Nat:=sM s 0
theorem SN (s:List UInt8):∀(f g a:Nat),s.length-a<=f->s.length-a<=g->uk f s a=uk g s a
 | 0,g,a,ad,ag=>by
   cases g with
   | zero=>rfl
   | succ g=>simp only [uk];rw [aoI (by omega)]
 | f+1,0,a,ad,ag=>by simp only [uk];rw [aoI (by omega)]
 | f+1,g+1,a,ad,ag=>by
   simp only [uk];by_cases b5:a<s.length
   . rw [aoN b5,aoN b5];by_cases ax:k0 s a=0
     . rw [aoN ax,aoN ax]
     . rw [aoI ax,aoI ax];exact SN s f g _ (by omega) (by omega)
   . rw [aoI b5,aoI b5]
theorem SM {s:List UInt8} {a:Nat} (h:s.length<=a):sM s a=s.length:=by unfold sM;rw [show s.length-a=0 from by omega];rfl
theorem SL {s:List UInt8} {a:Nat} (h:a<s.length) (ax:k0 s a=0):sM s a=a:=by unfold sM;rw [show s.length-a=s.length-a-1+1 from by omega,uk,aoN h,aoN ax]
theorem KM {s:List UInt8} {a:Nat} (h:a<s.length) (ax:k0 s a≠0):sM s a=sM s (a+k0 s a):=by unfold sM;rw [show s.length-a=s.length-a-1+1 from by omega,uk,aoN h,aoI ax];exact SN s _ _ _ (by omega) (by omega)
def dW (c:UInt8):Bool:=n' c.toNat
def d_ (c:UInt8):Bool:=xw c.toNat
def fP (l:List UInt8):Nat:=l.foldl (fun n c=>10 * n + (c.toNat-48)) 0
abbrev qf:=Except Int (Int × Int × List UInt8 × Nat)
def qJ (r:List UInt8):qf:=
 let t:=r.takeWhile dW
 if 2147483647<fP t then .error 254 else .ok (1,(if 1073741823 < (fP t:Int) then (fP t:Int)-2147483648 else fP t),[],t.length)
def kD:List UInt8->Option (UInt8 × Nat)
 | []=>none
 | c::r=>if c=110 then some (10,1) else if c=116 then some (9,1) else if c=34 then some (34,1) else if c=92 then some (92,1) else
   if 2<=r.length/\dW c/\dW (r[0]?.getD 0)/\dW (r[1]?.getD 0)/\fP (c::r.take 2)<256 then some ((fP (c::r.take 2)).toUInt8,3) else none
def rT:Nat->List UInt8->Option (List UInt8 × Nat)
 | 0,_=>none
 | _+1,[]=>none
 | f+1,c::r=>if c=34 then some ([],1) else if c=92 then (match kD r with
    | none=>none
    | some (b,n)=>(rT f (r.drop n)).map fun q=>(b::q.1,q.2+n+1))
   else if c<32\/c=127 then none else (rT f r).map fun q=>(c::q.1,q.2+1)
def ns (r:List UInt8):Option (List UInt8 × Nat):=rT r.length r
def mJ (r:List UInt8):qf:=
 match ns r with
 | none=>.error 252
 | some (b,n)=>if 4096<b.length then .error 255 else .ok (2,0,b,n+1)
def ni:List (List UInt8):=[[97,110,100],[98,101,103,105,110],[101,108,115,101],[101,110,100],[101,120,99,101,112,116,105,111,110],[102,97,108,115,101],[102,117,110],[105,102],[105,110],[108,101,116],[109,97,116,99,104],[109,111,100],[111,102],[114,97,105,115,101],[114,101,99],[116,104,101,110],[116,114,117,101],[116,114,121],[116,121,112,101],[119,105,116,104]]
def gF:List (List UInt8):=[[59,59],[58,61],[45,62],[60,61],[59],[40],[41],[44],[61],[60],[43],[45],[42],[47],[124],[33],[95]]
def ng (t:List UInt8):Bool:=ni.contains t
def jr (kind:Int) (r:List UInt8):qf:=
 let t:=r.takeWhile d_
 if kind=3/\t=[95] then .ok (7,0,t,t.length) else if kind=3/\ng t then .ok (6,0,t,t.length) else if 64<t.length then .error 255 else .ok (kind,0,t,t.length)
def po (r:List UInt8):qf:=
 match gF.find? (·.isPrefixOf r) with
 | some t=>.ok (7,0,t,t.length)
 | none=>.error 251
def o3:List UInt8->Bool
 | d::_=>ln d.toNat
 | []=>false
def gd:List UInt8->qf
 | []=>.error 0
 | c::r=>if dW c then qJ (c::r) else if c=34 then mJ r else if ln c.toNat||c=95 then jr 3 (c::r) else if k3 c.toNat then jr 4 (c::r) else
   if c=39/\o3 r then (jr 5 r).map fun q=>(q.1,q.2.1,q.2.2.1,q.2.2.2+1) else po (c::r)
structure aq where
 kind:Int
 num:Int
 pos:Nat
 text:List UInt8
deriving DecidableEq
def blank (c:UInt8):Bool:=c=9||c=10||c=13||c=32
def Bf (w:aq):Except (Int × Nat) (List aq)->Except (Int × Nat) (List aq)
 | .ok ws=>.ok (w::ws)
 | .error e=>.error e
def pU:Nat->List UInt8->Nat->Except (Int × Nat) (List aq)
 | 0,_,_=>.ok []
 | _+1,[],_=>.ok []
 | f+1,c::r,p=>if blank c then pU f r (p+1) else if ([40,42]:List UInt8).isPrefixOf (c::r) then (match hp (c::r) 0 with
    | none=>.error (253,p)
    | some n=>pU f ((c::r).drop n) (p+n))
   else match gd (c::r) with
    | .error e=>.error (e,p)
    | .ok q=>Bf ⟨q.1,q.2.1,p,q.2.2.1⟩ (pU f ((c::r).drop q.2.2.2) (p+q.2.2.2))
def nJ (r:List UInt8) (p:Nat):Except (Int × Nat) (List aq):=pU r.length r p
def jL (s:List UInt8):Except (Int × Nat) (List aq):=
 if 65536<s.length then .error (3,0) else if qQ s<s.length then .error (250,qQ s) else nJ s 0
theorem K6 {p:UInt8->Bool} {c:UInt8} {r:List UInt8} (h:p c=true):1<=((c::r).takeWhile p).length:=by simp only [apM,h,aoM,aoH];omega
theorem akZ {t:List UInt8} (h:t ∈ gF):1<=t.length:=by revert t;decide
theorem KX {c:UInt8} (h:ln c.toNat=true):d_ c=true:=by unfold d_ xw;rw [h];simp
theorem PG {c:UInt8} (h:k3 c.toNat=true):d_ c=true:=by unfold d_ xw;rw [h];simp
theorem TC {c:UInt8} (h:c=95):d_ c=true:=by subst h;decide
theorem Rx {k:Int} {r:List UInt8} {q:Int × Int × List UInt8 × Nat} (h:jr k r=.ok q):q.2.2.2=(r.takeWhile d_).length:=by
 unfold jr at h;simp only at h
 split at h
 . cases h;rfl
 . split at h
   . cases h;rfl
   . split at h
     . cases h
     . cases h;rfl
theorem CC {r:List UInt8} {q:Int × Int × List UInt8 × Nat} (h:gd r=.ok q):1<=q.2.2.2:=by
 match r,h with
 | c::r,h=>
   simp only [gd] at h
   split at h
   . rename_i bk;unfold qJ at h;simp only at h
     split at h
     . cases h
     . cases h;exact K6 bk
   . split at h
     . unfold mJ at h
       split at h
       . cases h
       . split at h
         . cases h
         . cases h;simp only;omega
     . split at h
       . rename_i al;rw [Rx h];simp only [apF,aoO] at al;exact K6 (al.elim KX TC)
       . split at h
         . rename_i al;rw [Rx h];exact K6 (PG al)
         . split at h
           . cases aI:jr 5 r with
             | error e=>rw [aI] at h;cases h
             | ok gg=>rw [aI] at h;cases h;simp only;omega
           . unfold po at h
             split at h
             . rename_i t az;cases h;exact akZ (List.mem_of_find?_eq_some az)
             . cases h
theorem CE:∀{r:List UInt8} {d:Int} {n:Nat},hp r d=some n->2<=n
 | [],d,n,h=>by simp [hp] at h
 | [_],d,n,h=>by simp [hp] at h
 | x::y::r,d,n,h=>by
   rw [hp] at h
   split at h
   . cases aH:hp r (d+1) with
     | none=>rw [aH] at h;cases h
     | some m=>rw [aH] at h;cases h;simp only;omega
   . split at h
     . split at h
       . cases h;omega
       . cases aH:hp r (d-1) with
         | none=>rw [aH] at h;cases h
         | some m=>rw [aH] at h;cases h;simp only;omega
     . cases aH:hp (y::r) d with
       | none=>rw [aH] at h;cases h
       | some m=>rw [aH] at h;cases h;have:=CE aH;simp only;omega
theorem Cq:∀(f g:Nat) (r:List UInt8) (p:Nat),r.length<=f->r.length<=g->pU f r p=pU g r p
 | 0,g,r,p,ad,ag=>by have:r=[]:=apS.1 (by omega);subst this;cases g<;>rfl
 | f+1,0,r,p,ad,ag=>by have:r=[]:=apS.1 (by omega);subst this;rfl
 | f+1,g+1,[],p,ad,ag=>rfl
 | f+1,g+1,c::r,p,ad,ag=>by
   simp only [aoH] at ad ag;simp only [pU]
   split
   . exact Cq f g _ _ (by omega) (by omega)
   . split
     . split
       . rfl
       . rename_i n aI;have:=CE aI;exact Cq f g _ _ (by rw [aoZ,aoH];omega) (by rw [aoZ,aoH];omega)
     . split
       . rfl
       . rename_i q aH;have:=CC aH;rw [Cq f g _ _ (by rw [aoZ,aoH];omega) (by rw [aoZ,aoH];omega)]
theorem JB (c:UInt8) (r:List UInt8) (p:Nat):nJ (c::r) p=if blank c then nJ r (p+1) else if ([40,42]:List UInt8).isPrefixOf (c::r) then (match hp (c::r) 0 with
 | none=>.error (253,p)
 | some n=>nJ ((c::r).drop n) (p+n))
 else match gd (c::r) with
  | .error e=>.error (e,p)
  | .ok q=>Bf ⟨q.1,q.2.1,p,q.2.2.1⟩ (nJ ((c::r).drop q.2.2.2) (p+q.2.2.2)):=by
 unfold nJ;simp only [aoH,pU]
 split
 . rfl
 . split
   . split
     . rfl
     . rename_i n aI;have:=CE aI;exact Cq _ _ _ _ (by rw [aoZ,aoH];omega) (aoz _)
   . split
     . rfl
     . rename_i q aH;have:=CC aH;rw [Cq _ _ _ _ (by rw [aoZ,aoH];omega) (aoz _)]
theorem K':∀(f g:Nat) (r:List UInt8),r.length<=f->r.length<=g->rT f r=rT g r
 | 0,g,r,ad,ag=>by have:r=[]:=apS.1 (by omega);subst this;cases g<;>rfl
 | f+1,0,r,ad,ag=>by have:r=[]:=apS.1 (by omega);subst this;rfl
 | f+1,g+1,[],ad,ag=>rfl
 | f+1,g+1,c::r,ad,ag=>by
   simp only [aoH] at ad ag;simp only [rT]
   split
   . rfl
   . split
     . split
       . rfl
       . rw [K' f g _ (by rw [aoZ];omega) (by rw [aoZ];omega)]
     . split
       . rfl
       . rw [K' f g _ (by omega) (by omega)]
theorem Tq:ns []=none:=rfl
theorem Tp (c:UInt8) (r:List UInt8):ns (c::r)=if c=34 then some ([],1) else if c=92 then (match kD r with
 | none=>none
 | some (b,n)=>(ns (r.drop n)).map fun q=>(b::q.1,q.2+n+1))
 else if c<32\/c=127 then none else (ns r).map fun q=>(c::q.1,q.2+1):=by
 unfold ns;simp only [aoH,rT]
 split
 . rfl
 . split
   . split
     . rfl
     . rw [K' _ _ _ (by rw [aoZ];omega) (aoz _)]
   . rfl
theorem Pw:∀(l:List UInt8) (a:Nat),a<=l.foldl (fun n c=>10 * n + (c.toNat-48)) a
 | [],a=>aoz _
 | c::l,a=>by simp only [List.foldl_cons];exact aoF (by omega) (Pw l _)
def u_ (a:Nat) (l:List UInt8):Nat:=l.foldl (fun n c=>10 * n + (c.toNat-48)) a
theorem abk (a:Nat) (c:UInt8) (l:List UInt8):u_ a (c::l)=u_ (10 * a + (c.toNat-48)) l:=by unfold u_;rw [List.foldl_cons]
theorem ajk (M:Nat) (fC:M<18446744073709551620) (l:List UInt8):∀(a:Nat),(∀c ∈ l,dW c=true)->(u_ a l<=M->Lib.parseUintM M a l=.ok (u_ a l))/\(a<=M->¬u_ a l<=M->Lib.parseUintM M a l=.range):=by
 induction l with
 | nil=>
   intro a _;refine ⟨fun _=>?_,fun ad ag=>absurd ad ag⟩;simp only [Lib.parseUintM,u_,List.foldl_nil]
 | cons c l ad_=>
   intro a h;have ax:=h c (apE ..);simp only [dW,n',aoE,aoO] at ax;have ack:48<=c.toNat/\c.toNat<=57:=by omega
   have cc:=ad_ (10 * a + (c.toNat-48)) (fun x au=>h x (apr _ au));have hm:10 * a + (c.toNat-48)<=u_ (10 * a + (c.toNat-48)) l:=Pw l (10 * a + (c.toNat-48));simp only [Lib.parseUintM,ack,and_self,aoM];rw [Nat.mul_comm a 10,abk];have mr:10 * a<=10 * a + (c.toNat-48):=Nat.le_add_right _ _;generalize 10 * a + (c.toNat-48)=A at cc hm mr ⊢;refine ⟨fun a7=>?_,fun b5 o5=>?_⟩
   . rw [aoI (by omega),aoI (by omega)];exact cc.1 a7
   . by_cases ad:1844674407370955162<=a
     . rw [aoN ad]
     . rw [aoI ad];by_cases ag:M<A
       . rw [aoN ag]
       . rw [aoI ag];exact cc.2 (by omega) o5
theorem ajj (l:List UInt8) (h:∀c ∈ l,dW c=true) (aG:l≠[]):(fP l<=18446744073709551615->Lib.parseUintB 64 l=.ok (fP l))/\(¬fP l<=18446744073709551615->Lib.parseUintB 64 l=.range):=by unfold Lib.parseUintB;rw [aoI aG,show (2 ^ 64-1:Nat)=18446744073709551615 from by decide];have:=ajk 18446744073709551615 (by omega) l 0 h;exact ⟨this.1,this.2 (aoQ _)⟩
abbrev bJ (α:Type):=Except (Int × Nat) α
def b6:Int × Nat:=(-1,0)
section
variable (af:Nat)
def bI:List aq->Nat
 | w::_=>w.pos
 | []=>af
def cS (k:Int):List aq->Bool
 | w::_=>decide (w.kind=k)
 | []=>false
def bm (s:List UInt8):List aq->Bool
 | w::_=>(decide (w.kind=7)||decide (w.kind=6))&&decide (w.text=s)
 | []=>false
def eD (s:List UInt8) (ws:List aq):bJ (List aq):=if bm s ws then .ok ws.tail else .error (270,bI af ws)
def fc (k:Int):List aq->bJ (aq × List aq)
 | w::ws=>if w.kind=k then .ok (w,ws) else .error (270,w.pos)
 | []=>.error (270,af)
def two (k:Int) (a b:aP):aP:=.mk k 0 a.a [] [a,b]
def p2 (s:List UInt8) (a b:aP):aP:=.mk 38 0 a.a s [a,b]
def rR (eF:List (List UInt8)) (ws:List aq):Bool:=eF.any fun s=>bm s ws
def sF (n:Int):Int:=if n=-1073741824 then n else -n
def lN:List UInt8:=[45,62]
def nV:List UInt8:=[42]
def hr:List UInt8:=[40]
def fO:List UInt8:=[41]
def jt:List UInt8:=[44]
def hZ:List UInt8:=[45]
def rO:List UInt8:=[43]
def qT:List UInt8:=[47]
def h3:List UInt8:=[61]
def qS:List UInt8:=[60]
def qR:List UInt8:=[60,61]
def x5:List UInt8:=[33]
def jT:List UInt8:=[124]
def Ab:List UInt8:=[59]
def C0:List UInt8:=[59,59]
def Ac:List UInt8:=[58,61]
def pn:List UInt8:=[95]
def qz:List UInt8:=[109,111,100]
def ic:List UInt8:=[116,114,117,101]
def i':List UInt8:=[102,97,108,115,101]
def pa:List UInt8:=[98,101,103,105,110]
def EU:List UInt8:=[101,110,100]
def zy:List UInt8:=[111,102]
def zv:List UInt8:=[97,110,100]
def mA:List UInt8:=[102,117,110]
def rC:List UInt8:=[108,101,116]
def qA:List UInt8:=[114,101,99]
def vv:List UInt8:=[105,110]
def vu:List UInt8:=[105,102]
def EV:List UInt8:=[116,104,101,110]
def ET:List UInt8:=[101,108,115,101]
def zx:List UInt8:=[109,97,116,99,104]
def zA:List UInt8:=[116,114,121]
def Cf:List UInt8:=[119,105,116,104]
def zz:List UInt8:=[114,97,105,115,101]
def zB:List UInt8:=[116,121,112,101]
def zw:List UInt8:=[101,120,99,101,112,116,105,111,110]
structure qh where
 ty:Nat->List aq->bJ (aP × List aq)
 hI:Nat->List aq->bJ (aP × List aq)
 named:Nat->List aq->bJ (aP × List aq)
 jf:Nat->List aq->bJ (aP × List aq)
 ju:Nat->List aP->List aq->bJ (List aP × List aq)
 pat:Nat->List aq->bJ (aP × List aq)
 iQ:Nat->List aq->bJ (aP × List aq)
 gN:Nat->List aq->bJ (aP × List aq)
 seq:Nat->List aq->bJ (aP × List aq)
 cases:Nat->List aP->List aq->bJ (List aP × List aq)
 fn:Nat->Nat->List aq->bJ (aP × List aq)
 one:Nat->List aq->bJ (aP × List aq)
 hl:Nat->Int->Nat->List aq->bJ (aP × List aq)
 lt:Nat->Nat->List aq->bJ (aP × List aq)
 binds:Nat->List aP->List aq->bJ (List aP × List aq)
 pair:Nat->List aq->bJ (aP × List aq)
 iX:Nat->List aq->bJ (aP × List aq)
 hA:Nat->List aq->bJ (aP × List aq)
 hB:Nat->List aq->bJ (aP × List aq)
 lH:Nat->aP->List aq->bJ (aP × List aq)
 lI:Nat->aP->List aq->bJ (aP × List aq)
 pre:Nat->List aq->bJ (aP × List aq)
 app:Nat->List aq->bJ (aP × List aq)
 args:Nat->aP->List aq->bJ (aP × List aq)
 atom:Nat->List aq->bJ (aP × List aq)
def qh.none:qh:=⟨fun _ _=>.error b6,fun _ _=>.error b6,fun _ _=>.error b6,fun _ _=>.error b6,fun _ _ _=>.error b6,fun _ _=>.error b6,fun _ _=>.error b6,fun _ _=>.error b6,fun _ _=>.error b6,fun _ _ _=>.error b6,fun _ _ _=>.error b6,
 fun _ _=>.error b6,fun _ _ _ _=>.error b6,fun _ _ _=>.error b6,fun _ _ _=>.error b6,fun _ _=>.error b6,fun _ _=>.error b6,fun _ _=>.error b6,fun _ _=>.error b6,fun _ _ _=>.error b6,fun _ _ _=>.error b6,fun _ _=>.error b6,fun _ _=>.error b6,fun _ _ _=>.error b6,fun _ _=>.error b6⟩
def j1 (d:Nat) (ws:List aq) (k:bJ (aP × List aq)):bJ (aP × List aq):=if 1000<=d then .error (271,bI af ws) else k
def lb:aP->List aq->aP × List aq
 | a,[]=>(a,[])
 | a,w::ws=>if w.kind=3 then lb (.mk 2 0 a.a w.text [a]) ws else (a,w::ws)
def nO (ws:List aq):Option (List UInt8):=if bm h3 ws then some h3 else if bm qS ws then some qS else if bm qR ws then some qR else none
def nP (ws:List aq):Option (List UInt8):=if bm rO ws then some rO else if bm hZ ws then some hZ else none
def nQ (ws:List aq):Option (List UInt8):=if bm nV ws then some nV else if bm qT ws then some qT else if bm qz ws then some qz else none
def x7 (ws:List aq):Bool:=rR [pn,hZ,hr,ic,i'] ws||cS 3 ws||cS 1 ws||cS 4 ws
def n0 (ws:List aq):Bool:=rR [hr,pa,ic,i'] ws||cS 1 ws||cS 2 ws||cS 3 ws||cS 4 ws
variable (T:qh)
def C_ (d:Nat) (ws:List aq):bJ (aP × List aq):=j1 af d ws do
 let (a,ws) <-T.hI (d+1) ws
 if bm lN ws then
  let (b,ws) <-T.ty (d+1) ws.tail
  return (two 4 a b,ws)
 else return (a,ws)
def Kh (d:Nat) (ws:List aq):bJ (aP × List aq):=do
 let (a,ws) <-T.named d ws
 if bm nV ws then
  let (b,ws) <-T.hI d ws.tail
  return (two 3 a b,ws)
 else return (a,ws)
def CB (d:Nat) (ws:List aq):bJ (aP × List aq):=do
 let (a,ws) <-T.jf d ws
 return lb a ws
def jl (l:List aP) (ws:List aq):bJ Unit:=if l.length=64 then .error (270,bI af ws) else .ok ()
def oC (d:Nat) (l:List aP) (ws:List aq):bJ (List aP × List aq):=
 if bm jt ws then do
  jl af l ws.tail
  let (a,ws) <-T.ty d ws.tail
  T.ju d (l++[a]) ws
 else .ok (l,ws)
def uz (d:Nat) (ws:List aq):bJ (aP × List aq):=
 if cS 5 ws then (fc af 5 ws).map fun q=>(.mk 1 0 (bI af ws) q.1.text [],q.2)
 else if cS 3 ws then (fc af 3 ws).map fun q=>(.mk 2 0 (bI af ws) q.1.text [],q.2)
 else do
  let dQ:=bI af ws
  let ws <-eD af hr ws
  let (a,ws) <-T.ty d ws
  let (l,ws) <-T.ju d [a] ws
  let ws <-eD af fO ws
  if l.length=1 then return (a,ws)
  else
   let (w,ws) <-fc af 3 ws
   return (.mk 2 0 dQ w.text l,ws)
def Kl (d:Nat) (ws:List aq):bJ (aP × List aq):=j1 af d ws do
 let (a,ws) <-T.iQ (d+1) ws
 if bm jt ws then
  let (b,ws) <-T.pat (d+1) ws.tail
  return (two 15 a b,ws)
 else return (a,ws)
def ug (d:Nat) (ws:List aq):bJ (aP × List aq):=
 if cS 4 ws then do
  let (w,ws) <-fc af 4 ws
  if x7 ws then
   let (p,ws) <-T.gN d ws
   return (.mk 16 0 w.pos w.text [p],ws)
  else return (.mk 16 0 w.pos w.text [],ws)
 else T.gN d ws
def uh (d:Nat) (ws:List aq):bJ (aP × List aq):=
 let dQ:Int:=bI af ws
 if bm pn ws then .ok (.mk 10 0 dQ [] [],ws.tail)
 else if cS 3 ws then (fc af 3 ws).map fun q=>(.mk 11 0 dQ q.1.text [],q.2)
 else if cS 4 ws then (fc af 4 ws).map fun q=>(.mk 16 0 dQ q.1.text [],q.2)
 else if cS 1 ws then (fc af 1 ws).map fun q=>(.mk 12 q.1.num dQ [] [],q.2)
 else if bm hZ ws then (fc af 1 ws.tail).map fun q=>(.mk 12 (sF q.1.num) dQ [] [],q.2)
 else if bm ic ws then .ok (.mk 14 1 dQ [] [],ws.tail)
 else if bm i' ws then .ok (.mk 14 0 dQ [] [],ws.tail)
 else do
  let ws <-eD af hr ws
  if bm fO ws then return (.mk 13 0 dQ [] [],ws.tail)
  else
   let (p,ws) <-T.pat d ws
   let ws <-eD af fO ws
   return (p,ws)
def KV (d:Nat) (ws:List aq):bJ (aP × List aq):=j1 af d ws do
 let (a,ws) <-T.one (d+1) ws
 if bm Ab ws then
  let (b,ws) <-T.seq (d+1) ws.tail
  return (two 35 a b,ws)
 else return (a,ws)
def yK (d:Nat) (l:List aP) (ws:List aq):bJ (List aP × List aq):=do
 let (p,ws) <-T.pat d ws
 let ws <-eD af lN ws
 let (b,ws) <-T.seq d ws
 if bm jT ws then T.cases d (l++[two 45 p b]) ws.tail else return (l++[two 45 p b],ws)
def HQ (d dQ:Nat) (ws:List aq):bJ (aP × List aq):=do
 let (p,ws) <-T.pat d ws
 let ws <-eD af lN ws
 let (b,ws) <-T.seq d ws
 return (.mk 27 0 dQ [] [p,b],ws)
def ua (d:Nat) (ws:List aq):bJ (aP × List aq):=
 let dQ:=bI af ws
 if bm rC ws then T.lt d dQ ws.tail
 else if bm mA ws then T.fn d dQ ws.tail
 else if bm vu ws then do
  let (a,ws) <-T.seq d ws.tail
  let ws <-eD af EV ws
  let (b,ws) <-T.one d ws
  let ws <-eD af ET ws
  let (c,ws) <-T.one d ws
  return (.mk 31 0 dQ [] [a,b,c],ws)
 else if bm zx ws then T.hl d 32 dQ ws.tail
 else if bm zA ws then T.hl d 33 dQ ws.tail
 else do
  let (a,ws) <-T.pair d ws
  if bm Ac ws then
   let (b,ws) <-T.one d ws.tail
   return (two 37 a b,ws)
  else return (a,ws)
def Bb (d:Nat) (kind:Int) (dQ:Nat) (ws:List aq):bJ (aP × List aq):=do
 let (a,ws) <-T.seq d ws
 let ws <-eD af Cf ws
 let (l,ws) <-T.cases d [] (if bm jT ws then ws.tail else ws)
 return (.mk kind 0 dQ [] (a::l),ws)
def tV (d dQ:Nat) (ws:List aq):bJ (aP × List aq):=
 if bm qA ws then do
  let (l,ws) <-T.binds d [] ws.tail
  let ws <-eD af vv ws
  let (b,ws) <-T.seq d ws
  return (.mk 30 0 dQ [] (l++[b]),ws)
 else do
  let (p,ws) <-T.pat d ws
  let ws <-eD af h3 ws
  let (a,ws) <-T.seq d ws
  let ws <-eD af vv ws
  let (b,ws) <-T.seq d ws
  return (.mk 29 0 dQ [] [p,a,b],ws)
def yG (d:Nat) (l:List aP) (ws:List aq):bJ (List aP × List aq):=do
 let (w,ws) <-fc af 3 ws
 let ws <-eD af h3 ws
 let dQ:=bI af ws
 let ws <-eD af mA ws
 let (f,ws) <-T.fn d dQ ws
 if bm zv ws then T.binds d (l++[.mk 46 0 w.pos w.text [f]]) ws.tail else return (l++[.mk 46 0 w.pos w.text [f]],ws)
def Kg (d:Nat) (ws:List aq):bJ (aP × List aq):=do
 let (a,ws) <-T.iX d ws
 if bm jt ws then
  let (b,ws) <-T.pair d ws.tail
  return (two 26 a b,ws)
 else return (a,ws)
def Be (d:Nat) (ws:List aq):bJ (aP × List aq):=do
 let (a,ws) <-T.hA d ws
 match nO ws with
 | some s=>do
   let (b,ws) <-T.hA d ws.tail
   return (p2 s a b,ws)
 | none=>return (a,ws)
def C4 (d:Nat) (ws:List aq):bJ (aP × List aq):=do
 let (a,ws) <-T.hB d ws
 T.lH d a ws
def ub (d:Nat) (a:aP) (ws:List aq):bJ (aP × List aq):=
 match nP ws with
 | some s=>do
   let (b,ws) <-T.hB d ws.tail
   T.lH d (p2 s a b) ws
 | none=>.ok (a,ws)
def C5 (d:Nat) (ws:List aq):bJ (aP × List aq):=do
 let (a,ws) <-T.pre d ws
 T.lI d a ws
def uc (d:Nat) (a:aP) (ws:List aq):bJ (aP × List aq):=
 match nQ ws with
 | some s=>do
   let (b,ws) <-T.pre d ws.tail
   T.lI d (p2 s a b) ws
 | none=>.ok (a,ws)
def Kq (d:Nat) (ws:List aq):bJ (aP × List aq):=j1 af d ws (
 let dQ:=bI af ws
 if bm hZ ws then (T.pre (d+1) ws.tail).map fun q=>(.mk 39 0 dQ [] [q.1],q.2)
 else if bm x5 ws then (T.pre (d+1) ws.tail).map fun q=>(.mk 36 0 dQ [] [q.1],q.2)
 else T.app (d+1) ws)
def pC (d:Nat) (ws:List aq):bJ (aP × List aq):=
 let dQ:=bI af ws
 if bm zz ws then (T.atom d ws.tail).map fun q=>(.mk 34 0 dQ [] [q.1],q.2)
 else if cS 4 ws then do
  let (w,ws) <-fc af 4 ws
  if n0 ws then
   let (a,ws) <-T.atom d ws
   return (.mk 25 0 dQ w.text [a],ws)
  else return (.mk 25 0 dQ w.text [],ws)
 else do
  let (a,ws) <-T.atom d ws
  T.args d a ws
def s9 (d:Nat) (a:aP) (ws:List aq):bJ (aP × List aq):=
 if n0 ws then do
  let (b,ws) <-T.atom d ws
  T.args d (two 28 a b) ws
 else .ok (a,ws)
def tb (d:Nat) (ws:List aq):bJ (aP × List aq):=
 let dQ:Int:=bI af ws
 if cS 1 ws then (fc af 1 ws).map fun q=>(.mk 20 q.1.num dQ [] [],q.2)
 else if cS 2 ws then (fc af 2 ws).map fun q=>(.mk 21 0 dQ q.1.text [],q.2)
 else if cS 3 ws then (fc af 3 ws).map fun q=>(.mk 24 0 dQ q.1.text [],q.2)
 else if cS 4 ws then (fc af 4 ws).map fun q=>(.mk 25 0 dQ q.1.text [],q.2)
 else if bm ic ws then .ok (.mk 23 1 dQ [] [],ws.tail)
 else if bm i' ws then .ok (.mk 23 0 dQ [] [],ws.tail)
 else if bm pa ws then do
  let (a,ws) <-T.seq d ws.tail
  let ws <-eD af EU ws
  return (a,ws)
 else do
  let ws <-eD af hr ws
  if bm fO ws then return (.mk 22 0 dQ [] [],ws.tail)
  else
   let (a,ws) <-T.seq d ws
   let ws <-eD af fO ws
   return (a,ws)
def qh.step:qh:=⟨C_ af T,Kh T,CB T,uz af T,oC af T,Kl af T,ug af T,uh af T,KV af T,yK af T,HQ af T,ua af T,Bb af T,tV af T,yG af T,Kg T,Be T,C4 T,C5 T,ub T,uc T,Kq af T,pC af T,s9 T,tb af T⟩
def aU:Nat->qh
 | 0=>qh.none
 | n+1=>(aU n).step af
def kZ (kind:Int) (ws:List aq):bJ (aP × List aq):=do
 let (w,ws) <-fc af 4 ws
 if bm zy ws then
  let (t,ws) <-T.ty 0 ws.tail
  return (.mk kind 0 w.pos w.text [t],ws)
 else return (.mk kind 0 w.pos w.text [],ws)
def h4 (w:aq):aP:=.mk 1 0 w.pos w.text []
def kN:Nat->List aP->List aq->bJ (List aP × List aq)
 | 0,_,_=>.error b6
 | n+1,l,ws=>if bm jt ws then do
    jl af l ws.tail
    let (w,ws) <-fc af 5 ws.tail
    kN n (l++[h4 w]) ws
   else .ok (l,ws)
def pg (n:Nat) (ws:List aq):bJ (List aP × List aq):=
 if cS 5 ws then (fc af 5 ws).map fun q=>([h4 q.1],q.2)
 else if bm hr ws then do
  let (w,ws) <-fc af 5 ws.tail
  let (l,ws) <-kN af n [h4 w] ws
  let ws <-eD af fO ws
  return (l,ws)
 else .ok ([],ws)
def oS:Nat->List aP->List aq->bJ (List aP × List aq)
 | 0,_,_=>.error b6
 | n+1,l,ws=>if bm jT ws then do
    let (c,ws) <-kZ af T 47 ws.tail
    oS n (l++[c]) ws
   else .ok (l,ws)
def n5 (n:Nat) (ws:List aq):bJ (aP × List aq):=
 let dQ:Int:=bI af ws
 if bm zB ws then do
  let (l,ws) <-pg af n ws.tail
  let (w,ws) <-fc af 3 ws
  let ws <-eD af h3 ws
  let (c,ws) <-kZ af T 47 ws
  let (m,ws) <-oS af T n (l++[c]) ws
  return (.mk 50 l.length dQ w.text m,ws)
 else if bm zw ws then do
  let (c,ws) <-kZ af T 51 ws.tail
  return (.mk c.k c.n dQ c.s c.l,ws)
 else do
  let ws <-eD af rC ws
  if bm qA ws then
   let (l,ws) <-T.binds 0 [] ws.tail
   return (.mk 53 0 dQ [] l,ws)
  else
   let (p,ws) <-T.pat 0 ws
   let ws <-eD af h3 ws
   let (b,ws) <-T.seq 0 ws
   return (.mk 52 0 dQ [] [p,b],ws)
def pE:Nat->List aP->List aq->bJ (List aP)
 | 0,_,_=>.error b6
 | n+1,l,ws=>if ws=[] then .ok l else do
    let (p,ws) <-n5 af T n ws
    if 200<p.deep then .error (271,p.a.toNat) else
    let ws <-eD af C0 ws
    pE n (l++[p]) ws
end
def ml (ws:List aq):Nat:=30 * ws.length+30
def nq (s:List UInt8):bJ (List aP):=
 match jL s with
 | .error e=>.error e
 | .ok ws=>pE s.length (aU s.length (ml ws)) (ml ws) [] ws
def eI {α:Type} (E:Int × Nat->Prop) (ws:List aq):bJ (α × List aq)->Prop
 | .error e=>E e
 | .ok q=>q.2.length<ws.length
def kV {α:Type} (E:Int × Nat->Prop) (ws:List aq):bJ (α × List aq)->Prop
 | .error e=>E e
 | .ok q=>q.2.length<=ws.length
def uO (e:Int × Nat):Prop:=e≠b6
theorem qn (e:Int × Nat) (h:e≠b6):uO e:=h
section
variable {α β:Type} {ws:List aq} {af:Nat} {E:Int × Nat->Prop}
theorem eI.bind {G:bJ β->Prop} {r:bJ (α × List aq)} {f:α × List aq->bJ β} (h:eI E ws r) (n_:∀e,E e->G (.error e)) (aE:∀a bS,bS.length<ws.length->G (f (a,bS))):G (r >>= f):=by
 cases r with
 | error e=>exact n_ e h
 | ok q=>exact aE q.1 q.2 h
theorem kV.bind {G:bJ β->Prop} {r:bJ (α × List aq)} {f:α × List aq->bJ β} (h:kV E ws r) (n_:∀e,E e->G (.error e)) (aE:∀a bS,bS.length<=ws.length->G (f (a,bS))):G (r >>= f):=by
 cases r with
 | error e=>exact n_ e h
 | ok q=>exact aE q.1 q.2 h
theorem eI.map {r:bJ (α × List aq)} {f:α × List aq->β × List aq} (h:eI E ws r) (aE:∀q,(f q).2=q.2):eI E ws (r.map f):=by
 cases r with
 | error e=>exact h
 | ok q=>show (f q).2.length<_;rw [aE];exact h
theorem eI.ge {r:bJ (α × List aq)} (h:eI E ws r):kV E ws r:=by
 cases r with
 | error e=>exact h
 | ok q=>exact apB h
theorem eI.lt {bS:List aq} {r:bJ (α × List aq)} (h:kV E bS r) (aG:bS.length<ws.length):eI E ws r:=by
 cases r with
 | error e=>exact h
 | ok q=>exact Nat.lt_of_le_of_lt h aG
theorem kV.le {bS:List aq} {r:bJ (α × List aq)} (h:kV E bS r) (aG:bS.length<=ws.length):kV E ws r:=by
 cases r with
 | error e=>exact h
 | ok q=>exact aoF h aG
theorem eI.le {bS:List aq} {r:bJ (α × List aq)} (h:eI E bS r) (aG:bS.length<=ws.length):eI E ws r:=by
 cases r with
 | error e=>exact h
 | ok q=>exact apP h aG
theorem dZ {e:Int × Nat} (h:E e):eI (α:=α) E ws (.error e):=h
theorem rh {e:Int × Nat} (h:E e):kV (α:=α) E ws (.error e):=h
theorem F1 (p:Nat):((270:Int),p)≠b6:=by simp [b6]
theorem ahn (p:Nat):((271:Int),p)≠b6:=by simp [b6]
theorem fw {s:List UInt8} {ws:List aq} (h:bm s ws=true):ws.tail.length<ws.length:=by
 cases ws with
 | nil=>cases h
 | cons w ws=>simp
theorem ks (eh:∀e,e≠b6->E e) {G:bJ β->Prop} {s:List UInt8} {f:List aq->bJ β} (n_:∀e,E e->G (.error e)) (aE:∀bS,bS.length<ws.length->G (f bS)):G (eD af s ws >>= f):=by
 unfold eD
 split
 . exact aE _ (fw (by assumption))
 . exact n_ _ (eh _ (F1 _))
theorem ky (eh:∀e,e≠b6->E e) {k:Int}:eI E ws (fc af k ws):=by
 cases ws with
 | nil=>exact eh _ (F1 _)
 | cons w ws=>
   simp only [fc]
   split
   . simp [eI]
   . exact eh _ (F1 _)
theorem Pc (eh:∀e,e≠b6->E e) {G:bJ β->Prop} {l:List aP} {f:Unit->bJ β} (n_:∀e,E e->G (.error e)) (aE:G (f ())):G (jl af l ws >>= f):=by
 unfold jl
 split
 . exact n_ _ (eh _ (F1 _))
 . exact aE
theorem DY (eh:∀e,e≠b6->E e) {d:Nat} {r:bJ (aP × List aq)} (h:eI E ws r):eI E ws (j1 af d ws r):=by
 unfold j1
 split
 . exact eh _ (ahn _)
 . exact h
theorem RA:∀(a:aP) (ws:List aq),(lb a ws).2.length<=ws.length
 | a,[]=>aoz _
 | a,w::ws=>by
   simp only [lb]
   split
   . exact aoF (RA _ ws) (by simp)
   . exact aoz _
theorem aih {s:List UInt8} (h:nO ws=some s):ws.tail.length<ws.length:=by
 unfold nO at h
 repeat' split at h
 all_goals first
  | exact fw (by assumption)
  | cases h
theorem RU {s:List UInt8} (h:nP ws=some s):ws.tail.length<ws.length:=by
 unfold nP at h
 repeat' split at h
 all_goals first
  | exact fw (by assumption)
  | cases h
theorem RW {s:List UInt8} (h:nQ ws=some s):ws.tail.length<ws.length:=by
 unfold nQ at h
 repeat' split at h
 all_goals first
  | exact fw (by assumption)
  | cases h
end
structure Told (E:Int × Nat->Prop) (n:Nat) (T:qh):Prop where
 ty:∀d ws,E b6\/30 * ws.length+4<=n->eI E ws (T.ty d ws)
 hI:∀d ws,E b6\/30 * ws.length+3<=n->eI E ws (T.hI d ws)
 named:∀d ws,E b6\/30 * ws.length+2<=n->eI E ws (T.named d ws)
 jf:∀d ws,E b6\/30 * ws.length+1<=n->eI E ws (T.jf d ws)
 ju:∀d l ws,E b6\/30 * ws.length+1<=n->kV E ws (T.ju d l ws)
 pat:∀d ws,E b6\/30 * ws.length+3<=n->eI E ws (T.pat d ws)
 iQ:∀d ws,E b6\/30 * ws.length+2<=n->eI E ws (T.iQ d ws)
 gN:∀d ws,E b6\/30 * ws.length+1<=n->eI E ws (T.gN d ws)
 seq:∀d ws,E b6\/30 * ws.length+9<=n->eI E ws (T.seq d ws)
 cases:∀d l ws,E b6\/30 * ws.length+4<=n->eI E ws (T.cases d l ws)
 fn:∀d a ws,E b6\/30 * ws.length+4<=n->eI E ws (T.fn d a ws)
 one:∀d ws,E b6\/30 * ws.length+8<=n->eI E ws (T.one d ws)
 hl:∀d k a ws,E b6\/30 * ws.length+10<=n->eI E ws (T.hl d k a ws)
 lt:∀d a ws,E b6\/30 * ws.length+4<=n->eI E ws (T.lt d a ws)
 binds:∀d l ws,E b6\/30 * ws.length+1<=n->eI E ws (T.binds d l ws)
 pair:∀d ws,E b6\/30 * ws.length+7<=n->eI E ws (T.pair d ws)
 iX:∀d ws,E b6\/30 * ws.length+6<=n->eI E ws (T.iX d ws)
 hA:∀d ws,E b6\/30 * ws.length+5<=n->eI E ws (T.hA d ws)
 hB:∀d ws,E b6\/30 * ws.length+4<=n->eI E ws (T.hB d ws)
 lH:∀d a ws,E b6\/30 * ws.length+1<=n->kV E ws (T.lH d a ws)
 lI:∀d a ws,E b6\/30 * ws.length+1<=n->kV E ws (T.lI d a ws)
 pre:∀d ws,E b6\/30 * ws.length+3<=n->eI E ws (T.pre d ws)
 app:∀d ws,E b6\/30 * ws.length+2<=n->eI E ws (T.app d ws)
 args:∀d a ws,E b6\/30 * ws.length+2<=n->kV E ws (T.args d a ws)
 atom:∀d ws,E b6\/30 * ws.length+1<=n->eI E ws (T.atom d ws)
theorem Lb {E:Int × Nat->Prop} (eh:∀e,e≠b6->E e) (af:Nat):∀n,Told E n (aU af n)
 | 0=>by constructor<;>(intros;rename_i h;exact h.elim id fun h=>by omega)
 | n+1=>by
   have I:=Lb eh af n;constructor
   case ty=>
    intro d ws aI;refine DY eh ((I.hI _ ws (aI.imp id fun aI=>by omega)).bind (fun _=>dZ) fun a a_ ad=>?_)
    try simp only
    split
    . rename_i al;have:=fw al
      try dsimp only
      exact (I.ty _ _ (aI.imp id fun aI=>by omega)).bind (fun _=>dZ) fun b bu ag=>by show bu.length<_;omega
    . exact ad
   case hI=>
    intro d ws aI
    try dsimp only
    refine (I.named _ ws (aI.imp id fun aI=>by omega)).bind (fun _=>dZ) fun a a_ ad=>?_
    try simp only
    split
    . rename_i al;have:=fw al
      try dsimp only
      exact (I.hI _ _ (aI.imp id fun aI=>by omega)).bind (fun _=>dZ) fun b bu ag=>by show bu.length<_;omega
    . exact ad
   case named=>
    intro d ws aI
    try dsimp only
    refine (I.jf _ ws (aI.imp id fun aI=>by omega)).bind (fun _=>dZ) fun a a_ ad=>?_;exact Nat.lt_of_le_of_lt (RA a a_) ad
   case jf=>
    intro d ws aI;show eI E ws (uz af _ d ws);unfold uz
    split
    . exact (ky eh).map fun _=>rfl
    split
    . exact (ky eh).map fun _=>rfl
    try dsimp only
    refine ks eh (fun _=>dZ) fun a_ ad=>?_
    try dsimp only
    refine (I.ty _ _ (aI.imp id fun aI=>by omega)).bind (fun _=>dZ) fun a bu ag=>?_
    try dsimp only
    refine (I.ju _ _ _ (aI.imp id fun aI=>by omega)).bind (fun _=>dZ) fun l dd ar=>?_
    try dsimp only
    refine ks eh (fun _=>dZ) fun dk aT=>?_
    try simp only
    split
    . show dk.length<_;omega
    . try dsimp only
      exact (ky eh).bind (fun _=>dZ) fun w ft bE=>by show ft.length<_;omega
   case ju=>
    intro d l ws aI;show kV E ws (oC af _ d l ws);unfold oC
    split
    . rename_i al;have:=fw al
      try dsimp only
      refine Pc eh (fun _=>rh) ?_
      try dsimp only
      refine (I.ty _ _ (aI.imp id fun aI=>by omega)).bind (fun _=>rh) fun a bu ag=>?_
      try dsimp only
      exact (I.ju _ _ _ (aI.imp id fun aI=>by omega)).le (by omega)
    . exact aoz _
   case pat=>
    intro d ws aI;refine DY eh ((I.iQ _ ws (aI.imp id fun aI=>by omega)).bind (fun _=>dZ) fun a a_ ad=>?_)
    try simp only
    split
    . rename_i al;have:=fw al
      try dsimp only
      exact (I.pat _ _ (aI.imp id fun aI=>by omega)).bind (fun _=>dZ) fun b bu ag=>by show bu.length<_;omega
    . exact ad
   case iQ=>
    intro d ws aI;show eI E ws (ug af _ d ws);unfold ug
    split
    . try dsimp only
      refine (ky eh).bind (fun _=>dZ) fun w a_ ad=>?_
      try simp only
      split
      . try dsimp only
        exact (I.gN _ _ (aI.imp id fun aI=>by omega)).bind (fun _=>dZ) fun b bu ag=>by show bu.length<_;omega
      . exact ad
    . try dsimp only
      exact I.gN _ _ (aI.imp id fun aI=>by omega)
   case gN=>
    intro d ws aI;show eI E ws (uh af _ d ws);unfold uh
    try simp only
    split
    . exact fw (by assumption)
    split
    . exact (ky eh).map fun _=>rfl
    split
    . exact (ky eh).map fun _=>rfl
    split
    . exact (ky eh).map fun _=>rfl
    split
    . rename_i al;have:=fw al;exact eI.le (bS:=ws.tail) ((ky eh).map fun _=>rfl) (apB this)
    split
    . exact fw (by assumption)
    split
    . exact fw (by assumption)
    try dsimp only
    refine ks eh (fun _=>dZ) fun a_ ad=>?_
    split
    . rename_i al;have:=fw al;show a_.tail.length<_;omega
    . try dsimp only
      refine (I.pat _ _ (aI.imp id fun aI=>by omega)).bind (fun _=>dZ) fun a bu ag=>?_
      try dsimp only
      exact ks eh (fun _=>dZ) fun dd ar=>by show dd.length<_;omega
   case seq=>
    intro d ws aI;refine DY eh ((I.one _ ws (aI.imp id fun aI=>by omega)).bind (fun _=>dZ) fun a a_ ad=>?_)
    try simp only
    split
    . rename_i al;have:=fw al
      try dsimp only
      exact (I.seq _ _ (aI.imp id fun aI=>by omega)).bind (fun _=>dZ) fun b bu ag=>by show bu.length<_;omega
    . exact ad
   case cases=>
    intro d l ws aI
    try dsimp only
    refine (I.pat _ ws (aI.imp id fun aI=>by omega)).bind (fun _=>dZ) fun a a_ ad=>?_
    try dsimp only
    refine ks eh (fun _=>dZ) fun bu ag=>?_
    try dsimp only
    refine (I.seq _ _ (aI.imp id fun aI=>by omega)).bind (fun _=>dZ) fun b dd ar=>?_
    try simp only
    split
    . rename_i al;have:=fw al
      try dsimp only
      exact (I.cases _ _ _ (aI.imp id fun aI=>by omega)).le (by omega)
    . show dd.length<_;omega
   case fn=>
    intro d a0 ws aI
    try dsimp only
    refine (I.pat _ ws (aI.imp id fun aI=>by omega)).bind (fun _=>dZ) fun a a_ ad=>?_
    try dsimp only
    refine ks eh (fun _=>dZ) fun bu ag=>?_
    try dsimp only
    exact (I.seq _ _ (aI.imp id fun aI=>by omega)).bind (fun _=>dZ) fun b dd ar=>by show dd.length<_;omega
   case one=>
    intro d ws aI;show eI E ws (ua af _ d ws);unfold ua
    try simp only
    split
    . rename_i al;have:=fw al
      try dsimp only
      exact (I.lt _ _ _ (aI.imp id fun aI=>by omega)).le (by omega)
    split
    . rename_i al;have:=fw al
      try dsimp only
      exact (I.fn _ _ _ (aI.imp id fun aI=>by omega)).le (by omega)
    split
    . rename_i al;have:=fw al
      try dsimp only
      refine (I.seq _ _ (aI.imp id fun aI=>by omega)).bind (fun _=>dZ) fun a a_ ad=>?_
      try dsimp only
      refine ks eh (fun _=>dZ) fun bu ag=>?_
      try dsimp only
      refine (I.one _ _ (aI.imp id fun aI=>by omega)).bind (fun _=>dZ) fun a dd ar=>?_
      try dsimp only
      refine ks eh (fun _=>dZ) fun dk aT=>?_
      try dsimp only
      exact (I.one _ _ (aI.imp id fun aI=>by omega)).bind (fun _=>dZ) fun a ft bE=>by show ft.length<_;omega
    split
    . rename_i al;have:=fw al
      try dsimp only
      exact (I.hl _ _ _ _ (aI.imp id fun aI=>by omega)).le (by omega)
    split
    . rename_i al;have:=fw al
      try dsimp only
      exact (I.hl _ _ _ _ (aI.imp id fun aI=>by omega)).le (by omega)
    try dsimp only
    refine (I.pair _ ws (aI.imp id fun aI=>by omega)).bind (fun _=>dZ) fun a a_ ad=>?_
    try simp only
    split
    . rename_i al;have:=fw al
      try dsimp only
      exact (I.one _ _ (aI.imp id fun aI=>by omega)).bind (fun _=>dZ) fun b bu ag=>by show bu.length<_;omega
    . exact ad
   case hl=>
    intro d k a0 ws aI
    try dsimp only
    refine (I.seq _ ws (aI.imp id fun aI=>by omega)).bind (fun _=>dZ) fun a a_ ad=>?_
    try dsimp only
    refine ks eh (fun _=>dZ) fun bu ag=>?_;have ar:(if bm jT bu then bu.tail else bu).length<=bu.length:=by split<;>simp
    try dsimp only
    exact (I.cases _ _ _ (aI.imp id fun aI=>by omega)).bind (fun _=>dZ) fun b dk aT=>by show dk.length<_;omega
   case lt=>
    intro d a0 ws aI;show eI E ws (tV af _ d a0 ws);unfold tV
    split
    . rename_i al;have:=fw al
      try dsimp only
      refine (I.binds _ _ _ (aI.imp id fun aI=>by omega)).bind (fun _=>dZ) fun a a_ ad=>?_
      try dsimp only
      refine ks eh (fun _=>dZ) fun bu ag=>?_
      try dsimp only
      exact (I.seq _ _ (aI.imp id fun aI=>by omega)).bind (fun _=>dZ) fun b dd ar=>by show dd.length<_;omega
    . try dsimp only
      refine (I.pat _ ws (aI.imp id fun aI=>by omega)).bind (fun _=>dZ) fun a a_ ad=>?_
      try dsimp only
      refine ks eh (fun _=>dZ) fun bu ag=>?_
      try dsimp only
      refine (I.seq _ _ (aI.imp id fun aI=>by omega)).bind (fun _=>dZ) fun b dd ar=>?_
      try dsimp only
      refine ks eh (fun _=>dZ) fun dk aT=>?_
      try dsimp only
      exact (I.seq _ _ (aI.imp id fun aI=>by omega)).bind (fun _=>dZ) fun b ft bE=>by show ft.length<_;omega
   case binds=>
    intro d l ws aI
    try dsimp only
    refine (ky eh).bind (fun _=>dZ) fun w a_ ad=>?_
    try dsimp only
    refine ks eh (fun _=>dZ) fun bu ag=>?_
    try dsimp only
    refine ks eh (fun _=>dZ) fun dd ar=>?_
    try dsimp only
    refine (I.fn _ _ _ (aI.imp id fun aI=>by omega)).bind (fun _=>dZ) fun b dk aT=>?_
    try simp only
    split
    . rename_i al;have:=fw al
      try dsimp only
      exact (I.binds _ _ _ (aI.imp id fun aI=>by omega)).le (by omega)
    . show dk.length<_;omega
   case pair=>
    intro d ws aI
    try dsimp only
    refine (I.iX _ ws (aI.imp id fun aI=>by omega)).bind (fun _=>dZ) fun a a_ ad=>?_
    try simp only
    split
    . rename_i al;have:=fw al
      try dsimp only
      exact (I.pair _ _ (aI.imp id fun aI=>by omega)).bind (fun _=>dZ) fun b bu ag=>by show bu.length<_;omega
    . exact ad
   case iX=>
    intro d ws aI
    try dsimp only
    refine (I.hA _ ws (aI.imp id fun aI=>by omega)).bind (fun _=>dZ) fun a a_ ad=>?_
    try simp only
    split
    . rename_i al;have:=aih al
      try dsimp only
      exact (I.hA _ _ (aI.imp id fun aI=>by omega)).bind (fun _=>dZ) fun b bu ag=>by show bu.length<_;omega
    . exact ad
   case hA=>
    intro d ws aI
    try dsimp only
    refine (I.hB _ ws (aI.imp id fun aI=>by omega)).bind (fun _=>dZ) fun a a_ ad=>?_
    try dsimp only
    exact eI.lt (I.lH _ _ _ (aI.imp id fun aI=>by omega)) ad
   case hB=>
    intro d ws aI
    try dsimp only
    refine (I.pre _ ws (aI.imp id fun aI=>by omega)).bind (fun _=>dZ) fun a a_ ad=>?_
    try dsimp only
    exact eI.lt (I.lI _ _ _ (aI.imp id fun aI=>by omega)) ad
   case lH=>
    intro d a ws aI;show kV E ws (ub _ d a ws);unfold ub
    split
    . rename_i al;have:=RU al
      try dsimp only
      refine (I.hB _ _ (aI.imp id fun aI=>by omega)).bind (fun _=>rh) fun b a_ ad=>?_
      try dsimp only
      exact (I.lH _ _ _ (aI.imp id fun aI=>by omega)).le (by omega)
    . exact aoz _
   case lI=>
    intro d a ws aI;show kV E ws (uc _ d a ws);unfold uc
    split
    . rename_i al;have:=RW al
      try dsimp only
      refine (I.pre _ _ (aI.imp id fun aI=>by omega)).bind (fun _=>rh) fun b a_ ad=>?_
      try dsimp only
      exact (I.lI _ _ _ (aI.imp id fun aI=>by omega)).le (by omega)
    . exact aoz _
   case pre=>
    intro d ws aI;refine DY eh ?_
    try simp only
    split
    . rename_i al;have:=fw al;exact eI.le (bS:=ws.tail) ((I.pre _ _ (aI.imp id fun aI=>by omega)).map fun _=>rfl) (by omega)
    split
    . rename_i al;have:=fw al;exact eI.le (bS:=ws.tail) ((I.pre _ _ (aI.imp id fun aI=>by omega)).map fun _=>rfl) (by omega)
    try dsimp only
    exact I.app _ _ (aI.imp id fun aI=>by omega)
   case app=>
    intro d ws aI;show eI E ws (pC af _ d ws);unfold pC
    try simp only
    split
    . rename_i al;have:=fw al;exact eI.le (bS:=ws.tail) ((I.atom _ _ (aI.imp id fun aI=>by omega)).map fun _=>rfl) (by omega)
    split
    . try dsimp only
      refine (ky eh).bind (fun _=>dZ) fun w a_ ad=>?_
      try simp only
      split
      . try dsimp only
        exact (I.atom _ _ (aI.imp id fun aI=>by omega)).bind (fun _=>dZ) fun b bu ag=>by show bu.length<_;omega
      . exact ad
    . try dsimp only
      refine (I.atom _ _ (aI.imp id fun aI=>by omega)).bind (fun _=>dZ) fun b bu ag=>?_
      try dsimp only
      exact eI.lt (I.args _ _ _ (aI.imp id fun aI=>by omega)) ag
   case args=>
    intro d a ws aI;show kV E ws (s9 _ d a ws);unfold s9
    split
    . try dsimp only
      refine (I.atom _ _ (aI.imp id fun aI=>by omega)).bind (fun _=>rh) fun b bu ag=>?_
      try dsimp only
      exact (I.args _ _ _ (aI.imp id fun aI=>by omega)).le (by omega)
    . exact aoz _
   case atom=>
    intro d ws aI;show eI E ws (tb af _ d ws);unfold tb
    try simp only
    split
    . exact (ky eh).map fun _=>rfl
    split
    . exact (ky eh).map fun _=>rfl
    split
    . exact (ky eh).map fun _=>rfl
    split
    . exact (ky eh).map fun _=>rfl
    split
    . exact fw (by assumption)
    split
    . exact fw (by assumption)
    split
    . rename_i al;have:=fw al
      try dsimp only
      refine (I.seq _ _ (aI.imp id fun aI=>by omega)).bind (fun _=>dZ) fun a a_ ad=>?_
      try dsimp only
      exact ks eh (fun _=>dZ) fun bu ag=>by show bu.length<_;omega
    try dsimp only
    refine ks eh (fun _=>dZ) fun a_ ad=>?_
    split
    . rename_i al;have:=fw al;show a_.tail.length<_;omega
    . try dsimp only
      refine (I.seq _ _ (aI.imp id fun aI=>by omega)).bind (fun _=>dZ) fun a bu ag=>?_
      try dsimp only
      exact ks eh (fun _=>dZ) fun dd ar=>by show dd.length<_;omega
theorem told (af n:Nat):Told uO n (aU af n):=Lb qn af n
theorem shorter (af n:Nat):Told (fun _=>True) n (aU af n):=Lb (fun _ _=>trivial) af n
section
variable {af:Nat} {T:qh} {N:Nat} (I:Told uO N T)
include I
theorem Hu {k:Int} {ws:List aq} (h:30 * ws.length+4<=N):eI uO ws (kZ af T k ws):=by
 try dsimp only
 refine (ky qn).bind (fun _=>dZ) fun w a_ ad=>?_
 try simp only
 split
 . rename_i al;have:=fw al
   try dsimp only
   exact (I.ty _ _ (.inr (by omega))).bind (fun _=>dZ) fun b bu ag=>by show bu.length<_;omega
 . exact ad
theorem OC:∀{n:Nat} {l:List aP} {ws:List aq},ws.length<n->30 * ws.length+4<=N->kV uO ws (oS af T n l ws)
 | 0,l,ws,h,_=>by omega
 | n+1,l,ws,h,cQ=>by
   simp only [oS]
   split
   . rename_i al;have:=fw al
     try dsimp only
     refine (Hu I (by omega)).bind (fun _=>rh) fun c a_ ad=>?_
     try dsimp only
     exact kV.le (bS:=a_) (OC (by omega) (by omega)) (by omega)
   . exact aoz _
omit I in
theorem R7:∀{n:Nat} {l:List aP} {ws:List aq},ws.length<n->kV uO ws (kN af n l ws)
 | 0,l,ws,h=>by omega
 | n+1,l,ws,h=>by
   simp only [kN]
   split
   . rename_i al;have:=fw al
     try dsimp only
     refine Pc qn (fun _=>rh) ?_
     try dsimp only
     refine (ky qn).bind (fun _=>rh) fun c a_ ad=>?_
     try dsimp only
     exact kV.le (bS:=a_) (R7 (by omega)) (by omega)
   . exact aoz _
omit I in
theorem ajc {n:Nat} {ws:List aq} (h:ws.length<n):kV uO ws (pg af n ws):=by
 unfold pg
 split
 . exact eI.ge (eI.map (ky qn) fun _=>rfl)
 split
 . rename_i al;have:=fw al
   try dsimp only
   refine (ky qn).bind (fun _=>rh) fun w a_ ad=>?_
   try dsimp only
   refine (R7 (ws:=a_) (by omega)).bind (fun _=>rh) fun l bu ag=>?_
   try dsimp only
   exact ks qn (fun _=>rh) fun dd ar=>by show dd.length<=_;omega
 . exact aoz _
theorem Z4 {n:Nat} {ws:List aq} (h:ws.length<n) (cQ:30 * ws.length+30<=N):eI uO ws (n5 af T n ws):=by
 unfold n5
 try simp only
 split
 . rename_i al;have:=fw al;refine (ajc (by omega)).bind (fun _=>dZ) fun l a_ ad=>?_
   try dsimp only
   refine (ky qn).bind (fun _=>dZ) fun w bu ag=>?_
   try dsimp only
   refine ks qn (fun _=>dZ) fun dd ar=>?_
   try dsimp only
   refine (Hu I (by omega)).bind (fun _=>dZ) fun c dk aT=>?_
   try dsimp only
   exact (OC (ws:=dk) I (by omega) (by omega)).bind (fun _=>dZ) fun m ft bE=>by show ft.length<_;omega
 split
 . rename_i al;have:=fw al
   try dsimp only
   exact (Hu I (by omega)).bind (fun _=>dZ) fun c a_ ad=>by show a_.length<_;omega
 try dsimp only
 refine ks qn (fun _=>dZ) fun a_ ad=>?_
 split
 . rename_i al;have:=fw al
   try dsimp only
   exact (I.binds _ _ _ (.inr (by omega))).bind (fun _=>dZ) fun c bu ag=>by show bu.length<_;omega
 . try dsimp only
   refine (I.pat _ _ (.inr (by omega))).bind (fun _=>dZ) fun p bu ag=>?_
   try dsimp only
   refine ks qn (fun _=>dZ) fun dd ar=>?_
   try dsimp only
   exact (I.seq _ _ (.inr (by omega))).bind (fun _=>dZ) fun b dk aT=>by show dk.length<_;omega
theorem OJ:∀{n:Nat} {l:List aP} {ws:List aq},ws.length+1<n->30 * ws.length+30<=N->pE af T n l ws≠.error b6
 | 0,l,ws,h,_=>by omega
 | n+1,l,ws,h,cQ=>by
   simp only [pE]
   split
   . simp
   . refine (Z4 I (by omega) cQ).bind (G:=fun r=>r≠.error b6) (fun e h z=>h (by cases z;rfl)) fun p a_ ad=>?_
     try simp only
     split
     . intro z;cases z
     . try dsimp only
       refine ks qn (G:=fun r=>r≠.error b6) (fun e h z=>h (by cases z;rfl)) fun bu ag=>?_
       try dsimp only
       exact OJ (ws:=bu) (by omega) (by omega)
end
theorem aji (s:List UInt8) (h:∀e,jL s=.error e->e≠b6):nq s≠.error b6:=by
 unfold nq;cases aG:jL s with
 | error e=>simp only;intro q;cases q;exact h _ aG rfl
 | ok ws=>exact OJ (told s.length (ml ws)) (by unfold ml;omega) (by unfold ml;omega)
structure qi (s:List UInt8) (p:Nat) (b:aN) (h:ah) (res:qf) (x:V) (ae:ah):Prop where
 mod:Mod (fun q=>q=b) h ae
 res:∃k n t,x=.agg [.int .i64 k,.int .i64 n,.int .i64 0,.str t]/\match res with
  | .ok q=>k=q.1/\n=q.2.1/\t=q.2.2.1/\ae.get b=gO s ((p+q.2.2.2:Nat):Int) 0/\p+q.2.2.2<=s.length
  | .error e=>e≠0/\∃bF:Int,ae.get b=gO s bF e
theorem JO {P:Program}:(fp.lZ true 5).run P .nilIface .nilIface=some (.bool false):=rfl
theorem ahm {P:Program} (T:TypeId) (x:V):(fp.lZ true 5).run P (.iface T x) .nilIface=some (.bool true):=rfl
theorem Tm {p:UInt8->Bool} {l:List UInt8}:∀c ∈ l.takeWhile p,p c=true:=fun c ax=>by
 induction l with
 | nil=>simp at ax
 | cons x l cc=>
   simp only [apM] at ax
   split at ax
   . rename_i au;rcases ao7.1 ax with rfl | ax
     . exact au
     . exact cc ax
   . simp at ax
theorem K5 (p:UInt8->Bool) (s:List UInt8) (a:Nat):((s.drop a).takeWhile p).length<=s.length-a:=by have:=To p (s.drop a);rwa [aoZ] at this
theorem ahA (s:List UInt8) (a0:Nat) (b:aN) (h:ah) (ai:h.get b=gO s a0 0) (aM:a0<s.length) (al:s.length<=100000) (dC:Old h b) (bk:dW s[a0]=true):
 dY Tryz.prog 80 [.ptr b 0] h (qi s a0 b h (qJ (s.drop a0))):=by
 refine YG.z rfl (cm ?_);unfold Of;have dI:(b=ao h.next)=False:=xH dC (aoz _);have dT:(ao h.next=b)=False:=by rw [<-dI];exact propext aqo
 simp only [ai,dI,dT,↓aa,ab,simprocAttr];have au:Ext h (h.new (.bd [.int .i64 0,.int .i64 0,.int .i64 0,.str []] 0 false)):=(Ext.refl h).new _;refine aY (SR s a0 0 b 79 n' _ (by rw [au.get _ dC,ai]) (by omega) al (by decide) (fun c h=>yM c h)) ?_;rintro x ad ⟨rfl,hm,ay⟩;have mS:(fun c:UInt8=>n' (c.toNat:Int))=dW:=rfl;rw [mS] at ay ⊢;have xb:Mod (fun q=>q=b) h ad:=(au.mod _).trans hm;have g1:ad.get (ao h.next)=.bd [.int .i64 0,.int .i64 0,.int .i64 0,.str []] 0 false:=by rw [hm.get _ (jP (by rw [ig];omega)) (by rw [dT];exact id)];simp only [↓aa,ab,simprocAttr]
 have d':(s.drop a0).takeWhile dW≠[]:=by rw [drop_cons aM,apM,bk];simp
 have hlen:=K5 dW s a0;have aF:=ajj ((s.drop a0).takeWhile dW) Tm d';unfold gO at ay;have ru:qJ (s.drop a0)=if 2147483647<fP ((s.drop a0).takeWhile dW) then .error 254 else .ok (1,(if 1073741823 < (fP ((s.drop a0).takeWhile dW):Int) then (fP ((s.drop a0).takeWhile dW):Int)-2147483648 else fP ((s.drop a0).takeWhile dW)),[],((s.drop a0).takeWhile dW).length):=rfl;rw [ru];generalize (s.drop a0).takeWhile dW=t at *;simp only [↓aa,ab,simprocAttr];by_cases oZ:fP t<=18446744073709551615
 . refine bQ (ajl t (fP t) (by omega) (aF.1 oZ) ad) ?_;generalize fP t=u at *;by_cases H3:(2147483647:Int) < (u:Int)
   . have yZ:2147483647<u:=by omega
     simp only [JO,H3,g1,ay,dI,dT,↓aa,ab,simprocAttr];refine ⟨(xb.set (fun _=>rfl) _).set (fun q=>absurd (show dP (ao h.next)<h.next from q) (by rw [dh];omega)) _,?_⟩;rw [aoN yZ];refine ⟨_,_,_,rfl,by decide,((a0+t.length:Nat):Int),?_⟩;simp only [gO,dI,dT,↓aa,ab,simprocAttr]
   . have yZ:¬2147483647<u:=by omega
     have b9:IntKind.i64.wrap (u:Int)=(u:Int):=wrap_i64 (by omega) (by omega);have aR:IntKind.i64.wrap ((u:Int)-2147483648)=(u:Int)-2147483648:=wrap_i64 (by omega) (by omega);by_cases PL:(1073741823:Int) < (u:Int)
     . simp only [JO,H3,yZ,PL,g1,ay,dI,dT,b9,aR,↓aa,ab,simprocAttr];refine ⟨(xb.set (fun q=>absurd (show dP (ao h.next)<h.next from q) (by rw [dh];omega)) _),?_⟩;refine ⟨_,_,_,rfl,rfl,rfl,rfl,?_,by show a0+t.length<=s.length;omega⟩;simp only [gO,ay,dI,dT,↓aa,ab,simprocAttr]
     . simp only [JO,H3,yZ,PL,g1,ay,dI,dT,b9,aR,↓aa,ab,simprocAttr];refine ⟨(xb.set (fun q=>absurd (show dP (ao h.next)<h.next from q) (by rw [dh];omega)) _),?_⟩;refine ⟨_,_,_,rfl,rfl,rfl,rfl,?_,by show a0+t.length<=s.length;omega⟩;simp only [gO,ay,dI,dT,↓aa,ab,simprocAttr]
 . refine bQ (ajn t (by omega) (aF.2 oZ) ad) ?_;have yZ:2147483647<fP t:=by omega
   rw [aoN yZ];simp only [ahm,g1,ay,dI,dT,↓aa,ab,simprocAttr];refine ⟨(xb.set (fun _=>rfl) _).set (fun q=>absurd (show dP (ao h.next)<h.next from q) (by rw [dh];omega)) _,?_⟩;refine ⟨_,_,_,rfl,by decide,((a0+t.length:Nat):Int),?_⟩;simp only [gO,dI,dT,↓aa,ab,simprocAttr]
theorem Ty (c:UInt8):((c.toNat:Int)).toNat.toUInt8=c:=by rw [aoG];simp
theorem lP (c:UInt8) (n:Nat) (aI:n<256):((c.toNat:Int)=(n:Int))=(c=n.toUInt8):=by
 apply propext;constructor
 . intro q;have:c.toNat=n:=by omega
   rw [<-UInt8.toNat_inj,this];simp;omega
 . intro q;subst q;simp;omega
theorem aaN (c:UInt8):Lib.indexByte [110,116,34,92] c=if c=110 then 0 else if c=116 then 1 else if c=34 then 2 else if c=92 then 3 else -1:=by
 simp only [Lib.indexByte,apZ];by_cases ad:c=110
 . subst ad;decide
 . by_cases ag:c=116
   . subst ag;decide
   . by_cases ar:c=34
     . subst ar;decide
     . by_cases aT:c=92
       . subst aT;decide
       . have aO:¬(110:UInt8)=c:=fun q=>ad q.symm;have bs:¬(116:UInt8)=c:=fun q=>ag q.symm;have cT:¬(34:UInt8)=c:=fun q=>ar q.symm;have cO:¬(92:UInt8)=c:=fun q=>aT q.symm;simp only [ad,ag,ar,aT,aO,bs,cT,cO,aoK];rfl
theorem Hy {c:UInt8} (h:dW c=true):Lib.digitVal c=some (c.toNat-48):=by unfold Lib.digitVal;unfold dW n' at h;simp only [aoE,aoO] at h;rw [aoN (by omega)]
theorem V8 {a b c:UInt8} (ad:dW a=true) (ag:dW b=true) (ar:dW c=true):Lib.atoi [a,b,c]=some ((fP [a,b,c]:Nat):Int):=by
 have b5:=ad;unfold dW n' at b5;simp only [aoE,aoO] at b5;have fX:(a == 45)=false:=by rw [apL];rintro rfl;revert b5;decide
 have lE:(a == 43)=false:=by rw [apL];rintro rfl;revert b5;decide
 simp [Lib.atoi,fX,lE,Lib.decNat,Lib.decFrom,Hy ad,Hy ag,Hy ar,fP];omega
theorem aaO (s:List UInt8) (a0:Nat) (b:aN) (h:ah) (ai:h.get b=gO s a0 0) (aM:a0<s.length) (al:s.length<=100000) (dC:Old h b):
 dY Tryz.prog 131 [.ptr b 0] h fun x ae=>Mod (fun q=>q=b) h ae/\match kD (s.drop (a0+1)) with
  | some (c,n)=>x=.int .u8 (c.toNat:Int)/\ae.get b=gO s ((a0+1+n:Nat):Int) 0/\a0+1+n<=s.length
  | none=>x=.int .u8 0/\ae.get b=gO s ((a0+1:Nat):Int) 252:=by
 refine Xa.z rfl (cm ?_);unfold M1;unfold gO at ai ⊢;have b9:IntKind.i64.wrap ((a0:Int)+1)=((a0+1:Nat):Int):=by rw [wrap_i64 (by omega) (by omega)];rfl
 have f0:(0<=((a0+1:Nat):Int))=True:=aoU (by omega);have f1:(((a0+1:Nat):Int)<=(s.length:Int))=True:=aoU (by omega);have w9:(s.drop (a0+1)).length=s.length - (a0+1):=aoZ;have z0:((0:Int)<=0)=True:=aoU (by omega);have kK:∀v,ba.Mod (fun q=>q=b) h ((h.set b v)):=fun v=>(Mod.refl (fun q=>q=b) h).set (fun _=>rfl) _;cases c1:s.drop (a0+1) with
 | nil=>
   simp only [ai,b9,f0,f1,aoG,c1,aoS,Int.natCast_zero,↓aa,ab,simprocAttr];refine ⟨(kK _).set (fun _=>rfl) _,?_⟩;simp only [kD,ey,aoM,apV]
 | cons c r=>
   rw [c1] at w9;rw [aoH] at w9;have ej:(c::r=[])=False:=aoV (by simp);have f2:((0:Int) < ((r.length+1:Nat):Int))=True:=aoU (by omega);simp only [ai,b9,f0,f1,f2,ej,aoG,c1,Int.reduceToNat,z0,↓aa,ab,simprocAttr];refine bQ (QK _ _ _) ?_;rw [Ty,aaN];have aR:IntKind.i64.wrap (((a0+1:Nat):Int)+1)=((a0+2:Nat):Int):=by rw [wrap_i64 (by omega) (by omega)];omega
   by_cases cf:c=110
   . subst cf;simp only [ai,b9,aR,f0,f1,f2,ej,aoG,c1,Int.reduceToNat,z0,aoH,aoS,Nat.reduceAdd,Int.reduceLT,apc,↓aa,ab,simprocAttr];refine ⟨(kK _).set (fun _=>rfl) _,rfl,?_⟩;simp only [ey,aoM];refine ⟨trivial,by omega⟩
   by_cases c6:c=116
   . subst c6;simp only [ai,b9,aR,f0,f1,f2,ej,aoG,c1,Int.reduceToNat,z0,aoH,aoS,Nat.reduceAdd,Int.reduceLT,apc,cf,↓aa,ab,simprocAttr];refine ⟨(kK _).set (fun _=>rfl) _,rfl,?_⟩;simp only [ey,aoM];refine ⟨trivial,by omega⟩
   by_cases c3:c=34
   . subst c3;simp only [ai,b9,aR,f0,f1,f2,ej,aoG,c1,Int.reduceToNat,z0,aoH,aoS,Nat.reduceAdd,Int.reduceLT,apc,cf,c6,↓aa,ab,simprocAttr];refine ⟨(kK _).set (fun _=>rfl) _,rfl,?_⟩;simp only [ey,aoM];refine ⟨trivial,by omega⟩
   by_cases hj:c=92
   . subst hj;simp only [ai,b9,aR,f0,f1,f2,ej,aoG,c1,Int.reduceToNat,z0,aoH,aoS,Nat.reduceAdd,Int.reduceLT,apc,cf,c6,c3,↓aa,ab,simprocAttr];refine ⟨(kK _).set (fun _=>rfl) _,rfl,?_⟩;simp only [ey,aoM];refine ⟨trivial,by omega⟩
   match r,c1,w9,f2,ej with
   | [],c1,w9,f2,ej=>
     simp only [ai,b9,aR,f0,f1,f2,ej,aoG,c1,Int.reduceToNat,z0,aoH,aoS,Nat.reduceAdd,Int.reduceLT,apc,cf,c6,c3,hj,↓aa,ab,simprocAttr];refine ⟨(kK _).set (fun _=>rfl) _,?_⟩;simp [kD,cf,c6,c3,hj,ey]
   | [_],c1,w9,f2,ej=>
     simp only [ai,b9,aR,f0,f1,f2,ej,aoG,c1,Int.reduceToNat,z0,aoH,aoS,Nat.reduceAdd,Int.reduceLT,apc,cf,c6,c3,hj,↓aa,ab,simprocAttr];refine ⟨(kK _).set (fun _=>rfl) _,?_⟩;simp [kD,cf,c6,c3,hj,ey]
   | d1::d2::bq,c1,w9,f2,ej=>
     simp only [aoH] at w9;have g3:((3:Int)<=((bq.length+3:Nat):Int))=True:=aoU (by omega);have g2:((2:Int) < ((bq.length+3:Nat):Int))=True:=aoU (by omega);have g1:((1:Int) < ((bq.length+3:Nat):Int))=True:=aoU (by omega);have g0:((0:Int) < ((bq.length+3:Nat):Int))=True:=aoU (by omega);have em:kD (c::d1::d2::bq)=if dW c/\dW d1/\dW d2/\fP [c,d1,d2]<256 then some ((fP [c,d1,d2]).toUInt8,3) else none:=by simp [kD,cf,c6,c3,hj]
     rw [em];simp only [ai,b9,aR,f0,f1,g0,g1,g2,g3,ej,aoG,c1,Int.reduceToNat,z0,aoH,aoS,Nat.reduceAdd,Int.reduceLT,apc,cf,c6,c3,hj,↓aa,ab,simprocAttr];refine bQ (yM _ _) ?_;have dg:∀x:UInt8,n' (x.toNat:Int)=dW x:=fun _=>rfl;simp only [dg];cases acu:dW c with
     | false=>
       simp only [ai,b9,aR,f0,f1,g0,g1,g2,g3,ej,aoG,c1,Int.reduceToNat,z0,aoH,aoS,Nat.reduceAdd,Int.reduceLT,apc,cf,c6,c3,hj,aqn,aoA,↓aa,ab,simprocAttr];exact (kK _).set (fun _=>rfl) _
     | true=>
       simp only [ai,b9,aR,f0,f1,g0,g1,g2,g3,ej,aoG,c1,Int.reduceToNat,z0,aoH,aoS,Nat.reduceAdd,Int.reduceLT,apc,cf,c6,c3,hj,↓aa,ab,simprocAttr];refine bQ (yM _ _) ?_;simp only [dg];cases si:dW d1 with
       | false=>
         simp only [ai,b9,aR,f0,f1,g0,g1,g2,g3,ej,aoG,c1,Int.reduceToNat,z0,aoH,aoS,Nat.reduceAdd,Int.reduceLT,apc,cf,c6,c3,hj,aqn,and_false,aoA,↓aa,ab,simprocAttr];exact (kK _).set (fun _=>rfl) _
       | true=>
         simp only [ai,b9,aR,f0,f1,g0,g1,g2,g3,ej,aoG,c1,Int.reduceToNat,z0,aoH,aoS,Nat.reduceAdd,Int.reduceLT,apc,cf,c6,c3,hj,↓aa,ab,simprocAttr];refine bQ (yM _ _) ?_;simp only [dg];cases w2:dW d2 with
         | false=>
           simp only [ai,b9,aR,f0,f1,g0,g1,g2,g3,ej,aoG,c1,Int.reduceToNat,z0,aoH,aoS,Nat.reduceAdd,Int.reduceLT,apc,cf,c6,c3,hj,aqn,and_false,aoA,↓aa,ab,simprocAttr];exact (kK _).set (fun _=>rfl) _
         | true=>
           have z3:((0:Int)<=3)=True:=aoU (by omega);simp only [ai,b9,aR,f0,f1,g0,g1,g2,g3,z3,ej,aoG,c1,Int.reduceToNat,z0,aoH,aoS,Nat.reduceAdd,Int.reduceLT,apc,cf,c6,c3,hj,↓aa,ab,simprocAttr];refine bQ (V9 [c,d1,d2] _ (by simp) (V8 acu si w2) _) ?_;have eH:IntKind.i64.wrap (((a0+1:Nat):Int)+3)=((a0+4:Nat):Int):=by rw [wrap_i64 (by omega) (by omega)];omega
           generalize bZ:fP [c,d1,d2]=v;by_cases I_:(v:Int)<256
           . have gn:IntKind.u8.wrap (v:Int)=((v.toUInt8).toNat:Int):=by
              simp [IntKind.wrap,IntKind.bits,IntKind.signed]
             have Ja:v<256:=by omega
             simp only [ai,b9,aR,eH,gn,f0,f1,g0,g1,g2,g3,ej,I_,Ja,aoG,c1,Int.reduceToNat,z0,aoH,aoS,Nat.reduceAdd,Int.reduceLT,apc,cf,c6,c3,hj,and_self,apV,↓aa,ab,simprocAttr];refine ⟨(kK _).set (fun _=>rfl) _,?_⟩
             first | omega | (refine ⟨?_,by omega⟩;simp [ey]) | skip
           . have Ja:¬v<256:=by omega
             simp only [ai,b9,aR,eH,f0,f1,g0,g1,g2,g3,ej,I_,Ja,aoG,c1,Int.reduceToNat,z0,aoH,aoS,Nat.reduceAdd,Int.reduceLT,apc,cf,c6,c3,hj,and_false,↓aa,ab,simprocAttr];exact (kK _).set (fun _=>rfl) _
theorem Tz (c:UInt8) (n:Nat) (aI:n<256):((c.toNat:Int) < (n:Int))=(c<n.toUInt8):=by
 apply propext;rw [UInt8.lt_iff_toNat_lt];have:(n.toUInt8).toNat=n:=by simp;omega
 rw [this];omega
theorem alC (s:List UInt8) (a0:Nat) (b:aN) (h:ah) (ai:h.get b=gO s a0 0) (aM:a0<s.length) (al:s.length<=100000) (dC:Old h b):
 dY Tryz.prog 81 [.ptr b 0] h (qi s a0 b h (mJ (s.drop (a0+1)))):=by
 refine YH.z rfl (cm ?_);unfold Og;have dI:(b=ao h.next)=False:=xH dC (aoz _);have dT:(ao h.next=b)=False:=by rw [<-dI];exact propext aqo
 have b9:IntKind.i64.wrap ((a0:Int)+1)=((a0+1:Nat):Int):=by rw [wrap_i64 (by omega) (by omega)];rfl
 unfold gO at ai;simp +contextual only [ai,dI,dT,b9,↓aa,ab,simprocAttr];have rH:∀{v:V} {ae:ah} {n:Nat} {us:List V},dA (h.next+1) ae 1 v n us->∀q,v.bp q->¬(fun q=>q=b) q:=by
  intro v ae n us dU q aH he;have ad:=dU.base aH;rw [show q=b from he] at ad;have ag:dP b<h.next:=dC
  omega
 have Wu:∀{v:V} {ae:ah} {n:Nat} {us:List V},dA (h.next+1) ae 1 v n us->∀i,i<h.next+1->¬v.bp (ao i):=by intro v ae n us dU i aJ aH;have ad:=dU.base aH;rw [dh] at ad;omega
 refine gb (fun r ae=>r 0=.ptr b 0/\r 2=.ptr (ao h.next) 0/\∃(a:Nat) (e:Int) (b7:List UInt8) (v:V),r 3=v/\ae.get b=.bd [.str s,.int .i64 a,.int .i64 e] 0 false/\a<=s.length/\a0+1<=a/\b7.length<=a/\
  ae.get (ao h.next)=.bd [.int .i64 0,.int .i64 0,.int .i64 0,.str []] 0 false/\Mod (fun q=>q=b) h ae/\h.next+1<=ae.next/\dA (h.next+1) ae 1 v b7.length (g' b7)/\
  ((e=0/\ns (s.drop (a0+1))=(ns (s.drop a)).map fun q=>(b7++q.1,q.2 + (a - (a0+1))))\/(e=252/\ns (s.drop (a0+1))=none)))
  (fun r ae=>(s.length - ((gv (ae.get b) 1).getD .bad).toN) + (252 - ((gv (ae.get b) 2).getD .bad).toN)) ?_ ?_
 . refine ⟨by simp only [dI,dT,↓aa,ab,simprocAttr],by simp only [dI,dT,↓aa,ab,simprocAttr],a0+1,0,[],.cL,by simp only [dI,dT,↓aa,ab,simprocAttr],by simp only [dI,dT,↓aa,ab,simprocAttr],by omega,by omega,by simp,by simp only [dI,dT,↓aa,ab,simprocAttr],?_,?_,⟨rfl,rfl⟩,.inl ⟨rfl,?_⟩⟩
   . exact (((Ext.refl h).new _).mod (fun q=>q=b)).self _
   . rw [iO,ig];exact aoz _
   . rw [apY];cases ns (s.drop (a0+1))<;>rfl
 . rintro r ae ⟨aW,bc,a,e,b7,v,bV,ay,c8,hQ,xr,bN,hm,j5,dU,br⟩;have Qj:Old ae b:=hm.cu dC;have fin:∀(ag:ah) (bF:Int),ns (s.drop (a0+1))=none->Mod (fun q=>q=b) h ag->ag.get b=.bd [.str s,.int .i64 bF,.int .i64 252] 0 false->
    qi s a0 b h (mJ (s.drop (a0+1))) (.agg [.int .i64 0,.int .i64 0,.int .i64 0,.str []]) (ag.set (ao h.next) (.bd [.int .i64 0,.int .i64 0,.int .i64 0,.str []] 0 false)):=by
    intro ag bF aI fb l1;unfold mJ;rw [aI];refine ⟨fb.set (fun q=>absurd (show dP (ao h.next)<h.next from q) (by rw [dh];omega)) _,_,_,_,rfl,by decide,bF,?_⟩;rw [ey,aoI (by rw [dT];exact id),l1];rfl
   have step:∀(ag:ah),Mod (fun q=>q=b) h ag->ae.next<=ag.next->dA (h.next+1) ag 1 v b7.length (g' b7)->∀(c:UInt8),∃v3 ar,kj 1 v (.slice (ao ag.next) 0 1 1) (ag.new (.bd [.int .u8 (c.toNat:Int)] 0 false))=.val v3 ar/\dA (h.next+1) ar 1 v3 (b7++[c]).length (g' (b7++[c]))/\Mod (fun q=>q=b) h ar/\h.next+1<=ar.next/\ar.get b=ag.get b/\ar.get (ao h.next)=ag.get (ao h.next):=by
    intro ag fb adh ht c;obtain ⟨v3,ar,an,av,aB,bt,ca⟩:=AU (cs:=[.int .u8 (c.toNat:Int)]) (by omega) ht (by omega) (by unfold top;omega) rfl rfl;refine ⟨v3,ar,an,by rw [aoL,DI];exact av,fb.Tr aB (fun q aH=>aoF (Nat.le_succ _) (ht.base aH)),by omega,?_,?_⟩
    . exact aB.get _ (fb.cu dC) (fun aH=>rH ht _ aH rfl)
    . exact aB.get _ (jP (by omega)) (Wu ht _ (by omega))
   rcases br with ⟨rfl,br⟩ | ⟨rfl,br⟩
   . by_cases fD:(s.length:Int)<=(a:Int)
     . have b5:a=s.length:=by omega
       rw [b5,ap3,Tq] at br;simp +contextual only [aW,bc,bV,ay,fD,bN,dI,dT,↓aa,ab,simprocAttr];exact fin _ _ br (hm.set (fun _=>rfl) _) (by rw [ey,aoN rfl])
     . have a7:a<s.length:=by omega
       rw [drop_cons a7,Tp] at br;have f0:(0<=(a:Int))=True:=aoU (by omega);have f1:((a:Int) < (s.length:Int))=True:=aoU (by omega);have aR:IntKind.i64.wrap ((a:Int)+1)=((a+1:Nat):Int):=by rw [wrap_i64 (by omega) (by omega)];rfl
       have h_:(((s[a]).toNat:Int)=34)=(s[a]=34):=lP _ 34 (by omega);have oU:(((s[a]).toNat:Int)=92)=(s[a]=92):=lP _ 92 (by omega);have Bl:(((s[a]).toNat:Int)=127)=(s[a]=127):=lP _ 127 (by omega);have Ck:(((s[a]).toNat:Int)<32)=(s[a]<32):=Tz _ 32 (by omega);by_cases cf:s[a]=34
       . rw [aoN cf] at br;replace cf:(s[a]=34)=True:=aoU cf;simp only [apu,aoX] at br;by_cases oZ:(4096:Int) < (b7.length:Int)
         . have ht:∀k dJ,dA (h.next+1) ((ae.set b k).set b dJ) 1 v b7.length (g' b7):=fun k dJ=>dU.mod (((Mod.refl (fun q=>q=b) ae).set (fun _=>rfl) _).set (fun _=>rfl) _) (rH dU);simp +contextual only [aW,bc,bV,ay,fD,bN,dI,dT,f0,f1,aR,h_,cf,dU.v.len,oZ,th (ht _ _),aoB a7,aoG,↓aa,ab,simprocAttr];refine ⟨((hm.set (fun _=>rfl) _).set (fun _=>rfl) _).set (fun q=>absurd (show dP (ao h.next)<h.next from q) (by rw [dh];omega)) _,_,_,_,rfl,?_⟩;unfold mJ;rw [br];simp only;rw [aoN (by omega)];refine ⟨by decide,((a+1:Nat):Int),?_⟩;simp only [gO,dI,dT,↓aa,ab,simprocAttr]
         . have ht:∀k,dA (h.next+1) (ae.set b k) 1 v b7.length (g' b7):=fun k=>dU.mod ((Mod.refl (fun q=>q=b) ae).set (fun _=>rfl) _) (rH dU);simp +contextual only [aW,bc,bV,ay,fD,bN,dI,dT,f0,f1,aR,h_,cf,dU.v.len,oZ,th (ht _),aoB a7,aoG,↓aa,ab,simprocAttr];refine ⟨(hm.set (fun _=>rfl) _).set (fun q=>absurd (show dP (ao h.next)<h.next from q) (by rw [dh];omega)) _,_,_,_,rfl,?_⟩;unfold mJ;rw [br];simp only;rw [aoI (by omega)];refine ⟨rfl,rfl,rfl,?_,?_⟩
           . simp only [gO,dI,dT,↓aa,ab,simprocAttr];rw [show a0 + (1 + (a - (a0+1))+1)=a+1 from by omega]
           . simp only;omega
       rw [aoI cf] at br;by_cases c6:s[a]=92
       . rw [aoN c6] at br;replace c6:(s[a]=92)=True:=aoU c6;simp +contextual only [aW,bc,bV,ay,fD,bN,dI,dT,f0,f1,aR,h_,oU,cf,c6,aoB a7,aoG,↓aa,ab,simprocAttr];refine aY (aaO s a b ae ay a7 al Qj) ?_;rintro x ag ⟨fb,au⟩;have ht:=dU.mod fb (rH dU);have oo:ag.get (ao h.next)=.bd [.int .i64 0,.int .i64 0,.int .i64 0,.str []] 0 false:=by
          rw [fb.get _ (jP (by omega)) (by rw [dT];exact id),bN]
         have sH:=fb.next
         obtain ⟨c,ax,tI⟩:∃c:UInt8,x=.int .u8 (c.toNat:Int)/\((∃n,kD (s.drop (a+1))=some (c,n)/\ag.get b=gO s ((a+1+n:Nat):Int) 0/\a+1+n<=s.length)\/(kD (s.drop (a+1))=none/\ag.get b=gO s ((a+1:Nat):Int) 252)):=by
          cases pK:kD (s.drop (a+1)) with
          | none=>rw [pK] at au;exact ⟨0,au.1,.inr ⟨rfl,au.2⟩⟩
          | some q=>rw [pK] at au;exact ⟨q.1,au.1,.inl ⟨q.2,rfl,au.2⟩⟩
         subst ax;obtain ⟨v3,ar,an,av,aB,bt,ca,cx⟩:=step ag (hm.trans fb) sH ht c;have St:dA (h.next+1) ar 1 v3 (b7.length+1) (g' (b7++[c])):=by rw [aoL] at av;exact av
         have vp:ar.get (ao h.next)=.bd [.int .i64 0,.int .i64 0,.int .i64 0,.str []] 0 false:=by rw [cx,oo]
         unfold gO at tI;rcases tI with ⟨n,pK,l1,hle⟩ | ⟨pK,l1⟩
         . simp +contextual only [an,aW,bc,ay,l1,ca,dI,dT,↓aa,ab,simprocAttr];rw [pK] at br;simp only at br;refine ⟨⟨a+1+n,0,b7++[c],rfl,hle,by omega,by simp;omega,vp,aB,bt,av,.inl ⟨rfl,?_⟩⟩,by omega⟩;rw [br,apv,apN];congr 1;funext q;simp only [Function.comp,api,ap7,apy,apV];omega
         . simp +contextual only [an,aW,bc,ay,l1,ca,dI,dT,↓aa,ab,simprocAttr];rw [pK] at br;exact ⟨⟨a+1,252,b7++[c],rfl,by omega,by omega,by simp;omega,vp,aB,bt,av,.inr ⟨rfl,br⟩⟩,by omega⟩
       rw [aoI c6] at br;by_cases c3:s[a]<32\/s[a]=127
       . rw [aoN c3] at br;have tf:(decide (s[a]<32)||decide (s[a]=127))=true:=by simpa using c3
         simp +contextual only [aW,bc,bV,ay,fD,bN,dI,dT,f0,f1,aR,h_,oU,Bl,Ck,cf,c6,tf,aoB a7,aoG,↓aa,ab,simprocAttr];exact ⟨⟨a,252,b7,rfl,c8,hQ,xr,hm.self _,j5,dU.mod ((Mod.refl (fun q=>q=b) ae).self _) (rH dU),.inr ⟨rfl,br⟩⟩,by omega⟩
       . rw [aoI c3] at br;have tf:(decide (s[a]<32)||decide (s[a]=127))=false:=by simpa using c3
         obtain ⟨v3,ar,an,av,aB,bt,ca,cx⟩:=step (ae.set b (.bd [.str s,.int .i64 ((a+1:Nat):Int),.int .i64 0] 0 false)) (hm.self _) (by rw [iO];exact aoz _) (dU.mod ((Mod.refl (fun q=>q=b) ae).self _) (rH dU)) s[a];simp only [iO,ey,dI,dT,aoM,aoK] at an ca cx;simp +contextual only [an,aW,bc,bV,ay,fD,bN,dI,dT,f0,f1,aR,h_,oU,Bl,Ck,cf,c6,tf,ca,aoB a7,aoG,↓aa,ab,simprocAttr];refine ⟨⟨a+1,0,b7++[s[a]],rfl,by omega,by omega,by simp;omega,by rw [cx,bN],aB,bt,av,.inl ⟨rfl,?_⟩⟩,by omega⟩;rw [br,apN];congr 1;funext q;simp only [Function.comp,api,ap7,apy,apV];omega
   . simp +contextual only [aW,bc,bV,ay,bN,dI,dT,↓aa,ab,simprocAttr];exact fin _ _ br hm ay
def Ju:List UInt8:=[32,97,110,100,32,98,101,103,105,110,32,101,108,115,101,32,101,110,100,32,101,120,99,101,112,116,105,111,110,32,102,97,108,115,101,32,102,117,110,32,105,102,32,105,110,32,108,101,116,32,109,97,116,99,104,32,109,111,100,32,111,102,32,114,97,105,115,101,32,114,101,99,32,116,104,101,110,32,116,114,117,101,32,116,114,121,32,116,121,112,101,32,119,105,116,104,32]
def u':List (List UInt8)->List UInt8
 | []=>[32]
 | w::L=>32::(w++u' L)
theorem abf:u' ni=Ju:=by decide
theorem abe (L:List (List UInt8)):∃r,u' L=32::r:=by cases L<;>exact ⟨_,rfl⟩
theorem index_ge (sub:List UInt8):∀l:List UInt8,-1<=Lib.index l sub
 | []=>by simp only [Lib.index];split<;>decide
 | b::l=>by
   have:=index_ge sub l;simp only [Lib.index]
   split
   . decide
   . split<;>omega
theorem QM (sub:List UInt8) (b:UInt8) (l:List UInt8):(0<=Lib.index (b::l) sub)↔(sub.isPrefixOf (b::l)=true\/0<=Lib.index l sub):=by
 have:=index_ge sub l;simp only [Lib.index]
 split
 . rename_i h;simp [h]
 . rename_i h
   split
   . rename_i ag;have:Lib.index l sub=-1:=by simpa using ag
     simp [h,this]
   . rename_i ag;have ar:¬Lib.index l sub=-1:=by simpa using ag
     simp only [h,aoA,false_or];omega
theorem QO (x:List UInt8) (r:List UInt8):∀w:List UInt8,(32:UInt8) ∉ w->((0<=Lib.index (w++r) (32::x))↔0<=Lib.index r (32::x))
 | [],_=>Iff.rfl
 | b::w,h=>by
   rw [aoW,QM,QO x r w (fun q=>h (apr _ q))];have ai:((32:UInt8) == b)=false:=by rw [apL];rintro rfl;exact h (apE ..)
   simp [List.isPrefixOf,ai]
theorem Sj (r:List UInt8):∀(t w:List UInt8),(32:UInt8) ∉ t->(32:UInt8) ∉ w->((t++[32]).isPrefixOf (w++32::r)=true↔t=w)
 | [],[],_,_=>by simp [List.isPrefixOf]
 | [],b::w,_,h=>by
   have ai:((32:UInt8) == b)=false:=by rw [apL];rintro rfl;exact h (apE ..)
   simp [List.isPrefixOf,ai]
 | a::t,[],h,_=>by
   have ai:(a == (32:UInt8))=false:=by rw [apL];rintro rfl;exact h (apE ..)
   simp [List.isPrefixOf,ai]
 | a::t,b::w,h,ae=>by have cc:=Sj r t w (fun q=>h (apr _ q)) (fun q=>ae (apr _ q));simp only [aoW,List.isPrefixOf,aoE,apZ,cc,aqi]
theorem QN (t:List UInt8) (az:(32:UInt8) ∉ t):∀L:List (List UInt8),(∀w ∈ L,(32:UInt8) ∉ w)->((0<=Lib.index (u' L) (32::(t++[32])))↔t ∈ L)
 | [],_=>by cases t<;>simp [u',Lib.index,List.isPrefixOf]
 | w::L,h=>by
   have cc:=QN t az L (fun x au=>h x (apr _ au));have hw:=h w (apE ..);obtain ⟨r,U⟩:=abe L;simp only [u'];rw [QM,QO _ _ _ hw,cc,ao7];have:(32::(t++[32])).isPrefixOf (32::(w++u' L))=(t++[32]).isPrefixOf (w++u' L):=by simp [List.isPrefixOf]
   rw [this,U,Sj r t w az hw]
theorem Zy (t:List UInt8) (az:(32:UInt8) ∉ t):Lib.contains Ju (32::(t++[32]))=ng t:=by have:=QN t az ni (by decide);rw [abf] at this;unfold Lib.contains ng;rw [aps,aoO,this];simp
theorem agX {l:List UInt8}:(32:UInt8) ∉ l.takeWhile d_:=fun h=>by have:=Tm _ h;revert this;decide
theorem E9 (s:List UInt8) (a0:Nat) (k:Int) (b:aN) (h:ah) (ai:h.get b=gO s a0 0) (aM:a0<=s.length) (al:s.length<=100000) (dC:Old h b):
 dY Tryz.prog 83 [.ptr b 0,.int .i64 k] h (qi s a0 b h (jr k (s.drop a0))):=by
 refine YJ.z rfl (cm ?_);unfold Oi;have dI:(b=ao h.next)=False:=xH dC (aoz _);have dT:(ao h.next=b)=False:=by rw [<-dI];exact propext aqo
 simp only [ai,dI,dT,↓aa,ab,simprocAttr];have au:Ext h (h.new (.bd [.int .i64 0,.int .i64 0,.int .i64 0,.str []] 0 false)):=(Ext.refl h).new _;refine aY (SR s a0 0 b 132 xw _ (by rw [au.get _ dC,ai]) aM al (by decide) (fun c h=>agJ c h)) ?_;rintro x ad ⟨rfl,hm,ay⟩;have mS:(fun c:UInt8=>xw (c.toNat:Int))=d_:=rfl;rw [mS] at ay ⊢;have xb:Mod (fun q=>q=b) h ad:=(au.mod _).trans hm;have g1:ad.get (ao h.next)=.bd [.int .i64 0,.int .i64 0,.int .i64 0,.str []] 0 false:=by rw [hm.get _ (jP (by rw [ig];omega)) (by rw [dT];exact id)];simp only [↓aa,ab,simprocAttr]
 have hlen:=K5 d_ s a0;have abR:(32:UInt8) ∉ (s.drop a0).takeWhile d_:=agX;unfold gO at ay;have ru:jr k (s.drop a0)=if k=3/\(s.drop a0).takeWhile d_=[95] then .ok (7,0,(s.drop a0).takeWhile d_,((s.drop a0).takeWhile d_).length) else if k=3/\ng ((s.drop a0).takeWhile d_) then .ok (6,0,(s.drop a0).takeWhile d_,((s.drop a0).takeWhile d_).length) else if 64 < ((s.drop a0).takeWhile d_).length then .error 255 else .ok (k,0,(s.drop a0).takeWhile d_,((s.drop a0).takeWhile d_).length):=rfl;rw [ru];generalize (s.drop a0).takeWhile d_=t at *;have Fh:∀(dL:Int),qi s a0 b h (.ok (dL,0,t,t.length)) (.agg [.int .i64 dL,.int .i64 0,.int .i64 0,.str t]) (ad.set (ao h.next) (.bd [.int .i64 dL,.int .i64 0,.int .i64 0,.str t] 0 false)):=by intro dL;refine ⟨xb.fresh (aoz _) _,_,_,_,rfl,rfl,rfl,rfl,?_,by show a0+t.length<=s.length;omega⟩;rw [ey,aoI (by rw [dT];exact id),ay];rfl
 have tail:(64<t.length->qi s a0 b h (.error 255) (.agg [.int .i64 k,.int .i64 0,.int .i64 0,.str t]) ((ad.set b (.bd [.str s,.int .i64 ((a0+t.length:Nat):Int),.int .i64 255] 0 false)).set (ao h.next) (.bd [.int .i64 k,.int .i64 0,.int .i64 0,.str t] 0 false))):=by intro aG;refine ⟨(xb.self _).fresh (aoz _) _,_,_,_,rfl,by decide,((a0+t.length:Nat):Int),?_⟩;simp only [gO,dI,dT,↓aa,ab,simprocAttr]
 by_cases aD:k=3
 . subst aD;by_cases hu:t=[95]
   . simp only [g1,ay,dI,dT,hu,apV,↓aa,ab,simprocAttr];subst hu;exact Fh 7
   . have t1:(1+t.length<=top)=True:=aoU (by unfold top;omega);have t2:(t.length+1+1<=top)=True:=aoU (by unfold top;omega);simp only [top] at t1 t2;simp only [g1,ay,dI,dT,hu,apV,aoL,t1,t2,↓aa,ab,simprocAttr];refine bQ (Zx Ju (32::(t++[32])) (by decide) _) ?_;rw [Zy t abR];cases tA:ng t with
     | true=>
       simp only [g1,ay,dI,dT,hu,apV,and_false,tA,aoL,t1,t2,↓aa,ab,simprocAttr];exact Fh 6
     | false=>
       by_cases aG:64<t.length
       . have j3:(64:Int) < (t.length:Int):=by omega
         simp only [g1,ay,dI,dT,hu,aG,j3,apV,and_false,tA,aoL,t1,t2,aoA,↓aa,ab,simprocAttr];exact tail aG
       . have j3:¬(64:Int) < (t.length:Int):=by omega
         simp only [g1,ay,dI,dT,hu,aG,j3,apV,and_false,tA,aoL,t1,t2,aoA,↓aa,ab,simprocAttr];exact Fh 3
 . by_cases aG:64<t.length
   . have j3:(64:Int) < (t.length:Int):=by omega
     simp only [g1,ay,dI,dT,aD,aG,j3,aqn,↓aa,ab,simprocAttr];exact tail aG
   . have j3:¬(64:Int) < (t.length:Int):=by omega
     simp only [g1,ay,dI,dT,aD,aG,j3,aqn,↓aa,ab,simprocAttr];exact Fh k
def Ae:List V:=gF.map V.str
theorem ak0 (h:ah):dY Tryz.prog 85 [] h fun x ae=>x=.slice (ao h.next) 0 17 17/\ae=h.new (.bd Ae 0 false):=by refine YL.z rfl (cm ?_);unfold Ok;simp +contextual only [↓aa,ab,simprocAttr];rfl
theorem akY {i:Nat} (aJ:i<17):Ae[i]? =some (.str (gF[i]'aJ)):=by unfold Ae;rw [apg,aoB (show i<gF.length from aJ)];rfl
theorem Pr (p:List UInt8->Bool) {i:Nat} (aJ:i<17):(gF.drop i).find? p=if p (gF[i]'aJ) then some (gF[i]'aJ) else (gF.drop (i+1)).find? p:=by rw [apa (show i<gF.length from aJ),List.find?_cons];cases p gF[i]<;>rfl
theorem qi.store {s:List UInt8} {p:Nat} {b:aN} {h:ah} {z dJ:c_} {res:qf} {x:V} {ad:ah} (w:qi s p b (h.new z) res x ad) (dC:Old h b):qi s p b h res x (ad.set (ao h.next) dJ):=by
 have dT:¬(ao h.next=b):=by
  intro q;have:dP b<h.next:=dC
  rw [<-q,dh] at this;omega
 obtain ⟨hm,k,n,t,au,U⟩:=w;refine ⟨((((Ext.refl h).new z).mod _).trans hm).fresh (aoz _) _,k,n,t,au,?_⟩;cases res with
 | ok q=>simpa only [ey,aoI dT] using U
 | error e=>simpa only [ey,aoI dT] using U
theorem ahv (s:List UInt8) (a0:Nat) (b:aN) (h:ah) (ai:h.get b=gO s a0 0) (aM:a0<s.length) (al:s.length<=100000) (dC:Old h b):
 dY Tryz.prog 36 [.ptr b 0] h (qi s a0 b h (gd (s.drop a0))):=by
 refine X8.z rfl (cm ?_);unfold NO;have dI:(b=ao h.next)=False:=xH dC (aoz _);have dT:(ao h.next=b)=False:=by rw [<-dI];exact propext aqo
 have jH:=ai;unfold gO at ai;have f0:(0<=(a0:Int))=True:=aoU (by omega);have f1:((a0:Int) < (s.length:Int))=True:=aoU (by omega);have au:Ext h (h.new (.bd [.int .i64 0,.int .i64 0,.int .i64 0,.str []] 0 false)):=(Ext.refl h).new _;have zc:Old (h.new (.bd [.int .i64 0,.int .i64 0,.int .i64 0,.str []] 0 false)) b:=au.cu dC;have BH:(h.new (.bd [.int .i64 0,.int .i64 0,.int .i64 0,.str []] 0 false)).get b=gO s a0 0:=by rw [au.get _ dC,jH]
 have yY:∀{res:qf} {x:V} {ad:ah},qi s a0 b (h.new (.bd [.int .i64 0,.int .i64 0,.int .i64 0,.str []] 0 false)) res x ad->ad.get (ao h.next)=.bd [.int .i64 0,.int .i64 0,.int .i64 0,.str []] 0 false:=by intro res x ad w;rw [w.mod.get _ (jP (by rw [ig];omega)) (by rw [dT];exact id)];simp only [↓aa,ab,simprocAttr]
 have bk:=drop_cons aM;rw [bk];have dg:n' ((s[a0]).toNat:Int)=dW s[a0]:=rfl;have h_:(((s[a0]).toNat:Int)=34)=(s[a0]=34):=lP _ 34 (by omega);have q7:(((s[a0]).toNat:Int)=95)=(s[a0]=95):=lP _ 95 (by omega);have sa:(((s[a0]).toNat:Int)=39)=(s[a0]=39):=lP _ 39 (by omega);simp +contextual only [ai,dI,dT,f0,f1,aoB aM,aoG,↓aa,ab,simprocAttr];refine bQ (yM _ _) ?_;rw [dg];cases ad:dW s[a0] with
 | true=>
   have af:gd (s[a0]::s.drop (a0+1))=qJ (s.drop a0):=by rw [bk];simp only [gd,ad,aoM]
   rw [af];simp +contextual only [ai,dI,dT,f0,f1,aoB aM,aoG,↓aa,ab,simprocAttr];refine aY (ahA s a0 b _ BH aM al zc ad) ?_;rintro x aF w;have g1:=yY w;obtain ⟨k,n,t,rfl,_⟩:=w.res;simp +contextual only [g1,ai,dI,dT,f0,f1,↓aa,ab,simprocAttr];exact w.store dC
 | false=>
   by_cases ag:s[a0]=34
   . have af:gd (s[a0]::s.drop (a0+1))=mJ (s.drop (a0+1)):=by simp only [gd];rw [aoI (by rw [ad];exact ao2),aoN ag]
     rw [af];replace ag:=aoU ag;simp +contextual only [ai,dI,dT,f0,f1,h_,ag,aoB aM,aoG,↓aa,ab,simprocAttr];refine aY (alC s a0 b _ BH aM al zc) ?_;rintro x aF w;have g1:=yY w;obtain ⟨k,n,t,rfl,_⟩:=w.res;simp +contextual only [g1,ai,dI,dT,f0,f1,↓aa,ab,simprocAttr];exact w.store dC
   simp +contextual only [ai,dI,dT,f0,f1,h_,ag,aoB aM,aoG,↓aa,ab,simprocAttr];refine bQ (FX _ _) ?_;by_cases ar:(ln ((s[a0]).toNat:Int)||decide (s[a0]=95))=true
   . have af:gd (s[a0]::s.drop (a0+1))=jr 3 (s.drop a0):=by rw [bk];simp only [gd,ad,ag,ar,aoA,aoK,aoM]
     rw [af];have fin:q5 Tryz.prog 83 [.ptr b 0,.int .i64 3] (some 33) none [] [] (fun _=>.bad) h (fun _ _ _=>True)->True:=fun _=>trivial;cases dD:ln ((s[a0]).toNat:Int) with
     | true=>
       simp +contextual only [ai,dI,dT,f0,f1,h_,ag,dD,aoB aM,aoG,↓aa,ab,simprocAttr];refine aY (E9 s a0 3 b _ BH (by omega) al zc) ?_;rintro x aF w;have g1:=yY w;obtain ⟨k,n,t,rfl,_⟩:=w.res;simp +contextual only [g1,ai,dI,dT,f0,f1,↓aa,ab,simprocAttr];exact w.store dC
     | false=>
       rw [dD,Bool.false_or,aoO] at ar;replace ar:=aoU ar;simp +contextual only [ai,dI,dT,f0,f1,h_,q7,ag,ar,dD,aoB aM,aoG,↓aa,ab,simprocAttr];refine aY (E9 s a0 3 b _ BH (by omega) al zc) ?_;rintro x aF w;have g1:=yY w;obtain ⟨k,n,t,rfl,_⟩:=w.res;simp +contextual only [g1,ai,dI,dT,f0,f1,↓aa,ab,simprocAttr];exact w.store dC
   . have Ef:=ar;rw [Bool.not_eq_true,Bool.or_eq_false_iff,apC] at Ef;obtain ⟨abS,abT⟩:=Ef;simp +contextual only [ai,dI,dT,f0,f1,h_,q7,ag,abS,abT,aoB aM,aoG,↓aa,ab,simprocAttr];refine bQ (PH _ _) ?_;cases aT:k3 ((s[a0]).toNat:Int) with
     | true=>
       have af:gd (s[a0]::s.drop (a0+1))=jr 4 (s.drop a0):=by rw [bk];simp only [gd,ad,ag,ar,aT,aoA,aoK,aoM]
       rw [af];simp +contextual only [ai,dI,dT,f0,f1,aoB aM,aoG,↓aa,ab,simprocAttr];refine aY (E9 s a0 4 b _ BH (by omega) al zc) ?_;rintro x aF w;have g1:=yY w;obtain ⟨k,n,t,rfl,_⟩:=w.res;simp +contextual only [g1,ai,dI,dT,f0,f1,↓aa,ab,simprocAttr];exact w.store dC
     | false=>
       have b9:IntKind.i64.wrap ((a0:Int)+1)=((a0+1:Nat):Int):=by rw [wrap_i64 (by omega) (by omega)];rfl
       have f2:(0<=((a0+1:Nat):Int))=True:=aoU (by omega);by_cases bE:s[a0]=39/\o3 (s.drop (a0+1))
       . have af:gd (s[a0]::s.drop (a0+1))=(jr 5 (s.drop (a0+1))).map fun q=>(q.1,q.2.1,q.2.2.1,q.2.2.2+1):=by simp only [gd];rw [aoI (by rw [ad];exact ao2),aoI ag,aoI ar,aoI (by rw [aT];exact ao2),aoN bE]
         rw [af];obtain ⟨Eg,Eh⟩:=bE;replace Eg:=aoU Eg;have a7:a0+1<s.length:=by
          by_cases q:a0+1<s.length
          . exact q
          . rw [ao_ (by omega)] at Eh;cases Eh
         rw [drop_cons a7] at Eh;have f3:(((a0+1:Nat):Int) < (s.length:Int))=True:=aoU (by omega);simp +contextual (maxSteps:=1000000) only [ai,dI,dT,f0,f1,f2,f3,b9,h_,q7,sa,ag,Eg,aoB aM,aoB a7,aoG,↓aa,ab,simprocAttr];refine bQ (FX _ _) ?_;rw [show ln ((s[a0+1]).toNat:Int)=true from Eh];simp +contextual (maxSteps:=1000000) only [ai,dI,dT,f0,f1,f2,f3,b9,h_,q7,sa,ag,Eg,aoB aM,aoB a7,aoG,↓aa,ab,simprocAttr];have Qh:Mod (fun q=>q=b) (h.new (.bd [.int .i64 0,.int .i64 0,.int .i64 0,.str []] 0 false)) ((h.new (.bd [.int .i64 0,.int .i64 0,.int .i64 0,.str []] 0 false)).set b (.bd [.str s,.int .i64 ((a0+1:Nat):Int),.int .i64 0] 0 false)):=(Mod.refl _ _).self _;refine aY (E9 s (a0+1) 5 b _ (by rw [ey,aoN rfl];rfl) (by omega) al (Qh.cu zc)) ?_;rintro x aF w;have w':qi s a0 b (h.new (.bd [.int .i64 0,.int .i64 0,.int .i64 0,.str []] 0 false)) ((jr 5 (s.drop (a0+1))).map fun q=>(q.1,q.2.1,q.2.2.1,q.2.2.2+1)) x aF:=by
          obtain ⟨amo,k,n,t,amB,wr⟩:=w;refine ⟨Qh.trans amo,k,n,t,amB,?_⟩;cases aI:jr 5 (s.drop (a0+1)) with
          | error e=>rw [aI] at wr;exact wr
          | ok q=>
            rw [aI] at wr;obtain ⟨cJ,bc,bV,cU,b1⟩:=wr;refine ⟨cJ,bc,bV,?_,?_⟩
            . rw [cU];show gO s ((a0+1+q.2.2.2:Nat):Int) 0=gO s ((a0 + (q.2.2.2+1):Nat):Int) 0;rw [show a0+1+q.2.2.2=a0 + (q.2.2.2+1) from by omega]
            . show a0 + (q.2.2.2+1)<=s.length;omega
         have g1:=yY w';obtain ⟨k,n,t,rfl,_⟩:=w'.res;simp +contextual only [g1,ai,dI,dT,f0,f1,↓aa,ab,simprocAttr];exact w'.store dC
       . have af:gd (s[a0]::s.drop (a0+1))=po (s.drop a0):=by rw [bk];simp only [gd];rw [aoI (by rw [ad];exact ao2),aoI ag,aoI ar,aoI (by rw [aT];exact ao2),aoI bE]
         rw [af];have acm:((s[a0]=39)=False)\/(((s[a0]=39)=True)/\¬a0+1<s.length)\/(((s[a0]=39)=True)/\∃a7:a0+1<s.length,ln ((s[a0+1]).toNat:Int)=false):=by
          by_cases q:s[a0]=39
          . by_cases a7:a0+1<s.length
            . refine .inr (.inr ⟨aoU q,a7,?_⟩);cases aH:ln ((s[a0+1]).toNat:Int) with
              | false=>rfl
              | true=>exact absurd ⟨q,by rw [drop_cons a7];exact aH⟩ bE
            . exact .inr (.inl ⟨aoU q,a7⟩)
          . exact .inl (aoV q)
         have two:∀t ∈ gF,t.length<=2:=by decide
         have r4:((17:Nat):Int)=17:=rfl;rcases acm with an | ⟨an,av⟩ | ⟨an,a7,av⟩
         case' neg.inl=>
          simp +contextual (maxSteps:=1000000) only [ai,dI,dT,f0,f1,f2,b9,h_,q7,sa,ag,an,aoB aM,aoG,↓aa,ab,simprocAttr]
         case' neg.inr.inl=>
          have f3:(((a0+1:Nat):Int) < (s.length:Int))=False:=aoV (by omega);simp +contextual (maxSteps:=1000000) only [ai,dI,dT,f0,f1,f2,f3,b9,h_,q7,sa,ag,an,aoB aM,aoG,↓aa,ab,simprocAttr]
         case' neg.inr.inr=>
          have f3:(((a0+1:Nat):Int) < (s.length:Int))=True:=aoU (by omega);simp +contextual (maxSteps:=1000000) only [ai,dI,dT,f0,f1,f2,f3,b9,h_,q7,sa,ag,an,aoB aM,aoB a7,aoG,↓aa,ab,simprocAttr];refine bQ (FX _ _) ?_;rw [av];simp +contextual (maxSteps:=1000000) only [ai,dI,dT,f0,f1,f2,f3,b9,h_,q7,sa,ag,an,aoB aM,aoB a7,aoG,↓aa,ab,simprocAttr]
         all_goals
          refine aY (ak0 _) ?_;rintro x aF ⟨rfl,rfl⟩;simp +contextual only [↓aa,ab,simprocAttr]
          refine gb (fun r ae=>r 0=.ptr b 0/\r 2=.ptr (ao h.next) 0/\r 77=.slice (ao (h.next+1)) 0 17 17/\r 78=.int .i64 17/\∃i:Nat,i<=17/\r 79=.int .i64 i/\ae=(h.new (.bd [.int .i64 0,.int .i64 0,.int .i64 0,.str []] 0 false)).new (.bd Ae 0 false)/\
           gF.find? (·.isPrefixOf (s.drop a0))=(gF.drop i).find? (·.isPrefixOf (s.drop a0))) (fun r ae=>17 - (r 79).toN) ?_ ?_
          . exact ⟨by simp only [↓aa,ab,simprocAttr],by simp only [↓aa,ab,simprocAttr],by simp only [↓aa,ab,simprocAttr],by simp only [r4,↓aa,ab,simprocAttr],0,by omega,by simp only [↓aa,ab,simprocAttr]<;>rfl,rfl,rfl⟩
          . rintro r ae ⟨aW,bc,FC,FD,i,aJ,FE,rfl,od⟩;have Qj:Old ((h.new (.bd [.int .i64 0,.int .i64 0,.int .i64 0,.str []] 0 false)).new (.bd Ae 0 false)) b:=(au.new _).cu dC;have mv:((h.new (.bd [.int .i64 0,.int .i64 0,.int .i64 0,.str []] 0 false)).new (.bd Ae 0 false)).get b=.bd [.str s,.int .i64 a0,.int .i64 0] 0 false:=by rw [(au.new _).get _ dC,ai]
            have sE:(b=ao (h.next+1))=False:=xH dC (by omega);have uZ:(ao (h.next+1)=b)=False:=by rw [<-sE];exact propext aqo
            by_cases kF:i<17
            . have g0:((i:Int)<17)=True:=aoU (by omega);have g1:(0<=(i:Int))=True:=aoU (by omega);rw [Pr _ kF] at od;have hlen:=two _ (apQ (h:=(show i<gF.length from kF)));simp +contextual only [r4,aW,bc,FC,FD,FE,g0,g1,dI,dT,sE,uZ,aoG,aqk,akY kF,↓aa,ab,simprocAttr];refine bQ (Ia s _ (a0:Int) [.int .i64 0] b 0 false _ mv (by omega) (by omega)) ?_;rw [aoG];cases my:(gF[i]'kF).isPrefixOf (s.drop a0) with
              | true=>
                rw [my,aoN rfl] at od;have k7:(gF[i]'kF).length<=s.length-a0:=by rw [apn] at my;have:=my.length_le;rwa [aoZ] at this
                have eH:IntKind.i64.wrap ((a0:Int) + ((gF[i]'kF).length:Int))=((a0 + (gF[i]'kF).length:Nat):Int):=by rw [wrap_i64 (by omega) (by omega)];rfl
                simp +contextual only [r4,aW,bc,FC,FD,FE,g0,g1,eH,dI,dT,sE,uZ,ai,↓aa,ab,simprocAttr];unfold po;rw [od];refine ⟨(((au.new _).mod _).self _).fresh (aoz _) _,_,_,_,rfl,rfl,rfl,rfl,?_,by show a0 + (gF[i]'kF).length<=s.length;omega⟩;simp only [gO,dI,dT,↓aa,ab,simprocAttr]
              | false=>
                rw [my,aoI ao2] at od;have eH:IntKind.i64.wrap ((i:Int)+1)=((i+1:Nat):Int):=by rw [wrap_i64 (by omega) (by omega)];rfl
                simp +contextual only [r4,aW,bc,FC,FD,FE,g0,g1,eH,dI,dT,sE,uZ,ai,↓aa,ab,simprocAttr];exact ⟨⟨i+1,by omega,rfl,od⟩,by omega⟩
            . obtain rfl:i=17:=by omega
              have e9:gF.find? (·.isPrefixOf (s.drop a0))=none:=by rw [od];rfl
              have g0:((17:Int)<17)=False:=aoV (by omega);simp +contextual only [r4,aW,bc,FC,FD,FE,g0,mv,dI,dT,sE,uZ,ai,↓aa,ab,simprocAttr];unfold po;rw [e9];refine ⟨(((au.new _).mod _).self _).fresh (aoz _) _,_,_,_,rfl,by decide,(a0:Int),?_⟩;simp only [gO,dI,dT,↓aa,ab,simprocAttr]
theorem PC (s:List UInt8) (i:Nat):(ByteArray.mk ⟨s⟩).get! i=(s[i]?).getD 0:=by show (Array.mk s)[i]! =_;simp;rfl
theorem Z8 (s:List UInt8) (a:Nat):Lib.decodeGo ⟨⟨s.drop a⟩⟩=if a<s.length then decodeL s a else (65533,0):=by
 unfold Lib.decodeGo decodeL;have bN:(ByteArray.mk ⟨s.drop a⟩).size=s.length-a:=by show (s.drop a).length=_;rw [aoZ]
 have oo:(ByteArray.mk ⟨s⟩).size=s.length:=rfl;by_cases b5:a<s.length
 . rw [aoN b5,aoI (by rw [bN];omega),Lib.decode_at,Lib.decode_at,bN,oo];simp only [PC,apD,apO,aql,aph]
 . rw [aoI b5,aoN (by rw [bN];omega)]
theorem aht {h:ah} {b:aN} {s:List UInt8} {a:Nat} (ay:h.get b=.iter s a):
 xI (.ptr b 0) h=if a<s.length then .val (.tuple [.bool true,.int .i64 a,.int .i32 (decodeL s a).1]) (h.set b (.iter s (a + (decodeL s a).2))) else .val (.tuple [.bool false]) h:=by
 unfold xI;simp only [V.lG,ay];rw [show Nat.beq 0 0=true from rfl];simp only [aoJ];by_cases b5:a<s.length
 . rw [aoN b5,show Nat.blt a s.length=true from by rw [ape];exact b5];rfl
 . rw [aoI b5,show Nat.blt a s.length=false from by rw [<-Bool.not_eq_true,ape];exact b5];rfl
def aeq (s:List UInt8):c_->Nat
 | .iter _ a=>s.length-a
 | _=>0
theorem Z6 (s:List UInt8) (a:Nat):1<=(decodeL s a).2:=by
 unfold decodeL;rw [Lib.decode_at];unfold Lib.decodeN
 repeat' split
 all_goals simp
theorem aks (s:List UInt8) (al:s.length<=100000) (h:ah):dY Tryz.prog 32 [.str s] h fun x ae=>x=.int .i64 (qQ s:Nat)/\Ext h ae:=by
 refine X4.z rfl (cm ?_);unfold NL;simp only [↓aa,ab,simprocAttr];refine gb (fun r ae=>r 0=.str s/\r 8=.ptr (ao h.next) 0/\Ext h ae/\∃a,ae.get (ao h.next)=.iter s a/\qQ s=sM s a) (fun r ae=>aeq s (ae.get (ao h.next))) ?_ ?_
 . exact ⟨by simp only [↓aa,ab,simprocAttr],by simp only [↓aa,ab,simprocAttr],(Ext.refl h).new _,0,by simp only [↓aa,ab,simprocAttr],rfl⟩
 . rintro r ae ⟨aW,gm,au,a,ay,b5⟩;have j5:=aht ay;by_cases a7:a<s.length
   . rw [aoN a7] at j5;have aF:=Z6 s a;by_cases ax:(decodeL s a).1=65533
     . have rl:(((decodeL s a).1:Int)=65533)=True:=aoU (by omega);have f0:(0<=(a:Int))=True:=aoU (by omega);have f1:((a:Int)<=(s.length:Int))=True:=aoU (by omega);simp only [aW,gm,j5,rl,f0,f1,aoG,↓aa,ab,simprocAttr];refine bQ (Z7 _ _) ?_;rw [Z8,aoN a7];by_cases hw:(decodeL s a).2=1
       . have Jd:(((decodeL s a).2:Int)=1)=True:=aoU (by omega);have tt:k0 s a=0:=by unfold k0;rw [aoN (Prod.ext ax hw)]
         rw [SL a7 tt] at b5;simp only [aW,gm,j5,rl,Jd,f0,f1,aoG,↓aa,ab,simprocAttr];rw [b5];exact ⟨rfl,au.set (aoz _) _⟩
       . have Jd:(((decodeL s a).2:Int)=1)=False:=aoV (by omega);have tt:k0 s a=(decodeL s a).2:=by unfold k0;rw [aoI (fun q=>hw (congrArg Prod.snd q))]
         rw [KM a7 (by rw [tt];omega),tt] at b5;simp only [aW,gm,j5,rl,Jd,f0,f1,aoG,↓aa,ab,simprocAttr];refine ⟨⟨au.set (aoz _) _,_,rfl,b5⟩,?_⟩;rw [ay];show s.length - (a + (decodeL s a).2)<s.length-a;omega
     . have rl:(((decodeL s a).1:Int)=65533)=False:=aoV (by omega);have tt:k0 s a=(decodeL s a).2:=by unfold k0;rw [aoI (fun q=>ax (congrArg Prod.fst q))]
       rw [KM a7 (by rw [tt];omega),tt] at b5;simp only [aW,gm,j5,rl,aoG,↓aa,ab,simprocAttr];refine ⟨⟨au.set (aoz _) _,_,rfl,b5⟩,?_⟩;rw [ay];show s.length - (a + (decodeL s a).2)<s.length-a;omega
   . rw [aoI a7] at j5;rw [SM (by omega)] at b5;simp only [aW,gm,j5,aoG,↓aa,ab,simprocAttr];rw [b5];exact ⟨rfl,au⟩
def aq.enc (w:aq):List V:=[.int .i64 w.kind,.int .i64 w.num,.int .i64 w.pos,.str w.text]
def gX:List aq->List V
 | []=>[]
 | w::ws=>w.enc++gX ws
theorem Li:∀a b:List aq,gX (a++b)=gX a++gX b
 | [],b=>rfl
 | w::a,b=>by simp only [gX,aoW,Li a b,api]
theorem Lj:∀a:List aq,(gX a).length=a.length * 4
 | []=>rfl
 | w::a=>by simp only [gX,aoL,Lj a,aoH,aq.enc,aoS];omega
def zZ (ws:List aq):Except (Int × Nat) (List aq)->Except (Int × Nat) (List aq)
 | .ok aR=>.ok (ws++aR)
 | .error e=>.error e
theorem Kr (ws:List aq) (w:aq) (r:Except (Int × Nat) (List aq)):zZ ws (Bf w r)=zZ (ws++[w]) r:=by
 cases r with
 | ok aR=>simp [zZ,Bf]
 | error e=>rfl
theorem Sk (r:Except (Int × Nat) (List aq)):zZ [] r=r:=by cases r<;>rfl
def Gv (s:List UInt8) (h:ah) (x:V) (ae:ah):Prop:=Ext h ae/\match jL s with
 | .ok ws=>∃v,x=.tuple [v,.agg [.int .i64 0,.int .i64 0]]/\dA h.next ae 4 v ws.length (gX ws)
 | .error e=>x=.tuple [.cL,.agg [.int .i64 e.1,.int .i64 e.2]]
theorem Mq (c:UInt8):(0<=Lib.indexByte [9,10,13,32] c)=(blank c=true):=by
 have aM:∀d:UInt8,(d == c)=decide (c=d):=fun d=>by
  by_cases q:c=d
  . subst q;simp
  . have gg:¬d=c:=fun e=>q e.symm;simp [q,gg]
 simp only [Lib.indexByte,aM,blank];by_cases ad:c=9
 . subst ad;decide
 . by_cases ag:c=10
   . subst ag;decide
   . by_cases ar:c=13
     . subst ar;decide
     . by_cases aT:c=32
       . subst aT;decide
       . simp [ad,ag,ar,aT]
theorem agL (s:List UInt8) (h:ah):dY Tryz.prog 13 [.str s] h (Gv s h):=by
 refine Xc.z rfl (cm ?_);unfold MZ;by_cases mZ:(65536:Int) < (s.length:Int)
 . simp only [mZ,↓aa,ab,simprocAttr];refine ⟨((Ext.refl h).new _).set (aoz _) _,?_⟩;unfold jL;rw [aoN (by omega)];rfl
 simp only [mZ,↓aa,ab,simprocAttr];refine aY (aks s (by omega) _) ?_;rintro x ad ⟨rfl,kp⟩;have au:Ext h (h.new (.bd [.int .i64 0,.int .i64 0] 0 false)):=(Ext.refl h).new _;have B_:=au.trans kp;have g1:ad.get (ao h.next)=.bd [.int .i64 0,.int .i64 0] 0 false:=by rw [kp.get _ (jP (by rw [ig];omega))];simp only [↓aa,ab,simprocAttr]
 have Fg:h.next+1<=ad.next:=kp.next
 have jM:(ao ad.next=ao h.next)=False:=by rw [lJ];exact aoV (by omega)
 have fX:(ao h.next=ao ad.next)=False:=by rw [lJ];exact aoV (by omega)
 have pZ:(ad.next=h.next)=False:=aoV (by omega);have p0:(h.next=ad.next)=False:=aoV (by omega);have hlen:¬65536<s.length:=by omega
 by_cases U:qQ s<s.length
 . have qt:((qQ s:Int) < (s.length:Int))=True:=aoU (by omega);simp only [qt,g1,jM,fX,pZ,p0,↓aa,ab,simprocAttr];refine ⟨B_.set (aoz _) _,?_⟩;unfold jL;rw [aoI hlen,aoN U]
 have qt:((qQ s:Int) < (s.length:Int))=False:=aoV (by omega);have l3:jL s=nJ s 0:=by unfold jL;rw [aoI hlen,aoI U]
 simp only [qt,g1,jM,fX,pZ,p0,↓aa,ab,simprocAttr];have zq:Ext h (ad.new (.bd [.str s,.int .i64 0,.int .i64 0] 0 false)):=B_.new _
 refine gb (fun r ae=>r 0=.str s/\r 3=.ptr (ao h.next) 0/\r 5=.ptr (ao ad.next) 0/\∃(a:Nat) (ws:List aq) (v:V),r 6=v/\ae.get (ao ad.next)=.bd [.str s,.int .i64 a,.int .i64 0] 0 false/\a<=s.length/\ws.length<=a/\
  ae.get (ao h.next)=.bd [.int .i64 0,.int .i64 0] 0 false/\Ext h ae/\ad.next+1<=ae.next/\dA (ad.next+1) ae 4 v ws.length (gX ws)/\jL s=zZ ws (nJ (s.drop a) a))
  (fun r ae=>s.length - ((gv (ae.get (ao ad.next)) 1).getD .bad).toN) ?_ ?_
 . refine ⟨by simp only [↓aa,ab,simprocAttr],by simp only [↓aa,ab,simprocAttr],by simp only [↓aa,ab,simprocAttr],0,[],.cL,by simp only [↓aa,ab,simprocAttr],by simp only [↓aa,ab,simprocAttr]<;>rfl,by omega,by simp,by simp only [g1,jM,pZ,fX,p0,↓aa,ab,simprocAttr],zq,?_,⟨rfl,rfl⟩,?_⟩
   . rw [ig];exact aoz _
   . rw [l3,apm,Sk]
 . rintro r ae ⟨aW,bV,b1,a,ws,v,dS,ay,c8,kw,bN,tN,j5,dU,br⟩;have dC:Old ae (ao ad.next):=jP (by omega);by_cases fD:(s.length:Int)<=(a:Int)
   . have b5:a=s.length:=by omega
     have adm:jL s=.ok ws:=by rw [br,b5,ap3];show Except.ok (ws++[])=_;rw [aoX]
     simp only [aW,bV,b1,dS,ay,bN,fD,jM,fX,pZ,p0,↓aa,ab,simprocAttr];refine ⟨tN.set (aoz _) _,?_⟩;rw [adm];refine ⟨v,rfl,?_⟩;have:=dU.mod ((Mod.refl (fun q=>q=ao h.next) ae).self (.bd [.int .i64 0,.int .i64 0] 0 false)) (fun q aH e=>by have ag:=dU.base aH;rw [show q=ao h.next from e,dh] at ag;omega);exact this.mono (by omega)
   . have a7:a<s.length:=by omega
     rw [drop_cons a7,JB,<-drop_cons a7] at br;have f0:(0<=(a:Int))=True:=aoU (by omega);have f1:((a:Int) < (s.length:Int))=True:=aoU (by omega);have b9:IntKind.i64.wrap ((a:Int)+1)=((a+1:Nat):Int):=by rw [wrap_i64 (by omega) (by omega)];rfl
     simp only [aW,bV,b1,dS,ay,bN,fD,jM,fX,pZ,p0,f0,f1,aoB a7,aoG,↓aa,ab,simprocAttr];refine bQ (QK _ _ _) ?_;rw [Ty];by_cases rk:blank s[a]=true
     . have ts:(0<=Lib.indexByte [9,10,13,32] s[a])=True:=by rw [Mq,rk];exact eq_self _
       rw [aoN rk] at br;simp only [ts,b9,aW,bV,b1,dS,ay,bN,fD,jM,fX,pZ,p0,f0,f1,aoB a7,aoG,↓aa,ab,simprocAttr];refine ⟨⟨a+1,ws,rfl,by omega,by omega,tN.set (by omega) _,j5,?_,br⟩,by omega⟩;exact dU.mod ((Mod.refl (fun q=>q=ao ad.next) ae).self _) (fun q aH e=>by have ag:=dU.base aH;rw [show q=ao ad.next from e,dh] at ag;omega)
     . have ts:(0<=Lib.indexByte [9,10,13,32] s[a])=False:=by rw [Mq];exact aoV rk
       rw [aoI rk] at br;simp only [ts,b9,aW,bV,b1,dS,ay,bN,fD,jM,fX,pZ,p0,f0,f1,aoB a7,aoG,↓aa,ab,simprocAttr];have rz:=Ia s [40,42] (a:Int) [.int .i64 0] (ao ad.next) 0 false ae ay (by omega) (by omega);rw [aoG] at rz;refine bQ rz ?_;cases my:([40,42]:List UInt8).isPrefixOf (s.drop a) with
       | true=>
         rw [my,aoN rfl] at br;simp only [b9,aW,bV,b1,dS,ay,bN,fD,jM,fX,pZ,p0,f0,f1,aoB a7,aoG,↓aa,ab,simprocAttr];refine aY (ahy s a 0 (ao ad.next) ae ay c8 (by omega) dC) ?_;rintro x ag ⟨rfl,hm,aI⟩;have oo:ag.get (ao h.next)=.bd [.int .i64 0,.int .i64 0] 0 false:=by rw [hm.get _ (jP (by omega)) (by rw [fX];exact id),bN]
         have EN:Ext h ag:=tN.kL hm (fun b ai=>by rw [show b=ao ad.next from ai,dh];omega);have sH:=hm.next
         have ht:=dU.mod hm (fun q aH e=>by have ag:=dU.base aH;rw [show q=ao ad.next from e,dh] at ag;omega);cases xc:hp (s.drop a) 0 with
         | some n=>
           rw [xc] at aI br;obtain ⟨g2,hle⟩:=aI;have tG:=CE xc;unfold gO at g2;simp only [b9,aW,bV,b1,dS,g2,ay,oo,fD,jM,fX,pZ,p0,f0,f1,aoB a7,aoG,↓aa,ab,simprocAttr];refine ⟨⟨a+n,ws,rfl,hle,by omega,EN,by omega,ht,?_⟩,by omega⟩;rw [br];simp only [apv]
         | none=>
           rw [xc] at aI br;unfold gO at aI;simp only [b9,aW,bV,b1,dS,aI,ay,oo,fD,jM,fX,pZ,p0,f0,f1,aoB a7,aoG,↓aa,ab,simprocAttr];refine ⟨EN.set (aoz _) _,?_⟩;rw [br];rfl
       | false=>
         rw [my,aoI ao2] at br;simp only [b9,aW,bV,b1,dS,ay,bN,fD,jM,fX,pZ,p0,f0,f1,aoB a7,aoG,↓aa,ab,simprocAttr];refine aY (ahv s a (ao ad.next) ae ay a7 (by omega) dC) ?_;rintro x ag w;obtain ⟨hm,k,n,t,rfl,a8⟩:=w;have oo:ag.get (ao h.next)=.bd [.int .i64 0,.int .i64 0] 0 false:=by rw [hm.get _ (jP (by omega)) (by rw [fX];exact id),bN]
         have EN:Ext h ag:=tN.kL hm (fun b ai=>by rw [show b=ao ad.next from ai,dh];omega);have sH:=hm.next
         have ht:=dU.mod hm (fun q aH e=>by have ag:=dU.base aH;rw [show q=ao ad.next from e,dh] at ag;omega);have m0:(ao ag.next=ao h.next)=False:=by rw [lJ];exact aoV (by omega)
         have m1:(ao ag.next=ao ad.next)=False:=by rw [lJ];exact aoV (by omega)
         have Ro:(ag.next=h.next)=False:=aoV (by omega);have Rp:(ag.next=ad.next)=False:=aoV (by omega);have EO:Ext ag (((ag.new (.bd [.int .i64 0,.int .i64 0,.int .i64 0,.str []] 0 false)).set (ao ag.next) (.bd [.int .i64 k,.int .i64 n,.int .i64 0,.str t] 0 false)).set (ao ag.next) (.bd [.int .i64 k,.int .i64 n,.int .i64 a,.str t] 0 false)):=(((Ext.refl ag).new _).set (aoz _) _).set (aoz _) _;obtain ⟨v3,ar,an,av,aB,bt,ca⟩:=AU (cs:=[.int .i64 k,.int .i64 n,.int .i64 a,.str t]) (by omega) (ht.ext EO) (by simp only [iO,ig];omega) (by unfold top;omega) rfl rfl;simp only [iO,ig] at an bt;have QE:Ext h ar:=(EN.trans EO).kL aB (fun b ai=>aoF (by omega) (ht.base ai));have vp:ar.get (ao h.next)=.bd [.int .i64 0,.int .i64 0] 0 false:=by rw [aB.get _ (jP (by simp only [iO,ig];omega)) (fun aH=>by have:=ht.base aH;rw [dh] at this;omega),EO.get _ (jP (by omega)),oo]
         have kn:ar.get (ao ad.next)=ag.get (ao ad.next):=by rw [aB.get _ (jP (by simp only [iO,ig];omega)) (fun aH=>by have:=ht.base aH;rw [dh] at this;omega),EO.get _ (jP (by omega))]
         cases j5:gd (s.drop a) with
         | ok q=>
           have tG:=CC j5;rw [j5] at a8 br;obtain ⟨rfl,rfl,rfl,g2,hle⟩:=a8;unfold gO at g2;rw [g2] at kn;simp only [an,m0,m1,Ro,Rp,b9,aW,bV,b1,dS,g2,kn,ay,oo,fD,jM,fX,pZ,p0,f0,f1,aoB a7,aoG,↓aa,ab,simprocAttr];refine ⟨⟨a+q.2.2.2,ws++[⟨q.1,q.2.1,a,q.2.2.1⟩],rfl,hle,by simp;omega,vp,QE,by omega,?_,?_⟩,by omega⟩
           . rw [aoL,Li];exact av
           . rw [br,Kr];simp only [apv]
         | error e=>
           rw [j5] at a8 br;obtain ⟨he,bF,g2⟩:=a8;unfold gO at g2;rw [g2] at kn;simp only [he,an,m0,m1,Ro,Rp,b9,aW,bV,b1,dS,g2,kn,vp,ay,oo,fD,jM,fX,pZ,p0,f0,f1,aoB a7,aoG,↓aa,ab,simprocAttr];refine ⟨QE.set (aoz _) _,?_⟩;rw [br];rfl
def e0 (s:List UInt8) (at' cP e:Int) (out:V):c_:=.bd [.str s,.int .i64 at',.int .i64 cP,.int .i64 e,out] 0 false
theorem akh (s:List UInt8) (a0:Nat) (cP:Int) (ej:Int) (out:V) (b:aN) (h:ah) (ai:h.get b=e0 s a0 cP ej out) (aM:a0<=s.length) (al:s.length<=100000) (dC:Old h b):
 dY Tryz.prog 110 [.ptr b 0] h fun x ae=>x=.tuple []/\Mod (fun x=>x=b) h ae/\(match hp (s.drop a0) 0 with
  | some n=>ae.get b=e0 s ((a0+n:Nat):Int) cP ej out/\a0+n<=s.length
  | none=>ae.get b=e0 s (s.length:Int) cP 253 out):=by
 refine WU.z rfl (cm ?_);unfold MJ;unfold e0 at ai ⊢;simp +contextual only [ai,↓aa,ab,simprocAttr]
 refine gb (fun r ae=>∃(a:Nat) (d:Int),a0<=a/\a<=s.length/\r 0=.ptr b 0/\r 2=.int .i64 d/\ae.get b=.bd [.str s,.int .i64 a,.int .i64 cP,.int .i64 ej,out] 0 false/\Mod (fun x=>x=b) h ae/\-(a:Int)<=d/\d<=a/\
  hp (s.drop a0) 0=(hp (s.drop a) d).map (· + (a-a0))) (fun r ae=>s.length - ((gv (ae.get b) 1).getD .bad).toN) ?_ ?_
 . refine ⟨a0,0,aoz _,aM,?_⟩;simp only [↓aa,ab,simprocAttr];refine ⟨ai,Mod.refl _ _,by omega,by omega,?_⟩;rw [apY];cases hp (s.drop a0) 0<;>rfl
 . rintro r ae ⟨a,d,hQ,c8,aW,bc,ay,hm,d0,d1,br⟩;by_cases fD:¬((a:Int) < (s.length:Int))
   . have b5:a=s.length:=by omega
     have aI:hp (s.drop a) d=none:=by rw [b5,ap3];rfl
     rw [aI] at br;simp +contextual only [aW,bc,ay,fD,↓aa,ab,simprocAttr];rw [br];refine ⟨hm.set (fun _=>rfl) _,?_⟩;simp only [b5,Option.map_none,ey,aoM]
   . replace fD:((a:Int) < (s.length:Int)):=by omega
     have d':s.drop a≠[]:=by intro q;rw [List.drop_eq_nil_iff] at q;omega
     have rz:∀p:List UInt8,p.length<=100000->e5 Tryz.prog 109 [.ptr b 0,.str p] ae (.bool (p.isPrefixOf (s.drop a))) ae:=fun p aF=>by have:=K1 s p (a:Int) [.int .i64 cP,.int .i64 ej,out] b 0 false ae ay (by omega) (by omega) al aF;simpa using this
     have j8:=RF (s.drop a) d d';simp +contextual only [aW,bc,ay,fD,↓aa,ab,simprocAttr];refine bQ (rz _ (by decide)) ?_;cases j6:([40,42]:List UInt8).isPrefixOf (s.drop a) with
     | true=>
       have ag:=Fx j6;rw [aoZ] at ag;rw [j6,aoN rfl] at j8;have b9:IntKind.i64.wrap (d+1)=d+1:=wrap_i64 (by omega) (by omega);have aR:IntKind.i64.wrap ((a:Int)+2)=((a+2:Nat):Int):=by rw [wrap_i64 (by omega) (by omega)];rfl
       simp +contextual only [aW,bc,ay,b9,aR,↓aa,ab,simprocAttr];refine ⟨⟨a+2,d+1,by omega,by omega,rfl,rfl,hm.set (fun _=>rfl) _,by omega,by omega,?_⟩,by omega⟩;rw [br,j8,apv,apN];congr 1;funext q;simp only [Function.comp];omega
     | false=>
       rw [j6,aoI (by decide)] at j8;simp +contextual only [aW,bc,ay,↓aa,ab,simprocAttr];refine bQ (rz _ (by decide)) ?_;cases h1:([42,41]:List UInt8).isPrefixOf (s.drop a) with
       | true=>
         have ag:=Fx h1;rw [aoZ] at ag;rw [h1,aoN rfl] at j8;have b9:IntKind.i64.wrap (d-1)=d-1:=wrap_i64 (by omega) (by omega);have aR:IntKind.i64.wrap ((a:Int)+2)=((a+2:Nat):Int):=by rw [wrap_i64 (by omega) (by omega)];rfl
         by_cases bk:d-1=0
         . rw [aoN bk] at j8;obtain rfl:d=1:=by omega
           have aA:IntKind.i64.wrap 0=0:=rfl;simp +contextual only [aW,bc,ay,aA,aR,↓aa,ab,simprocAttr];rw [br,j8];refine ⟨hm.set (fun _=>rfl) _,?_⟩;simp only [apu,ey,aoM];refine ⟨?_,by omega⟩;rw [show a0 + (2 + (a-a0))=a+2 from by omega]
         . rw [aoI bk] at j8;simp +contextual only [aW,bc,ay,b9,aR,bk,↓aa,ab,simprocAttr];refine ⟨⟨a+2,d-1,by omega,by omega,rfl,rfl,hm.set (fun _=>rfl) _,by omega,by omega,?_⟩,by omega⟩;rw [br,j8,apv,apN];congr 1;funext q;simp only [Function.comp];omega
       | false=>
         rw [h1,aoI (by decide)] at j8;have aR:IntKind.i64.wrap ((a:Int)+1)=((a+1:Nat):Int):=by rw [wrap_i64 (by omega) (by omega)];rfl
         simp +contextual only [aW,bc,ay,aR,↓aa,ab,simprocAttr];refine ⟨⟨a+1,d,by omega,by omega,rfl,rfl,hm.set (fun _=>rfl) _,by omega,by omega,?_⟩,by omega⟩;rw [br,j8,apv,apN];congr 1;funext q;simp only [Function.comp];omega
def kr (c:Int):Int × Int:=if c<128 then (1,0) else if gQ c 192 223 then (2,128) else if gQ c 224 239 then (3,2048) else if gQ c 240 247 then (4,65536) else (0,0)
theorem agR (c:Int) (h:ah):e5 Tryz.prog 152 [.int .u8 c] h (.tuple [.int .i64 (kr c).1,.int .i64 (kr c).2]) h:=by
 refine je (Xj.z rfl (cm ?_));unfold M';unfold kr;by_cases ad:c<128
 . simp +contextual only [ad,↓aa,ab,simprocAttr]
 simp +contextual only [ad,↓aa,ab,simprocAttr];refine bQ (oD _ _ _ _) ?_;cases ag:gQ c 192 223 with
 | true=>simp +contextual only [↓aa,ab,simprocAttr]
 | false=>
   simp +contextual only [aoA,↓aa,ab,simprocAttr];refine bQ (oD _ _ _ _) ?_;cases ar:gQ c 224 239 with
   | true=>simp +contextual only [↓aa,ab,simprocAttr]
   | false=>
     simp +contextual only [aoA,↓aa,ab,simprocAttr];refine bQ (oD _ _ _ _) ?_;cases aT:gQ c 240 247 with
     | true=>simp +contextual only [↓aa,ab,simprocAttr]
     | false=>simp +contextual only [aoA,↓aa,ab,simprocAttr]
def r8 (s:List UInt8) (a:Nat):Nat->Nat->Int->Option Int
 | 0,_,x=>some x
 | k+1,i,x=>if gQ ((s[a+i]?.getD 0).toNat:Int) 128 191 then r8 s a k (i+1) (64 * x + ((s[a+i]?.getD 0).toNat:Int)-128) else none
def wB (n least:Int):Option Int->Int
 | none=>0
 | some x=>if x<least\/1114111<x\/(55296<=x/\x<=57343) then 0 else n
def Ba (s:List UInt8) (a:Nat):Int:=
 let c:=((s[a]?.getD 0).toNat:Int)
 let n:=(kr c).1
 if n=0\/(s.length:Int)<a+n then 0 else if n=1 then 1 else wB n (kr c).2 (r8 s a (n-1).toNat 1 (c.tmod (2 ^ (7-n).toNat)))
def r' (d:Nat × Nat):Nat:=if d=(65533,1) then 0 else d.2
theorem ZX (x:Nat):r' (x,2)=2:=by unfold r';rw [aoI (by simp)]
theorem ZY (x:Nat):r' (x,3)=3:=by unfold r';rw [aoI (by simp)]
theorem ZZ (x:Nat):r' (x,4)=4:=by unfold r';rw [aoI (by simp)]
theorem ZW (x:Nat) (h:x<128):r' (x,1)=1:=by unfold r';rw [aoI (by simp;omega)]
theorem Ou (s:List UInt8) (a:Nat) (b5:a<s.length):Ba s a=k0 s a:=by
 have ai:∀i:Nat,((s[i]?).getD 0).toNat<256:=fun i=>UInt8.toNat_lt _;have tt:k0 s a=r' (decodeL s a):=rfl;rw [tt];unfold decodeL;rw [Lib.decode_at];have oo:(ByteArray.mk ⟨s⟩).size=s.length:=rfl;simp only [oo,PC];have a':=ai a;have bT:=ai (a+1);have c2:=ai (a+2);have h9:=ai (a+3);have bs:a + (1+1)=a+2:=rfl;have cT:a + (1+1+1)=a+3:=rfl;have fX:((2:Int)-1).toNat=1:=rfl;have lE:((3:Int)-1).toNat=2:=rfl;have n3:((4:Int)-1).toNat=3:=rfl;have m2:((7:Int)-2).toNat=5:=rfl;have m3:((7:Int)-3).toNat=4:=rfl;have m4:((7:Int)-4).toNat=3:=rfl;generalize gL:s.length=L at b5 ⊢;have case:∀cG dr fo h6:Nat,(s[a]?.getD 0).toNat=cG->(s[a+1]?.getD 0).toNat=dr->(s[a+2]?.getD 0).toNat=fo->(s[a+3]?.getD 0).toNat=h6->Ba s a=r' (Lib.decodeN (L-a) cG dr fo h6):=by
  intro cG dr fo h6 aM ad ag ar;rw [aM] at a';rw [ad] at bT;rw [ag] at c2;rw [ar] at h9;unfold Ba kr;simp only [aM,gL];by_cases cf:cG<128
  . have A8:(cG:Int)<128:=by omega
    simp only [A8,aoM];unfold Lib.decodeN;rw [aoI (by omega),aoN cf,ZW _ cf];rfl
  have A8:¬(cG:Int)<128:=by omega
  simp only [A8,aoK];by_cases c6:gQ (cG:Int) 192 223=true
  . simp only [c6,aoM,fX,m2,r8,ad];simp only [gQ,aoE,aoO] at c6 ⊢;have em:(cG:Int).tmod (2 ^ 5)=((cG % 32:Nat):Int):=Int.ofNat_tmod _ _ |>.symm;rw [em];unfold Lib.decodeN;rw [aoI cf];by_cases g1:(L:Int)<a+2
    . rw [aoN (Or.inr g1),aoI (by omega),aoI (by omega),aoI (by omega)];rfl
    . rw [aoI (by omega),aoI (by omega)];by_cases g2:(128:Int)<=dr/\(dr:Int)<=191
      . rw [aoN g2,aoN (by omega)];simp only [wB];by_cases g3:cG % 32 * 64+dr % 64>=128
        . rw [aoN g3,aoI (by omega),ZX];rfl
        . rw [aoI g3,aoN (by omega)];rfl
      . rw [aoI g2,aoI (by omega),aoI (by omega),aoI (by omega)];rfl
  simp only [c6,aoA,aoK];by_cases c3:gQ (cG:Int) 224 239=true
  . simp only [c3,aoM,lE,m3,r8,ad,bs,ag];simp only [gQ,aoE,aoO] at c6 c3 ⊢;have em:(cG:Int).tmod (2 ^ 4)=((cG % 16:Nat):Int):=Int.ofNat_tmod _ _ |>.symm;rw [em];have bk:Lib.decodeN (L-a) cG dr fo h6=if (1<L-a/\dr / 64=2)/\2<L-a/\fo / 64=2 then (if cG % 16 * 4096+dr % 64 * 64+fo % 64>=2048/\(cG % 16 * 4096+dr % 64 * 64+fo % 64<55296\/(57344<=cG % 16 * 4096+dr % 64 * 64+fo % 64/\cG % 16 * 4096+dr % 64 * 64+fo % 64<=1114111)) then (cG % 16 * 4096+dr % 64 * 64+fo % 64,3) else (65533,1)) else (65533,1):=by
     unfold Lib.decodeN;rw [aoI cf,aoI (by omega)];by_cases mr:(1<L-a/\dr / 64=2)/\2<L-a/\fo / 64=2
     . rw [aoN ⟨by omega,mr⟩,aoN mr]
     . rw [aoI (fun q=>mr q.2),aoI (by omega),aoI mr]
    rw [bk];by_cases g1:(L:Int)<a+3
    . rw [aoN (Or.inr g1),aoI (by omega)];rfl
    . rw [aoI (show ¬((3:Int)=0\/(L:Int)<a+3) from by omega),aoI (show ¬(3:Int)=1 from by omega)];by_cases g2:(128:Int)<=dr/\(dr:Int)<=191
      . rw [aoN g2];by_cases g4:(128:Int)<=fo/\(fo:Int)<=191
        . rw [aoN g4,aoN (show (1<L-a/\dr / 64=2)/\2<L-a/\fo / 64=2 from by omega)];simp only [wB];by_cases g3:cG % 16 * 4096+dr % 64 * 64+fo % 64>=2048/\(cG % 16 * 4096+dr % 64 * 64+fo % 64<55296\/(57344<=cG % 16 * 4096+dr % 64 * 64+fo % 64/\cG % 16 * 4096+dr % 64 * 64+fo % 64<=1114111))
          . rw [aoN g3,aoI (by omega),ZY];rfl
          . rw [aoI g3,aoN (by omega)];rfl
        . rw [aoI g4,aoI (show ¬((1<L-a/\dr / 64=2)/\2<L-a/\fo / 64=2) from by omega)];rfl
      . rw [aoI g2,aoI (show ¬((1<L-a/\dr / 64=2)/\2<L-a/\fo / 64=2) from by omega)];rfl
  simp only [c3,aoA,aoK];by_cases hj:gQ (cG:Int) 240 247=true
  . simp only [hj,aoM,n3,m4,r8,ad,bs,ag,cT,ar];simp only [gQ,aoE,aoO] at c6 c3 hj ⊢;have em:(cG:Int).tmod (2 ^ 3)=((cG % 8:Nat):Int):=Int.ofNat_tmod _ _ |>.symm;rw [em];have bk:Lib.decodeN (L-a) cG dr fo h6=if (1<L-a/\dr / 64=2)/\(2<L-a/\fo / 64=2)/\3<L-a/\h6 / 64=2 then (if cG % 8 * 262144+dr % 64 * 4096+fo % 64 * 64+h6 % 64>=65536/\(cG % 8 * 262144+dr % 64 * 4096+fo % 64 * 64+h6 % 64<55296\/(57344<=cG % 8 * 262144+dr % 64 * 4096+fo % 64 * 64+h6 % 64/\cG % 8 * 262144+dr % 64 * 4096+fo % 64 * 64+h6 % 64<=1114111)) then (cG % 8 * 262144+dr % 64 * 4096+fo % 64 * 64+h6 % 64,4) else (65533,1)) else (65533,1):=by
     unfold Lib.decodeN;rw [aoI cf,aoI (by omega),aoI (by omega)];by_cases mr:(1<L-a/\dr / 64=2)/\(2<L-a/\fo / 64=2)/\3<L-a/\h6 / 64=2
     . rw [aoN ⟨by omega,mr⟩,aoN mr]
     . rw [aoI (fun q=>mr q.2),aoI mr]
    rw [bk];by_cases g1:(L:Int)<a+4
    . rw [aoN (Or.inr g1),aoI (by omega)];rfl
    . rw [aoI (show ¬((4:Int)=0\/(L:Int)<a+4) from by omega),aoI (show ¬(4:Int)=1 from by omega)];by_cases g2:(128:Int)<=dr/\(dr:Int)<=191
      . rw [aoN g2];by_cases g4:(128:Int)<=fo/\(fo:Int)<=191
        . rw [aoN g4];by_cases g5:(128:Int)<=h6/\(h6:Int)<=191
          . rw [aoN g5,aoN (show (1<L-a/\dr / 64=2)/\(2<L-a/\fo / 64=2)/\3<L-a/\h6 / 64=2 from by omega)];simp only [wB];by_cases g3:cG % 8 * 262144+dr % 64 * 4096+fo % 64 * 64+h6 % 64>=65536/\(cG % 8 * 262144+dr % 64 * 4096+fo % 64 * 64+h6 % 64<55296\/(57344<=cG % 8 * 262144+dr % 64 * 4096+fo % 64 * 64+h6 % 64/\cG % 8 * 262144+dr % 64 * 4096+fo % 64 * 64+h6 % 64<=1114111))
            . rw [aoN g3,aoI (by omega),ZZ];rfl
            . rw [aoI g3,aoN (by omega)];rfl
          . rw [aoI g5,aoI (show ¬((1<L-a/\dr / 64=2)/\(2<L-a/\fo / 64=2)/\3<L-a/\h6 / 64=2) from by omega)];rfl
        . rw [aoI g4,aoI (show ¬((1<L-a/\dr / 64=2)/\(2<L-a/\fo / 64=2)/\3<L-a/\h6 / 64=2) from by omega)];rfl
      . rw [aoI g2,aoI (show ¬((1<L-a/\dr / 64=2)/\(2<L-a/\fo / 64=2)/\3<L-a/\h6 / 64=2) from by omega)];rfl
  simp only [hj,aoA,aoK];simp only [gQ,aoE,aoO] at c6 c3 hj;rw [aoN (Or.inl trivial)];unfold Lib.decodeN;rw [aoI cf,aoI (by omega),aoI (by omega),aoI (by omega)];rfl
 exact case _ _ _ _ rfl rfl rfl rfl
theorem Zh (s:List UInt8) (a:Nat) (b5:a<s.length) (al:s.length<=100000) (h:ah):e5 Tryz.prog 108 [.str s,.int .i64 a] h (.int .i64 (k0 s a)) h:=by
 rw [<-Ou s a b5];refine je (WR.z rfl (cm ?_));unfold MG;have f0:(0<=(a:Int))=True:=aoU (by omega);have f1:((a:Int) < (s.length:Int))=True:=aoU (by omega);simp +contextual only [f0,f1,aoG,↓aa,ab,simprocAttr];refine bQ (agR _ _) ?_;have aI:(kr ((s[a]?.getD 0).toNat:Int)).1=0\/(kr ((s[a]?.getD 0).toNat:Int)).1=1\/(kr ((s[a]?.getD 0).toNat:Int)).1=2\/(kr ((s[a]?.getD 0).toNat:Int)).1=3\/(kr ((s[a]?.getD 0).toNat:Int)).1=4:=by
  unfold kr
  repeat' split
  all_goals simp
 have hle:0<=(kr ((s[a]?.getD 0).toNat:Int)).2:=by
  unfold kr
  repeat' split
  all_goals simp
 have acq:Ba s a=if (kr ((s[a]?.getD 0).toNat:Int)).1=0\/(s.length:Int)<a + (kr ((s[a]?.getD 0).toNat:Int)).1 then 0 else if (kr ((s[a]?.getD 0).toNat:Int)).1=1 then 1 else wB (kr ((s[a]?.getD 0).toNat:Int)).1 (kr ((s[a]?.getD 0).toNat:Int)).2 (r8 s a ((kr ((s[a]?.getD 0).toNat:Int)).1-1).toNat 1 (((s[a]?.getD 0).toNat:Int).tmod (2 ^ (7 - (kr ((s[a]?.getD 0).toNat:Int)).1).toNat))):=rfl;rw [acq];have anx:(s[a]?.getD 0).toNat<256:=UInt8.toNat_lt _;generalize (kr ((s[a]?.getD 0).toNat:Int)).2=least at *;generalize cQ:(kr ((s[a]?.getD 0).toNat:Int)).1=n at *;generalize pI:(s[a]?.getD 0).toNat=c at *;have wn:IntKind.i64.wrap ((a:Int)+n)=(a:Int)+n:=wrap_i64 (by omega) (by omega);have F5:IntKind.i64.wrap (c:Int)=(c:Int):=wrap_i64 (by omega) (by omega);by_cases aM:n=0
 . rw [aoN (Or.inl aM)];simp +contextual only [wn,aM,↓aa,ab,simprocAttr]
 by_cases mZ:(s.length:Int) < (a:Int)+n
 . rw [aoN (Or.inr mZ)];simp +contextual only [wn,aM,mZ,↓aa,ab,simprocAttr]
 rw [aoI (by omega)];by_cases ad:n=1
 . rw [aoN ad];subst ad;simp +contextual only [wn,aM,mZ,↓aa,ab,simprocAttr]
 rw [aoI ad];obtain ⟨k,nr,rN,aD,za,xj,ads,tG,adL⟩:∃(k:Nat) (nr rN:Int),2<=k/\n=k/\IntKind.i64.wrap (7-n)=nr/\((fp.shl).run Tryz.prog (.int .i64 1) (.int .i64 nr)=some (.int .i64 rN))/\(rN≠0/\rN<=32/\1<=rN)/\(2:Int) ^ (7-n).toNat=rN:=by
  rcases aI with q | q | q | q | q
  . exact absurd q aM
  . exact absurd q ad
  . subst q;exact ⟨2,5,32,by omega,rfl,rfl,rfl,by decide,rfl⟩
  . subst q;exact ⟨3,4,16,by omega,rfl,rfl,rfl,by decide,rfl⟩
  . subst q;exact ⟨4,3,8,by omega,rfl,rfl,rfl,by decide,rfl⟩
 rw [adL];have zf:(fp.int .rem).run Tryz.prog (.int .i64 (c:Int)) (.int .i64 rN)=some (.int .i64 ((c:Int).tmod rN)):=Jr .i64 _ _ tG.1;have vj:k<=4:=by omega
 have jH:0<=(c:Int).tmod rN:=Int.tmod_nonneg _ (by omega);have jI:(c:Int).tmod rN<64:=Int.lt_of_lt_of_le (Int.tmod_lt_of_pos _ (by omega)) (by omega);generalize (c:Int).tmod rN=cG at *;simp +contextual only [wn,F5,aM,ad,mZ,xj,ads,zf,f0,f1,pI,aoG,↓aa,ab,simprocAttr];refine gb (fun r ae=>ae=h/\r 0=.str s/\r 1=.int .i64 a/\r 5=.int .i64 n/\r 6=.int .i64 least/\∃(i:Nat) (x:Int),r 8=.int .i64 i/\r 7=.int .i64 x/\1<=i/\i<=k/\0<=x/\((i=1/\x<64)\/(i=2/\x<4096)\/(i=3/\x<262144)\/(i=4/\x<16777216))/\r8 s a (n-1).toNat 1 cG=r8 s a (k-i) i x) (fun r ae=>k - (r 8).toN) ?_ ?_
 . refine ⟨rfl,by simp only [↓aa,ab,simprocAttr],by simp only [↓aa,ab,simprocAttr],by simp only [↓aa,ab,simprocAttr],by simp only [↓aa,ab,simprocAttr],1,cG,by simp only [↓aa,ab,simprocAttr]<;>rfl,by simp only [↓aa,ab,simprocAttr],by omega,by omega,jH,.inl ⟨rfl,jI⟩,?_⟩;rw [show (n-1).toNat=k-1 from by omega]
 . rintro r ae ⟨rfl,aW,cJ,b1,dS,i,x,gm,fg,i1,anQ,aoo,aot,br⟩;by_cases aJ:i<k
   . have g0:((i:Int)<n)=True:=aoU (by omega);have g1:(0<=(a:Int) + (i:Int))=True:=aoU (by omega);have g2:((a:Int) + (i:Int) < (s.length:Int))=True:=aoU (by omega);have kS:IntKind.i64.wrap ((a:Int) + (i:Int))=(a:Int) + (i:Int):=wrap_i64 (by omega) (by omega);have aS:((a:Int) + (i:Int)).toNat=a+i:=by omega
     rw [show k-i=k - (i+1)+1 from by omega] at br;simp only [r8] at br;simp +contextual only [aW,cJ,b1,dS,gm,fg,g0,g1,g2,kS,aS,↓aa,ab,simprocAttr];refine bQ (oD _ _ _ _) ?_;have anz:(s[a+i]?.getD 0).toNat<256:=UInt8.toNat_lt _;cases Jf:gQ ((s[a+i]?.getD 0).toNat:Int) 128 191 with
     | true=>
       rw [Jf,aoN rfl] at br;simp only [gQ,aoE,aoO] at Jf;generalize w4:(s[a+i]?.getD 0).toNat=d at *;have v1:IntKind.i64.wrap (64 * x)=64 * x:=wrap_i64 (by omega) (by omega);have v2:IntKind.i64.wrap (d:Int)=d:=wrap_i64 (by omega) (by omega);have v3:IntKind.i64.wrap (64 * x+d)=64 * x+d:=wrap_i64 (by omega) (by omega);have v4:IntKind.i64.wrap (64 * x+d-128)=64 * x+d-128:=wrap_i64 (by omega) (by omega);have v5:IntKind.i64.wrap ((i:Int)+1)=((i+1:Nat):Int):=by rw [wrap_i64 (by omega) (by omega)];rfl
       simp +contextual only [aW,cJ,b1,dS,gm,fg,g0,g1,g2,kS,aS,w4,v1,v2,v3,v4,v5,↓aa,ab,simprocAttr];exact ⟨⟨i+1,64 * x+d-128,rfl,rfl,by omega,by omega,by omega,by omega,br⟩,by omega⟩
     | false=>
       rw [Jf,aoI ao2] at br;rw [br];simp +contextual only [aW,cJ,b1,dS,gm,fg,g0,g1,g2,kS,aS,↓aa,ab,simprocAttr];rfl
   . obtain rfl:i=k:=by omega
     have g0:((i:Int)<n)=False:=aoV (by omega);rw [apY] at br;rw [br];simp only [r8,wB];by_cases an:x<least
     . rw [aoN (Or.inl an)];simp +contextual only [aW,cJ,b1,dS,gm,fg,g0,an,↓aa,ab,simprocAttr]
     . by_cases av:1114111<x
       . rw [aoN (Or.inr (Or.inl av))];simp +contextual only [aW,cJ,b1,dS,gm,fg,g0,an,av,↓aa,ab,simprocAttr]
       . by_cases aB:55296<=x
         . by_cases bt:x<=57343
           . rw [aoN (Or.inr (Or.inr ⟨aB,bt⟩))];simp +contextual only [aW,cJ,b1,dS,gm,fg,g0,an,av,aB,bt,↓aa,ab,simprocAttr]
           . rw [aoI (by omega)];simp +contextual only [aW,cJ,b1,dS,gm,fg,g0,an,av,aB,bt,↓aa,ab,simprocAttr]
         . rw [aoI (by omega)];simp +contextual only [aW,cJ,b1,dS,gm,fg,g0,an,av,aB,↓aa,ab,simprocAttr]
theorem Z0 (s:List UInt8) (a:Nat) (b5:a<s.length):a+k0 s a<=s.length:=by
 have h:=Ou s a b5;by_cases bN:k0 s a=0
 . omega
 . unfold Ba at h;simp only at h
   split at h
   . omega
   . rename_i q
     split at h
     . omega
     . unfold wB at h
       split at h
       . omega
       . split at h<;>omega
theorem SD (s:List UInt8) (al:s.length<=100000) (h:ah):e5 Tryz.prog 58 [.str s] h (.int .i64 (qQ s:Nat)) h:=by
 refine je (Yj.z rfl (cm ?_));unfold NY;simp +contextual only [↓aa,ab,simprocAttr];refine gb (fun r ae=>ae=h/\r 0=.str s/\∃(a:Nat),r 3=.int .i64 a/\a<=s.length/\qQ s=sM s a) (fun r ae=>s.length - (r 3).toN) ?_ ?_
 . exact ⟨rfl,by simp only [↓aa,ab,simprocAttr],0,by simp only [↓aa,ab,simprocAttr]<;>rfl,by omega,rfl⟩
 . rintro r ae ⟨rfl,aW,a,bV,b5,br⟩;by_cases a7:a<s.length
   . have g0:((a:Int) < (s.length:Int))=True:=aoU (by omega);simp +contextual only [aW,bV,g0,↓aa,ab,simprocAttr];refine bQ (Zh s a a7 al _) ?_;have hle:=Z0 s a a7;by_cases bN:k0 s a=0
     . rw [SL a7 bN] at br;rw [br,bN];simp +contextual only [aW,bV,g0,apc,↓aa,ab,simprocAttr]
     . rw [KM a7 bN] at br;have Ji:((k0 s a:Int)=0)=False:=aoV (by omega);have w:IntKind.i64.wrap ((a:Int) + (k0 s a:Int))=((a+k0 s a:Nat):Int):=by rw [wrap_i64 (by omega) (by omega)];omega
       simp +contextual only [aW,bV,g0,Ji,w,↓aa,ab,simprocAttr];exact ⟨⟨_,rfl,hle,br⟩,by omega⟩
   . have g0:((a:Int) < (s.length:Int))=False:=aoV (by omega);rw [SM (by omega)] at br;rw [br];simp +contextual only [aW,bV,g0,↓aa,ab,simprocAttr];rw [show a=s.length from by omega]
def oB (L:List (List UInt8)):List V:=L.map V.str
theorem QX (h:ah):dY Tryz.prog 113 [] h fun x ae=>x=.slice (ao h.next) 0 20 20/\ae=h.new (.bd (oB ni) 0 false):=by refine WX.z rfl (cm ?_);unfold MM;simp +contextual only [↓aa,ab,simprocAttr];rfl
theorem akk (h:ah):dY Tryz.prog 117 [] h fun x ae=>x=.slice (ao h.next) 0 17 17/\ae=h.new (.bd (oB gF) 0 false):=by refine W1.z rfl (cm ?_);unfold MQ;simp +contextual only [↓aa,ab,simprocAttr];rfl
theorem K2 {L:List (List UInt8)} {i:Nat} (aJ:i<L.length):(oB L)[i]? =some (.str L[i]):=by unfold oB;rw [apg,aoB aJ];rfl
theorem aat {t:List UInt8} {L:List (List UInt8)} {i:Nat} (aJ:i<L.length):(L.drop i).contains t=(decide (L[i]=t)||(L.drop (i+1)).contains t):=by rw [apa aJ,List.contains_cons];congr 1;rw [aps];simp;exact aqo
theorem QJ (t:List UInt8) (L:List (List UInt8)) (b:aN) (cap:Nat) (h:ah) (gL:L.length<=100000) (ay:h.get b=.bd (oB L) 0 false):
 e5 Tryz.prog 112 [.str t,.slice b 0 L.length cap] h (.bool (L.contains t)) h:=by
 refine je (WW.z rfl (cm ?_));unfold ML;simp +contextual only [↓aa,ab,simprocAttr];refine gb (fun r ae=>ae=h/\r 0=.str t/\r 1=.slice b 0 L.length cap/\∃i:Nat,r 5=.int .i64 i/\i<=L.length/\L.contains t=(L.drop i).contains t) (fun r ae=>L.length - (r 5).toN) ?_ ?_
 . exact ⟨rfl,by simp only [↓aa,ab,simprocAttr],by simp only [↓aa,ab,simprocAttr],0,by simp only [↓aa,ab,simprocAttr]<;>rfl,by omega,rfl⟩
 . rintro r ae ⟨rfl,aW,cJ,i,b1,aJ,br⟩;by_cases a7:i<L.length
   . have g0:((i:Int) < (L.length:Int))=True:=aoU (by omega);have g1:(0<=(i:Int))=True:=aoU (by omega);rw [aat a7] at br;by_cases he:L[i]=t
     . simp +contextual only [aW,cJ,b1,g0,g1,ay,he,aoG,aqk,K2 a7,↓aa,ab,simprocAttr];rw [br];simp [he]
     . have w:IntKind.i64.wrap ((i:Int)+1)=((i+1:Nat):Int):=by rw [wrap_i64 (by omega) (by omega)];rfl
       simp +contextual only [aW,cJ,b1,g0,g1,ay,he,w,aoG,aqk,K2 a7,↓aa,ab,simprocAttr];refine ⟨⟨i+1,rfl,a7,?_⟩,by omega⟩;rw [br];simp [he]
   . have g0:((i:Int) < (L.length:Int))=False:=aoV (by omega);rw [ao_ (by omega)] at br;rw [br];simp +contextual only [aW,cJ,b1,g0,↓aa,ab,simprocAttr];rfl
theorem ahB (n:Int) (h:ah) (aM:0<=n) (ad:n<=2147483648):e5 Tryz.prog 115 [.int .i64 n] h (.int .i64 (if 1073741823<n then n-2147483648 else n)) h:=by
 refine je (WZ.z rfl (cm ?_));unfold MO;have w:IntKind.i64.wrap (n-2147483648)=n-2147483648:=wrap_i64 (by omega) (by omega);by_cases aI:1073741823<n
 . simp +contextual only [aI,w,↓aa,ab,simprocAttr]
 . simp +contextual only [aI,w,↓aa,ab,simprocAttr]
abbrev lX (b:aN) (B:Nat):aN->Prop:=fun q=>q=b\/B<=dP q
theorem oO (s:List UInt8) (a cP:Nat) (e:Int) (k n:Int) (t:List UInt8) (ws:List aq) (v:V) (b:aN) (B:Nat) (h:ah) (ai:h.get b=e0 s a cP e v) (dU:dA B h 4 v ws.length (gX ws)) (dC:Old h b) (fa:dP b<B) (cd:B<=h.next) (hw:ws.length<=100000):
 dY Tryz.prog 114 [.ptr b 0,.int .i64 k,.int .i64 n,.str t] h fun x ae=>Mod (lX b B) h ae/\∃v2,ae.get b=e0 s a cP e v2/\dA B ae 4 v2 (ws.length+1) (gX (ws++[⟨k,n,cP,t⟩])):=by
 refine WY.z rfl (cm ?_);unfold MN;unfold e0 at ai ⊢;have dI:(b=ao h.next)=False:=xH dC (aoz _);have dT:(ao h.next=b)=False:=by rw [<-dI];exact propext aqo
 obtain ⟨v3,ar,an,av,aB,bt,ca⟩:=AU (cs:=[.int .i64 k,.int .i64 n,.int .i64 cP,.str t]) (by omega) dU cd (by unfold top;omega) rfl rfl;have kn:ar.get b=.bd [.str s,.int .i64 a,.int .i64 cP,.int .i64 e,v] 0 false:=by rw [aB.get _ dC (fun aH=>by have:=dU.base aH;omega),ai]
 obtain ⟨ahW,Zk,abv⟩:=av.v.one;simp +contextual only [ai,an,kn,ahW,Zk,abv,dI,dT,↓aa,ab,simprocAttr];refine ⟨(aB.mono fun q _ aH=>.inr (dU.base aH)).set (fun _=>.inl rfl) _,?_⟩;rw [Li];refine ⟨v3,rfl,?_⟩;exact av.mod ((Mod.refl (fun q=>q=b) ar).self _) (fun q aH e=>by have:=av.base aH;rw [show q=b from e] at this;omega)
theorem S5 (s:List UInt8) (a0:Nat) (Px:Int) (v:V) (b:aN) (h:ah) (ai:h.get b=e0 s a0 Px 0 v) (aM:a0<=s.length) (al:s.length<=100000) (dC:Old h b):
 dY Tryz.prog 59 [.ptr b 0] h fun x ae=>Mod (fun q=>q=b) h ae/\((∃(a:Nat) (cP:Int),ae.get b=e0 s a cP 0 v/\a0<=a/\a<=s.length/\nJ (s.drop a0) a0=nJ (s.drop a) a/\∀a7:a<s.length,blank s[a]=false/\([40,42]:List UInt8).isPrefixOf (s.drop a)=false)\/
  (∃(cP:Nat),ae.get b=e0 s s.length cP 253 v/\nJ (s.drop a0) a0=.error (253,cP))):=by
 refine Yk.z rfl (cm ?_);unfold NZ;unfold e0 at ai ⊢;simp +contextual only [↓aa,ab,simprocAttr]
 refine gb (fun r ae=>r 0=.ptr b 0/\Mod (fun q=>q=b) h ae/\((∃(a:Nat) (cP:Int),ae.get b=.bd [.str s,.int .i64 a,.int .i64 cP,.int .i64 0,v] 0 false/\a0<=a/\a<=s.length/\nJ (s.drop a0) a0=nJ (s.drop a) a)\/
  (∃(cP:Nat),ae.get b=.bd [.str s,.int .i64 s.length,.int .i64 cP,.int .i64 253,v] 0 false/\nJ (s.drop a0) a0=.error (253,cP)))) (fun r ae=>s.length - ((gv (ae.get b) 1).getD .bad).toN) ?_ ?_
 . exact ⟨by simp only [↓aa,ab,simprocAttr],Mod.refl _ _,.inl ⟨a0,Px,ai,aoz _,aM,rfl⟩⟩
 . rintro r ae ⟨aW,hm,⟨a,cP,ay,hQ,c8,br⟩ | ⟨cP,ay,br⟩⟩
   . unfold Hd;by_cases a7:a<s.length
     . have g0:((a:Int) < (s.length:Int))=True:=aoU (by omega);have g1:(0<=(a:Int))=True:=aoU (by omega);simp +contextual (maxSteps:=1000000) only [aW,ay,g0,g1,aoB a7,aoG,↓aa,ab,simprocAttr];have l1:∀k,(ae.set b k).get b=k:=fun k=>by rw [ey,aoN rfl]
       have rz:=K1 s [40,42] (a:Int) [.int .i64 a,.int .i64 0,v] b 0 false (ae.set b (.bd [.str s,.int .i64 a,.int .i64 a,.int .i64 0,v] 0 false)) (l1 _) (by omega) (by omega) al (by simp);rw [aoG] at rz;refine bQ rz ?_;have adn:=br;rw [drop_cons a7,JB,<-drop_cons a7] at br;have fb:∀k,ba.Mod (fun q=>q=b) h (ae.set b k):=fun k=>hm.self k;cases my:([40,42]:List UInt8).isPrefixOf (s.drop a) with
       | true=>
         have sq:¬blank s[a]=true:=by have:=my;rw [drop_cons a7] at this;simp only [List.isPrefixOf,aoE,apZ] at this;rw [<-this.1];decide
         rw [aoI sq,my,aoN rfl] at br;simp +contextual only [aW,ay,g0,g1,aoB a7,aoG,↓aa,ab,simprocAttr];refine aY (akh s a a 0 v b _ (by rw [ey,aoN rfl];rfl) c8 al ((fb _).cu dC)) ?_;rintro x ag ⟨rfl,xa,aI⟩;cases xc:hp (s.drop a) 0 with
         | some n=>
           rw [xc] at aI br;obtain ⟨kn,hle⟩:=aI;have tG:=CE xc;unfold e0 at kn;simp +contextual only [aW,kn,↓aa,ab,simprocAttr];refine ⟨⟨(fb _).trans xa,.inl ⟨a+n,a,rfl,by omega,hle,?_⟩⟩,?_⟩
           . rw [br];simp only [apv]
           . omega
         | none=>
           rw [xc] at aI br;unfold e0 at aI;simp +contextual only [aW,aI,↓aa,ab,simprocAttr];refine ⟨⟨(fb _).trans xa,.inr ⟨a,rfl,br⟩⟩,?_⟩;omega
       | false=>
         have jy:(((s[a]).toNat:Int)=9)=(s[a]=9):=lP _ 9 (by omega);have u5:(((s[a]).toNat:Int)=10)=(s[a]=10):=lP _ 10 (by omega);have DU:(((s[a]).toNat:Int)=13)=(s[a]=13):=lP _ 13 (by omega);have OZ:(((s[a]).toNat:Int)=32)=(s[a]=32):=lP _ 32 (by omega);have b9:IntKind.i64.wrap ((a:Int)+1)=((a+1:Nat):Int):=by rw [wrap_i64 (by omega) (by omega)];rfl
         cases rk:blank s[a] with
         | true=>
           rw [rk,aoN rfl] at br;have ts:=rk;unfold blank at ts;simp +contextual only [aW,ay,g0,g1,jy,u5,DU,OZ,b9,ts,aoB a7,aoG,↓aa,ab,simprocAttr];refine ⟨⟨(fb _).self _,.inl ⟨a+1,a,rfl,by omega,by omega,br⟩⟩,by omega⟩
         | false=>
           have ts:=rk;unfold blank at ts;simp +contextual only [aW,ay,g0,g1,jy,u5,DU,OZ,b9,ts,aoB a7,aoG,↓aa,ab,simprocAttr];exact ⟨fb _,.inl ⟨a,a,rfl,hQ,c8,adn,fun _=>⟨rk,my⟩⟩⟩
     . have g0:((a:Int) < (s.length:Int))=False:=aoV (by omega);simp +contextual only [aW,ay,g0,↓aa,ab,simprocAttr];exact ⟨hm,.inl ⟨a,cP,rfl,hQ,c8,br,fun q=>absurd q a7⟩⟩
   . unfold Hd;have g0:((s.length:Int) < (s.length:Int))=False:=aoV (by omega);simp +contextual only [aW,ay,g0,↓aa,ab,simprocAttr];exact ⟨hm,.inr ⟨cP,rfl,br⟩⟩
structure pz (s:List UInt8) (p:Nat) (b:aN) (B:Nat) (ws:List aq) (h:ah) (res:qf) (ae:ah):Prop where
 mod:Mod (lX b B) h ae
 res:∃v2,match res with
  | .ok q=>ae.get b=e0 s ((p+q.2.2.2:Nat):Int) p 0 v2/\p+q.2.2.2<=s.length/\dA B ae 4 v2 (ws.length+1) (gX (ws++[⟨q.1,q.2.1,p,q.2.2.1⟩]))
  | .error e=>e≠0/\∃bF:Int,ae.get b=e0 s bF p e v2
def Rc (c:Int):Bool:=gQ c 97 122||gQ c 65 90||gQ c 48 57||decide (c=95)||decide (c=39)
theorem Rd (c:UInt8):Rc (c.toNat:Int)=d_ c:=by unfold Rc d_ xw gQ n' ln k3;generalize (c.toNat:Int)=x;cases decide (97<=x)<;>cases decide (x<=122)<;>cases decide (65<=x)<;>cases decide (x<=90)<;>cases decide (48<=x)<;>cases decide (x<=57)<;>cases decide (x=95)<;>cases decide (x=39)<;>rfl
theorem F3 {p:UInt8->Bool} {s:List UInt8} {a:Nat} (a7:a<s.length):(s.drop a).takeWhile p=if p s[a] then s[a]::(s.drop (a+1)).takeWhile p else []:=by rw [drop_cons a7,apM]
def il (p:UInt8->Bool) (s:List UInt8) (a:Nat):Nat:=a + ((s.drop a).takeWhile p).length
theorem KN {p:UInt8->Bool} {s:List UInt8} {a:Nat} (h:s.length<=a):il p s a=a:=by unfold il;rw [ao_ h];rfl
theorem KQ {p:UInt8->Bool} {s:List UInt8} {a:Nat} (a7:a<s.length) (aF:p s[a]=false):il p s a=a:=by unfold il;rw [F3 a7,aF];rfl
theorem KP {p:UInt8->Bool} {s:List UInt8} {a:Nat} (a7:a<s.length) (aF:p s[a]=true):il p s a=il p s (a+1):=by unfold il;rw [F3 a7,aF];simp only [aoM,aoH];omega
theorem FM (p:UInt8->Bool) (s:List UInt8) (a:Nat):(s.drop a).take (il p s a-a)=(s.drop a).takeWhile p:=by unfold il;rw [show a + ((s.drop a).takeWhile p).length-a=((s.drop a).takeWhile p).length from by omega];have h:=List.takeWhile_append_dropWhile (p:=p) (l:=s.drop a);have ag:List.take ((s.drop a).takeWhile p).length ((s.drop a).takeWhile p++(s.drop a).dropWhile p)=(s.drop a).takeWhile p:=List.take_left;rwa [h] at ag
theorem KO (p:UInt8->Bool) (s:List UInt8) (a:Nat) (h:a<=s.length):il p s a<=s.length:=by unfold il;have:=K5 p s a;omega
theorem QW {t:List UInt8} (h:ng t=true):o3 t=true/\t.length<=9:=by
 have hm:t ∈ ni:=by unfold ng at h;simpa using h
 have:∀t ∈ ni,o3 t=true/\t.length<=9:=by decide
 exact this t hm
def Hf:cb:=match DK with
 | .seq _ t=>t
 | c=>c
theorem Yn:DK=.seq (.block 0 (.loop He)) Hf:=rfl
theorem SB (s:List UInt8) (p:Nat) (k:Int) (ws:List aq) (v:V) (b:aN) (B:Nat) (aM h:ah) (hm:Mod (lX b B) aM h) (ai:h.get b=e0 s (il d_ s p:Nat) p 0 v) (aF:p<s.length) (al:s.length<=100000) (dU:dA B h 4 v ws.length (gX ws)) (dC:Old h b) (fa:dP b<B) (cd:B<=h.next) (hw:ws.length<=90000)
 (aD:(k=3/\k3 (s[p].toNat:Int)=false)\/(k=4/\k3 (s[p].toNat:Int)=true)) (aG:d_ s[p]=true) (r:a1) (aW:r 0=.ptr b 0) (Q:ec->a1->ah->Prop) (b':∀bq ae,pz s p b B ws aM (jr k (s.drop p)) ae->Q .normal bq ae):
 bL Tryz.prog [.c Hf] .normal r h Q:=by
 unfold Hf DK;unfold e0 at ai;have f0:(0<=(p:Int))=True:=aoU (by omega);have vo:=KO d_ s p (by omega);have adA:p<=il d_ s p:=by unfold il;omega
 have f1:((p:Int)<=(il d_ s p:Int))=True:=aoU (by omega);have f2:((il d_ s p:Int)<=(s.length:Int))=True:=aoU (by omega);simp +contextual only [aW,ai,f0,f1,f2,aoG,FM,↓aa,ab,simprocAttr];have hlen:il d_ s p=p + ((s.drop p).takeWhile d_).length:=rfl;have ru:jr k (s.drop p)=if k=3/\(s.drop p).takeWhile d_=[95] then .ok (7,0,(s.drop p).takeWhile d_,((s.drop p).takeWhile d_).length) else if k=3/\ng ((s.drop p).takeWhile d_) then .ok (6,0,(s.drop p).takeWhile d_,((s.drop p).takeWhile d_).length) else if 64 < ((s.drop p).takeWhile d_).length then .error 255 else .ok (k,0,(s.drop p).takeWhile d_,((s.drop p).takeWhile d_).length):=rfl;rw [ru] at b';have sv:((s.drop p).takeWhile d_)[0]? =some s[p]:=by rw [F3 aF,aG];rfl
 have ac1:1<=((s.drop p).takeWhile d_).length:=by rw [F3 aF,aG];simp
 rw [hlen] at ai vo;rw [hlen];generalize (s.drop p).takeWhile d_=t at *;have P_:k=4->ng t=false/\¬t=[95]:=by
  rintro rfl;have ay:k3 (s[p].toNat:Int)=true:=by
   rcases aD with ⟨q,_⟩ | ⟨_,q⟩
   . omega
   . exact q
  have tJ:ln (s[p].toNat:Int)=false:=by unfold k3 at ay;simp only [aoE,aoO] at ay;unfold ln;rw [show decide ((97:Int)<=(s[p].toNat:Int))=false from ap5 (by omega)];rfl
  refine ⟨?_,?_⟩
  . cases aH:ng t with
    | false=>rfl
    | true=>
      have:=(QW aH).1;cases t with
      | nil=>simp at ac1
      | cons c r=>
        simp only [aoR,aoC] at sv;rw [o3,sv,tJ] at this;cases this
  . rintro rfl;simp only [aoR,aoC] at sv;rw [<-sv] at ay;revert ay;decide
 have fin:∀(dL:Int) (ad ag:ah) (v2:V),Mod (lX b B) aM ad->(Mod (lX b B) ad ag/\∃v2,ag.get b=e0 s ((p+t.length:Nat):Int) p 0 v2/\dA B ag 4 v2 (ws.length+1) (gX (ws++[⟨dL,0,p,t⟩])))->pz s p b B ws aM (.ok (dL,0,t,t.length)) ag:=by rintro dL ad ag _ j4 ⟨fb,v2,an,av⟩;exact ⟨j4.trans fb,v2,an,vo,av⟩
 have Pk:∀(dL:Int) (ad ag:ah),Mod (lX b B) aM ad->(Mod (lX b B) ad ag/\∃v2,ag.get b=e0 s ((p+t.length:Nat):Int) p 255 v2/\dA B ag 4 v2 (ws.length+1) (gX (ws++[⟨dL,0,p,t⟩])))->pz s p b B ws aM (.error 255) ag:=by rintro dL ad ag j4 ⟨fb,v2,an,av⟩;exact ⟨j4.trans fb,v2,by decide,_,an⟩
 by_cases mZ:64<t.length
 . have pL:(64:Int) < (t.length:Int):=by omega
   have za:ng t=false:=by
    cases aH:ng t with
    | false=>rfl
    | true=>have:=(QW aH).2;omega
   have zb:¬t=[95]:=by rintro rfl;simp at mZ
   rw [aoI (fun q=>zb q.2),aoI (by rw [za];simp),aoN mZ] at b';have BX:Mod (lX b B) aM (h.set b (.bd [.str s,.int .i64 ((p+t.length:Nat):Int),.int .i64 p,.int .i64 255,v] 0 false)):=hm.set (fun _=>.inl rfl) _;have PR:dA B (h.set b (.bd [.str s,.int .i64 ((p+t.length:Nat):Int),.int .i64 p,.int .i64 255,v] 0 false)) 4 v ws.length (gX ws):=dU.mod ((Mod.refl (fun q=>q=b) h).self _) (fun q aH e=>by have:=dU.base aH;rw [show q=b from e] at this;omega);have BK:(h.set b (.bd [.str s,.int .i64 ((p+t.length:Nat):Int),.int .i64 p,.int .i64 255,v] 0 false)).get b=.bd [.str s,.int .i64 ((p+t.length:Nat):Int),.int .i64 p,.int .i64 255,v] 0 false:=by rw [ey,aoN rfl]
   have nG:Old (h.set b (.bd [.str s,.int .i64 ((p+t.length:Nat):Int),.int .i64 p,.int .i64 255,v] 0 false)) b:=dC;have anK:(h.set b (.bd [.str s,.int .i64 ((p+t.length:Nat):Int),.int .i64 p,.int .i64 255,v] 0 false)).next=h.next:=iO _ _ _
   simp +contextual only [aW,ai,pL,↓aa,ab,simprocAttr];generalize pF:h.set b (.bd [.str s,.int .i64 ((p+t.length:Nat):Int),.int .i64 p,.int .i64 255,v] 0 false)=H at *;refine aY (QX _) ?_;rintro x ad ⟨rfl,rfl⟩;simp +contextual only [aW,BK,pL,↓aa,ab,simprocAttr];have kp:Ext H (H.new (.bd (oB ni) 0 false)):=(Ext.refl H).new _;refine bQ (QJ t ni (ao H.next) 20 _ (by decide) (by rw [sf])) ?_;have jI:(H.new (.bd (oB ni) 0 false)).get b=e0 s ((p+t.length:Nat):Int) p 255 v:=by rw [kp.get _ nG,BK];rfl
   have j4:Mod (lX b B) aM (H.new (.bd (oB ni) 0 false)):=BX.trans (kp.mod _);have IF:ni.contains t=ng t:=rfl;rw [IF,za];have g0:((0:Int) < (t.length:Int))=True:=aoU (by omega);have z0:((0:Int)<=0)=True:=aoU (by omega);simp +contextual only [aW,BK,pL,zb,g0,z0,sv,Int.reduceToNat,↓aa,ab,simprocAttr];refine bQ (oD _ _ _ _) ?_;rw [show gQ (s[p].toNat:Int) 65 90=k3 (s[p].toNat:Int) from rfl];rcases aD with ⟨rfl,ay⟩ | ⟨rfl,ay⟩
   . rw [ay];simp +contextual only [aW,BK,pL,zb,g0,z0,sv,↓aa,ab,simprocAttr];refine aY (oO s _ p 255 3 0 t ws v b B _ jI (PR.ext kp) (kp.cu nG) fa (by rw [ig];omega) (by omega)) ?_;rintro x ag aH;simp +contextual only [aW,↓aa,ab,simprocAttr];exact b' _ _ (Pk 3 _ _ j4 aH)
   . rw [ay];simp +contextual only [aW,BK,pL,zb,g0,z0,sv,↓aa,ab,simprocAttr];refine aY (oO s _ p 255 4 0 t ws v b B _ jI (PR.ext kp) (kp.cu nG) fa (by rw [ig];omega) (by omega)) ?_;rintro x ag aH;simp +contextual only [aW,↓aa,ab,simprocAttr];exact b' _ _ (Pk 4 _ _ j4 aH)
 . have pL:¬(64:Int) < (t.length:Int):=by omega
   simp +contextual only [aW,ai,pL,↓aa,ab,simprocAttr];refine aY (QX _) ?_;rintro x ad ⟨rfl,rfl⟩;simp +contextual only [aW,ai,pL,↓aa,ab,simprocAttr];have kp:Ext h (h.new (.bd (oB ni) 0 false)):=(Ext.refl h).new _;refine bQ (QJ t ni (ao h.next) 20 _ (by decide) (by rw [sf])) ?_;have jI:(h.new (.bd (oB ni) 0 false)).get b=e0 s ((p+t.length:Nat):Int) p 0 v:=by rw [kp.get _ dC,ai];rfl
   have j4:Mod (lX b B) aM (h.new (.bd (oB ni) 0 false)):=hm.trans (kp.mod _);have IF:ni.contains t=ng t:=rfl;rw [IF];cases tA:ng t with
   | true=>
     have o6:k=3:=by
      rcases aD with ⟨q,_⟩ | ⟨q,_⟩
      . exact q
      . rw [(P_ q).1] at tA;cases tA
     have zb:¬t=[95]:=by rintro rfl;revert tA;decide
     rw [aoI (fun q=>zb q.2),aoN ⟨o6,tA⟩] at b';simp +contextual only [aW,ai,pL,↓aa,ab,simprocAttr];refine aY (oO s _ p 0 6 0 t ws v b B _ jI (dU.ext kp) (kp.cu dC) fa (by rw [ig];omega) (by omega)) ?_;rintro x ag aH;simp +contextual only [aW,↓aa,ab,simprocAttr];exact b' _ _ (fin 6 _ _ v j4 aH)
   | false=>
     by_cases hu:t=[95]
     . have o6:k=3:=by
        rcases aD with ⟨q,_⟩ | ⟨q,_⟩
        . exact q
        . exact absurd hu (P_ q).2
       rw [aoN ⟨o6,hu⟩] at b';have iK:=aoU hu;simp +contextual only [aW,ai,pL,iK,↓aa,ab,simprocAttr];refine aY (oO s _ p 0 7 0 t ws v b B _ jI (dU.ext kp) (kp.cu dC) fa (by rw [ig];omega) (by omega)) ?_;rintro x ag aH;simp +contextual only [aW,↓aa,ab,simprocAttr];exact b' _ _ (fin 7 _ _ v j4 aH)
     . rw [aoI (fun q=>hu q.2),aoI (by rw [tA];simp),aoI mZ] at b';have g0:((0:Int) < (t.length:Int))=True:=aoU (by omega);have z0:((0:Int)<=0)=True:=aoU (by omega);simp +contextual only [aW,ai,pL,hu,g0,z0,sv,Int.reduceToNat,↓aa,ab,simprocAttr];refine bQ (oD _ _ _ _) ?_;rw [show gQ (s[p].toNat:Int) 65 90=k3 (s[p].toNat:Int) from rfl];rcases aD with ⟨rfl,ay⟩ | ⟨rfl,ay⟩
       . rw [ay];simp +contextual only [aW,ai,pL,hu,g0,z0,sv,↓aa,ab,simprocAttr];refine aY (oO s _ p 0 3 0 t ws v b B _ jI (dU.ext kp) (kp.cu dC) fa (by rw [ig];omega) (by omega)) ?_;rintro x ag aH;simp +contextual only [aW,↓aa,ab,simprocAttr];exact b' _ _ (fin 3 _ _ v j4 aH)
       . rw [ay];simp +contextual only [aW,ai,pL,hu,g0,z0,sv,↓aa,ab,simprocAttr];refine aY (oO s _ p 0 4 0 t ws v b B _ jI (dU.ext kp) (kp.cu dC) fa (by rw [ig];omega) (by omega)) ?_;rintro x ag aH;simp +contextual only [aW,↓aa,ab,simprocAttr];exact b' _ _ (fin 4 _ _ v j4 aH)
theorem KB (s:List UInt8) (p:Nat) (k:Int) (ws:List aq) (v:V) (b:aN) (B:Nat) (h:ah) (ai:h.get b=e0 s p p 0 v) (aF:p<s.length) (al:s.length<=100000) (dU:dA B h 4 v ws.length (gX ws)) (dC:Old h b) (fa:dP b<B) (cd:B<=h.next) (hw:ws.length<=90000)
 (aD:(k=3/\k3 (s[p].toNat:Int)=false)\/(k=4/\k3 (s[p].toNat:Int)=true)) (aG:d_ s[p]=true):
 dY Tryz.prog 61 [.ptr b 0] h fun x ae=>pz s p b B ws h (jr k (s.drop p)) ae:=by
 refine Ym.z rfl (cm ?_);rw [Yn];unfold e0 at ai;simp +contextual only [↓aa,ab,simprocAttr];refine gb (fun r ae=>r 0=.ptr b 0/\Mod (lX b B) h ae/\dA B ae 4 v ws.length (gX ws)/\∃(a:Nat),ae.get b=.bd [.str s,.int .i64 a,.int .i64 p,.int .i64 0,v] 0 false/\p<=a/\a<=s.length/\il d_ s p=il d_ s a) (fun r ae=>s.length - ((gv (ae.get b) 1).getD .bad).toN) ?_ ?_
 . exact ⟨by simp only [↓aa,ab,simprocAttr],Mod.refl _ _,dU,p,ai,aoz _,by omega,rfl⟩
 . rintro r ae ⟨aW,hm,pG,a,ay,hQ,c8,br⟩;unfold He;have EH:=hm.next
   by_cases a7:a<s.length
   . have g0:((a:Int) < (s.length:Int))=True:=aoU (by omega);have g1:(0<=(a:Int))=True:=aoU (by omega);simp +contextual (maxSteps:=1000000) only [aW,ay,g0,g1,aoB a7,aoG,↓aa,ab,simprocAttr];refine bQ (LO _ _) ?_;rw [show (gQ (s[a].toNat:Int) 97 122||gQ (s[a].toNat:Int) 65 90||gQ (s[a].toNat:Int) 48 57||decide ((s[a].toNat:Int)=95)||decide ((s[a].toNat:Int)=39))=d_ s[a] from Rd _];cases ax:d_ s[a] with
     | true=>
       rw [KP a7 ax] at br;have b9:IntKind.i64.wrap ((a:Int)+1)=((a+1:Nat):Int):=by rw [wrap_i64 (by omega) (by omega)];rfl
       simp +contextual (maxSteps:=1000000) only [aW,ay,g0,g1,b9,aoB a7,aoG,↓aa,ab,simprocAttr];refine ⟨⟨hm.set (fun _=>.inl rfl) _,?_,a+1,rfl,by omega,by omega,br⟩,by omega⟩;exact pG.mod ((Mod.refl (fun q=>q=b) ae).self _) (fun q aH e=>by have:=pG.base aH;rw [show q=b from e] at this;omega)
     | false=>
       rw [KQ a7 ax] at br;simp +contextual (maxSteps:=1000000) only [aW,ay,g0,g1,aoB a7,aoG,↓aa,ab,simprocAttr];exact SB s p k ws v b B h ae hm (by rw [br];exact ay) aF al pG (hm.cu dC) fa (by omega) hw aD aG _ (by simp only [aW,↓aa,ab,simprocAttr]) _ (fun _ _ U=>⟨trivial,U⟩)
   . have g0:((a:Int) < (s.length:Int))=False:=aoV (by omega);rw [KN (a:=a) (by omega)] at br;simp +contextual (maxSteps:=1000000) only [aW,ay,g0,↓aa,ab,simprocAttr];exact SB s p k ws v b B h ae hm (by rw [br];exact ay) aF al pG (hm.cu dC) fa (by omega) hw aD aG _ (by simp only [aW,↓aa,ab,simprocAttr]) _ (fun _ _ U=>⟨trivial,U⟩)
theorem pq {B:Nat} {h:ah} {v:V} {n:Nat} {us:List V} {b:aN} (dU:dA B h 4 v n us) (fa:dP b<B) (k:c_):dA B (h.set b k) 4 v n us:=
 dU.mod ((Mod.refl (fun q=>q=b) h).self _) (fun q aH e=>by have:=dU.base aH;rw [show q=b from e] at this;omega)
def yb (r:List UInt8):qf:=if o3 r then (jr 5 r).map fun q=>(q.1,q.2.1,q.2.2.1,q.2.2.2+1) else .error 251
def Hj:cb:=match wz with
 | .seq _ (.seq _ (.seq _ t))=>t
 | c=>c
theorem SE (s:List UInt8) (p:Nat) (ws:List aq) (v:V) (b:aN) (B:Nat) (aM h:ah) (hm:Mod (lX b B) aM h) (ai:h.get b=e0 s (il d_ s (p+1):Nat) p 0 v) (aF:p<s.length) (al:s.length<=100000) (dU:dA B h 4 v ws.length (gX ws)) (dC:Old h b) (fa:dP b<B) (cd:B<=h.next) (hw:ws.length<=90000)
 (r:a1) (aW:r 0=.ptr b 0) (bc:r 2=.int .i64 ((p+1:Nat):Int)) (Q:ec->a1->ah->Prop) (b':∀e bq ae,(e=.normal\/e=.ret)->pz s p b B ws aM (yb (s.drop (p+1))) ae->Q e bq ae):
 bL Tryz.prog [.c Hj] .normal r h Q:=by
 unfold Hj wz;unfold e0 at ai;have f0:(0<=((p+1:Nat):Int))=True:=aoU (by omega);have vo:=KO d_ s (p+1) (by omega);have adA:p+1<=il d_ s (p+1):=by unfold il;omega
 have f1:(((p+1:Nat):Int)<=(il d_ s (p+1):Int))=True:=aoU (by omega);have f2:((il d_ s (p+1):Int)<=(s.length:Int))=True:=aoU (by omega);simp +contextual only [aW,bc,ai,f0,f1,f2,aoG,FM,↓aa,ab,simprocAttr];have hlen:il d_ s (p+1)=p+1 + ((s.drop (p+1)).takeWhile d_).length:=rfl;have ru:jr 5 (s.drop (p+1))=if 64 < ((s.drop (p+1)).takeWhile d_).length then .error 255 else .ok (5,0,(s.drop (p+1)).takeWhile d_,((s.drop (p+1)).takeWhile d_).length):=by unfold jr;simp only;rw [aoI (by simp),aoI (by simp)]
 have acO:o3 (s.drop (p+1))=o3 ((s.drop (p+1)).takeWhile d_):=by
  cases c1:s.drop (p+1) with
  | nil=>rfl
  | cons c R=>
    simp only [apM];cases ax:d_ c with
    | true=>rfl
    | false=>
      simp only [aoA,aoK,o3];cases aH:ln c.toNat with
      | false=>rfl
      | true=>rw [KX aH] at ax;cases ax
 have bZ:yb (s.drop (p+1))=if o3 ((s.drop (p+1)).takeWhile d_) then ((if 64 < ((s.drop (p+1)).takeWhile d_).length then .error 255 else .ok (5,0,(s.drop (p+1)).takeWhile d_,((s.drop (p+1)).takeWhile d_).length):qf).map fun q=>(q.1,q.2.1,q.2.2.1,q.2.2.2+1)) else .error 251:=by unfold yb;rw [acO,ru]
 rw [bZ] at b';rw [hlen] at ai vo;rw [hlen];generalize (s.drop (p+1)).takeWhile d_=t at *;have bad:pz s p b B ws aM (.error 251) (h.set b (.bd [.str s,.int .i64 ((p+1+t.length:Nat):Int),.int .i64 p,.int .i64 251,v] 0 false)):=
  ⟨hm.set (fun _=>.inl rfl) _,v,by decide,((p+1+t.length:Nat):Int),by rw [ey,aoN rfl];rfl⟩
 match t,b',bad,ai,vo with
 | [],b',bad,ai,vo=>
   rw [show o3 []=false from rfl,aoI ao2] at b';simp +contextual only [aW,ai,↓aa,ab,simprocAttr];exact b' _ _ _ (.inr rfl) bad
 | c::jV,b',bad,ai,vo=>
   have Er:(c::jV=[])=False:=aoV (by simp);simp only [aoH] at ai vo bad;have g0:((0:Int) < ((jV.length+1:Nat):Int))=True:=aoU (by omega);have z0:((0:Int)<=0)=True:=aoU (by omega);simp +contextual only [aW,ai,Er,g0,z0,Int.reduceToNat,↓aa,ab,simprocAttr];refine bQ (oD _ _ _ _) ?_;rw [show gQ (c.toNat:Int) 97 122=o3 (c::jV) from rfl];cases tJ:o3 (c::jV) with
   | false=>
     rw [tJ,aoI ao2] at b';simp +contextual only [aW,ai,Er,g0,z0,Int.reduceToNat,↓aa,ab,simprocAttr];exact b' _ _ _ (.inr rfl) bad
   | true=>
     rw [tJ,aoN rfl] at b';simp only [aoH] at b';by_cases aG:64<jV.length+1
     . have j3:((64:Int) < ((jV.length+1:Nat):Int))=True:=aoU (by omega);rw [aoN aG] at b';simp +contextual only [aW,ai,Er,g0,z0,j3,Int.reduceToNat,↓aa,ab,simprocAttr];refine aY (oO s (p+1 + (jV.length+1)) p 255 5 0 (c::jV) ws v b B _ (by rw [ey,aoN rfl];rfl) (pq dU fa _) dC fa (by rw [iO];omega) (by omega)) ?_;rintro x ag ⟨fb,v2,an,av⟩;simp +contextual only [aW,↓aa,ab,simprocAttr];exact b' _ _ _ (.inl rfl) ⟨(hm.set (fun _=>.inl rfl) _).trans fb,v2,by decide,_,an⟩
     . have j3:((64:Int) < ((jV.length+1:Nat):Int))=False:=aoV (by omega);rw [aoI aG] at b';simp +contextual only [aW,ai,Er,g0,z0,j3,Int.reduceToNat,↓aa,ab,simprocAttr];refine aY (oO s (p+1 + (jV.length+1)) p 0 5 0 (c::jV) ws v b B _ ai dU dC fa (by omega) (by omega)) ?_;rintro x ag ⟨fb,v2,an,av⟩;simp +contextual only [aW,↓aa,ab,simprocAttr];refine b' _ _ _ (.inl rfl) ⟨hm.trans fb,v2,?_,?_,av⟩
       . rw [an];show e0 s ((p+1 + (jV.length+1):Nat):Int) p 0 v2=e0 s ((p + (jV.length+1+1):Nat):Int) p 0 v2;rw [show p+1 + (jV.length+1)=p + (jV.length+1+1) from by omega]
       . show p + (jV.length+1+1)<=s.length;omega
theorem akm (s:List UInt8) (p:Nat) (ws:List aq) (v:V) (b:aN) (B:Nat) (h:ah) (ai:h.get b=e0 s p p 0 v) (aF:p<s.length) (al:s.length<=100000) (dU:dA B h 4 v ws.length (gX ws)) (dC:Old h b) (fa:dP b<B) (cd:B<=h.next) (hw:ws.length<=90000):
 dY Tryz.prog 63 [.ptr b 0] h fun x ae=>pz s p b B ws h (yb (s.drop (p+1))) ae:=by
 refine Yp.z rfl (cm ?_);have B5:wz=.seq (match wz with | .seq x _=>x | c=>c) (.seq (match wz with | .seq _ (.seq y _)=>y | c=>c) (.seq (.block 0 (.loop Hi)) Hj)):=rfl;rw [B5];unfold wz;unfold e0 at ai;have b9:IntKind.i64.wrap ((p:Int)+1)=((p+1:Nat):Int):=by rw [wrap_i64 (by omega) (by omega)];rfl
 simp +contextual only [ai,b9,↓aa,ab,simprocAttr];refine gb (fun r ae=>r 0=.ptr b 0/\r 2=.int .i64 ((p+1:Nat):Int)/\Mod (lX b B) h ae/\dA B ae 4 v ws.length (gX ws)/\∃(a:Nat),ae.get b=.bd [.str s,.int .i64 a,.int .i64 p,.int .i64 0,v] 0 false/\p+1<=a/\a<=s.length/\il d_ s (p+1)=il d_ s a) (fun r ae=>s.length - ((gv (ae.get b) 1).getD .bad).toN) ?_ ?_
 . exact ⟨by simp only [↓aa,ab,simprocAttr],by simp only [↓aa,ab,simprocAttr],(Mod.refl _ _).set (fun _=>.inl rfl) _,pq dU fa _,p+1,by rw [ey,aoN rfl],aoz _,by omega,rfl⟩
 . rintro r ae ⟨aW,bc,hm,pG,a,ay,hQ,c8,br⟩;unfold Hi;have EH:=hm.next
   by_cases a7:a<s.length
   . have g0:((a:Int) < (s.length:Int))=True:=aoU (by omega);have g1:(0<=(a:Int))=True:=aoU (by omega);simp +contextual (maxSteps:=1000000) only [aW,ay,g0,g1,aoB a7,aoG,↓aa,ab,simprocAttr];refine bQ (LO _ _) ?_;rw [show (gQ (s[a].toNat:Int) 97 122||gQ (s[a].toNat:Int) 65 90||gQ (s[a].toNat:Int) 48 57||decide ((s[a].toNat:Int)=95)||decide ((s[a].toNat:Int)=39))=d_ s[a] from Rd _];cases ax:d_ s[a] with
     | true=>
       rw [KP a7 ax] at br;have aR:IntKind.i64.wrap ((a:Int)+1)=((a+1:Nat):Int):=by rw [wrap_i64 (by omega) (by omega)];rfl
       simp +contextual (maxSteps:=1000000) only [aW,bc,ay,g0,g1,aR,aoB a7,aoG,↓aa,ab,simprocAttr];exact ⟨⟨hm.set (fun _=>.inl rfl) _,pq pG fa _,a+1,rfl,by omega,by omega,br⟩,by omega⟩
     | false=>
       rw [KQ a7 ax] at br;simp +contextual (maxSteps:=1000000) only [aW,ay,g0,g1,aoB a7,aoG,↓aa,ab,simprocAttr];refine SE s p ws v b B h ae hm (by rw [br];exact ay) aF al pG (hm.cu dC) fa (by omega) hw _ (by simp only [aW,↓aa,ab,simprocAttr]) (by simp only [bc,↓aa,ab,simprocAttr]) _ (fun e _ _ he U=>?_);rcases he with rfl | rfl<;>exact ⟨trivial,U⟩
   . have g0:((a:Int) < (s.length:Int))=False:=aoV (by omega);rw [KN (a:=a) (by omega)] at br;simp +contextual (maxSteps:=1000000) only [aW,ay,g0,↓aa,ab,simprocAttr];refine SE s p ws v b B h ae hm (by rw [br];exact ay) aF al pG (hm.cu dC) fa (by omega) hw _ (by simp only [aW,↓aa,ab,simprocAttr]) (by simp only [bc,↓aa,ab,simprocAttr]) _ (fun e _ _ he U=>?_);rcases he with rfl | rfl<;>exact ⟨trivial,U⟩
theorem akj (s:List UInt8) (p:Nat) (ws:List aq) (v:V) (b:aN) (B:Nat) (h:ah) (ai:h.get b=e0 s p p 0 v) (aF:p<s.length) (al:s.length<=100000) (dU:dA B h 4 v ws.length (gX ws)) (dC:Old h b) (fa:dP b<B) (cd:B<=h.next) (hw:ws.length<=90000):
 dY Tryz.prog 65 [.ptr b 0] h fun x ae=>pz s p b B ws h (po (s.drop p)) ae:=by
 refine Yr.z rfl (cm ?_);unfold N1;unfold e0 at ai;simp +contextual only [↓aa,ab,simprocAttr];refine aY (akk _) ?_;rintro x j6 ⟨rfl,rfl⟩;simp +contextual only [↓aa,ab,simprocAttr];have r4:((17:Nat):Int)=17:=rfl;have two:∀t ∈ gF,t.length<=2:=by decide
 have au:Ext h (h.new (.bd (oB gF) 0 false)):=(Ext.refl h).new _;have mv:(h.new (.bd (oB gF) 0 false)).get b=.bd [.str s,.int .i64 p,.int .i64 p,.int .i64 0,v] 0 false:=by rw [au.get _ dC,ai]
 have sE:(b=ao h.next)=False:=xH dC (by omega);have uZ:(ao h.next=b)=False:=by rw [<-sE];exact propext aqo
 refine gb (fun r ae=>r 0=.ptr b 0/\r 2=.slice (ao h.next) 0 17 17/\∃i:Nat,i<=17/\r 3=.int .i64 i/\ae=h.new (.bd (oB gF) 0 false)/\
  gF.find? (·.isPrefixOf (s.drop p))=(gF.drop i).find? (·.isPrefixOf (s.drop p))) (fun r ae=>17 - (r 3).toN) ?_ ?_
 . exact ⟨by simp only [↓aa,ab,simprocAttr],by simp only [↓aa,ab,simprocAttr],0,by omega,by simp only [↓aa,ab,simprocAttr]<;>rfl,rfl,rfl⟩
 . rintro r ae ⟨aW,bc,i,aJ,bV,rfl,od⟩;by_cases kF:i<17
   . have g0:((i:Int)<17)=True:=aoU (by omega);have g1:(0<=(i:Int))=True:=aoU (by omega);rw [Pr _ kF] at od;have y_:i<gF.length:=kF;have Qx:(oB gF)[i]? =some (.str (gF[i]'kF)):=K2 y_;have hlen:=two _ (apQ (h:=y_));simp +contextual only [r4,aW,bc,bV,g0,g1,sE,uZ,aoG,aqk,Qx,↓aa,ab,simprocAttr];refine bQ (K1 s _ (p:Int) [.int .i64 p,.int .i64 0,v] b 0 false _ mv (by omega) (by omega) al (by omega)) ?_;rw [aoG];cases my:(gF[i]'kF).isPrefixOf (s.drop p) with
     | true=>
       rw [my,aoN rfl] at od;have k7:(gF[i]'kF).length<=s.length-p:=by rw [apn] at my;have:=my.length_le;rwa [aoZ] at this
       have eH:IntKind.i64.wrap ((p:Int) + ((gF[i]'kF).length:Int))=((p + (gF[i]'kF).length:Nat):Int):=by rw [wrap_i64 (by omega) (by omega)];rfl
       simp +contextual (maxSteps:=1000000) only [r4,aW,bc,bV,g0,g1,eH,mv,sE,uZ,ai,aoG,aqk,Qx,↓aa,ab,simprocAttr];refine aY (oO s (p + (gF[i]'kF).length) p 0 7 0 (gF[i]'kF) ws v b B _ (by rw [ey,aoN rfl];rfl) (pq (dU.ext au) fa _) (au.cu dC) fa (by rw [iO,ig];omega) (by omega)) ?_;rintro x ag ⟨fb,v2,an,av⟩;simp +contextual only [aW,↓aa,ab,simprocAttr];unfold po;rw [od];exact ⟨((au.mod (lX b B)).set (fun _=>.inl rfl) _).trans fb,v2,an,by show p + (gF[i]'kF).length<=s.length;omega,av⟩
     | false=>
       rw [my,aoI ao2] at od;have eH:IntKind.i64.wrap ((i:Int)+1)=((i+1:Nat):Int):=by rw [wrap_i64 (by omega) (by omega)];rfl
       simp +contextual only [r4,aW,bc,bV,g0,g1,eH,ai,↓aa,ab,simprocAttr];exact ⟨⟨i+1,by omega,rfl,od⟩,by omega⟩
   . obtain rfl:i=17:=by omega
     have e9:gF.find? (·.isPrefixOf (s.drop p))=none:=by rw [od];rfl
     have g0:((17:Int)<17)=False:=aoV (by omega);simp +contextual only [r4,aW,bc,bV,g0,mv,sE,uZ,ai,↓aa,ab,simprocAttr];unfold po;rw [e9];exact ⟨(au.mod (lX b B)).set (fun _=>.inl rfl) _,v,by decide,(p:Int),by rw [ey,aoN rfl];rfl⟩
theorem wrap_u8 {n:Int} (aM:0<=n) (ad:n<256):IntKind.u8.wrap n=n:=by simp [IntKind.wrap,IntKind.bits,IntKind.signed];omega
theorem TJ (l:List UInt8) (c:UInt8):fP (l++[c])=10 * fP l + (c.toNat-48):=by unfold fP;rw [List.foldl_append];rfl
theorem K7 {s:List UInt8} {p a:Nat} (xe:p<=a) (a7:a<s.length):(s.drop p).take (a+1-p)=(s.drop p).take (a-p)++[s[a]]:=by
 have ag:a-p < (s.drop p).length:=by rw [aoZ];omega
 rw [show a+1-p=a-p+1 from by omega,<-List.take_append_getElem ag];congr 1;rw [List.getElem_drop];simp only [show p + (a-p)=a from by omega]
def Hh:cb:=match yI with
 | .seq _ (.seq _ t)=>t
 | c=>c
theorem SC (s:List UInt8) (p:Nat) (n e:Int) (ws:List aq) (v:V) (b:aN) (B:Nat) (aM h:ah) (hm:Mod (lX b B) aM h) (ai:h.get b=.bd [.str s,.int .i64 (il dW s p:Nat),.int .i64 p,.int .i64 e,v] 0 false) (aF:p<=s.length) (al:s.length<=100000) (dU:dA B h 4 v ws.length (gX ws)) (dC:Old h b) (fa:dP b<B) (cd:B<=h.next) (hw:ws.length<=90000)
 (aI:(e=0/\n=fP ((s.drop p).takeWhile dW)/\fP ((s.drop p).takeWhile dW)<2147483648)\/(e=254/\2147483648<=fP ((s.drop p).takeWhile dW)/\0<=n/\n<2147483648))
 (r:a1) (aW:r 0=.ptr b 0) (bc:r 2=.int .i64 n) (Q:ec->a1->ah->Prop) (b':∀bq ae,pz s p b B ws aM (qJ (s.drop p)) ae->Q .normal bq ae):
 bL Tryz.prog [.c Hh] .normal r h Q:=by
 unfold Hh yI;have adg:qJ (s.drop p)=if 2147483647<fP ((s.drop p).takeWhile dW) then .error 254 else .ok (1,(if 1073741823 < (fP ((s.drop p).takeWhile dW):Int) then (fP ((s.drop p).takeWhile dW):Int)-2147483648 else fP ((s.drop p).takeWhile dW)),[],((s.drop p).takeWhile dW).length):=rfl;rw [adg] at b';have hle:=KO dW s p aF;have hlen:il dW s p=p + ((s.drop p).takeWhile dW).length:=rfl;rw [hlen] at ai hle;generalize (s.drop p).takeWhile dW=t at *;simp +contextual only [aW,bc,ai,↓aa,ab,simprocAttr];have sq:0<=n/\n<=2147483648:=by omega
 refine bQ (ahB n _ sq.1 sq.2) ?_;simp +contextual only [aW,bc,ai,↓aa,ab,simprocAttr];refine aY (oO s (p+t.length) p e 1 _ [] ws v b B _ ai dU dC fa cd (by omega)) ?_;rintro x ag ⟨fb,v2,an,av⟩;simp +contextual only [aW,↓aa,ab,simprocAttr];refine b' _ _ ?_;rcases aI with ⟨rfl,rfl,bZ⟩ | ⟨rfl,bZ,_⟩
 . rw [aoI (by omega)];exact ⟨hm.trans fb,v2,an,hle,av⟩
 . rw [aoN (by omega)];exact ⟨hm.trans fb,v2,by decide,_,an⟩
theorem aki (s:List UInt8) (p:Nat) (ws:List aq) (v:V) (b:aN) (B:Nat) (h:ah) (ai:h.get b=e0 s p p 0 v) (aF:p<s.length) (al:s.length<=100000) (dU:dA B h 4 v ws.length (gX ws)) (dC:Old h b) (fa:dP b<B) (cd:B<=h.next) (hw:ws.length<=90000):
 dY Tryz.prog 62 [.ptr b 0] h fun x ae=>pz s p b B ws h (qJ (s.drop p)) ae:=by
 refine Yo.z rfl (cm ?_);have B5:yI=.seq (match yI with | .seq x _=>x | c=>c) (.seq (.block 0 (.loop Hg)) Hh):=rfl;rw [B5];unfold yI;unfold e0 at ai;simp +contextual only [ai,↓aa,ab,simprocAttr]
 refine gb (fun r ae=>r 0=.ptr b 0/\Mod (lX b B) h ae/\dA B ae 4 v ws.length (gX ws)/\∃(a:Nat) (n e:Int),r 2=.int .i64 n/\ae.get b=.bd [.str s,.int .i64 a,.int .i64 p,.int .i64 e,v] 0 false/\p<=a/\a<=s.length/\il dW s p=il dW s a/\
  ((e=0/\n=fP ((s.drop p).take (a-p))/\fP ((s.drop p).take (a-p))<2147483648)\/(e=254/\2147483648<=fP ((s.drop p).take (a-p))/\0<=n/\n<2147483648))) (fun r ae=>s.length - ((gv (ae.get b) 1).getD .bad).toN) ?_ ?_
 . exact ⟨by simp only [↓aa,ab,simprocAttr],Mod.refl _ _,dU,p,0,0,by simp only [↓aa,ab,simprocAttr],ai,aoz _,by omega,rfl,.inl ⟨rfl,by rw [apY];rfl,by rw [apY];simp [fP]⟩⟩
 . rintro r ae ⟨aW,hm,pG,a,n,e,bc,ay,hQ,c8,br,bZ⟩;unfold Hg;have EH:=hm.next
   by_cases a7:a<s.length
   . have g0:((a:Int) < (s.length:Int))=True:=aoU (by omega);have g1:(0<=(a:Int))=True:=aoU (by omega);simp +contextual (maxSteps:=1000000) only [aW,ay,g0,g1,aoB a7,aoG,↓aa,ab,simprocAttr];refine bQ (oD _ _ _ _) ?_;rw [show gQ (s[a].toNat:Int) 48 57=dW s[a] from rfl];cases ax:dW s[a] with
     | true=>
       rw [KP a7 ax] at br;have bk:=ax;simp only [dW,n',aoE,aoO] at bk;have zi:=K7 hQ a7;have nc:fP ((s.drop p).take (a+1-p))=10 * fP ((s.drop p).take (a-p)) + (s[a].toNat-48):=by rw [zi,TJ]
       have sq:0<=n/\n<2147483648:=by omega
       have b9:IntKind.i64.wrap ((a:Int)+1)=((a+1:Nat):Int):=by rw [wrap_i64 (by omega) (by omega)];rfl
       have aR:IntKind.u8.wrap ((s[a].toNat:Int)-48)=(s[a].toNat:Int)-48:=wrap_u8 (by omega) (by omega);have eH:IntKind.i64.wrap ((s[a].toNat:Int)-48)=(s[a].toNat:Int)-48:=wrap_i64 (by omega) (by omega);have gn:IntKind.i64.wrap (10 * n)=10 * n:=wrap_i64 (by omega) (by omega);have rV:IntKind.i64.wrap (10 * n + ((s[a].toNat:Int)-48))=10 * n + ((s[a].toNat:Int)-48):=wrap_i64 (by omega) (by omega);by_cases oZ:(2147483648:Int)<=10 * n + ((s[a].toNat:Int)-48)
       . simp +contextual (maxSteps:=1000000) only [aW,bc,ay,g0,g1,b9,aR,eH,gn,rV,oZ,aoB a7,aoG,↓aa,ab,simprocAttr];refine ⟨⟨(hm.set (fun _=>.inl rfl) _).set (fun _=>.inl rfl) _,pq (pq pG fa _) fa _,a+1,0,254,rfl,rfl,by omega,by omega,br,.inr ⟨rfl,?_,by omega,by omega⟩⟩,by omega⟩;rw [nc];rcases bZ with ⟨_,q,_⟩ | ⟨_,q,_⟩<;>omega
       . simp +contextual (maxSteps:=1000000) only [aW,bc,ay,g0,g1,b9,aR,eH,gn,rV,oZ,aoB a7,aoG,↓aa,ab,simprocAttr];refine ⟨⟨hm.set (fun _=>.inl rfl) _,pq pG fa _,a+1,_,e,rfl,rfl,by omega,by omega,br,?_⟩,by omega⟩;rw [nc];rcases bZ with ⟨mG,q,_⟩ | ⟨mG,q,_⟩
         . exact .inl ⟨mG,by omega,by omega⟩
         . exact .inr ⟨mG,by omega,by omega,by omega⟩
     | false=>
       rw [KQ a7 ax] at br;simp +contextual (maxSteps:=1000000) only [aW,ay,g0,g1,aoB a7,aoG,↓aa,ab,simprocAttr];refine SC s p n e ws v b B h ae hm (by rw [br];exact ay) (by omega) al pG (hm.cu dC) fa (by omega) hw ?_ _ (by simp only [aW,↓aa,ab,simprocAttr]) (by simp only [bc,↓aa,ab,simprocAttr]) _ (fun _ _ U=>⟨trivial,U⟩);rw [<-FM dW s p,br];exact bZ
   . have g0:((a:Int) < (s.length:Int))=False:=aoV (by omega);rw [KN (a:=a) (by omega)] at br;simp +contextual (maxSteps:=1000000) only [aW,ay,g0,↓aa,ab,simprocAttr];refine SC s p n e ws v b B h ae hm (by rw [br];exact ay) (by omega) al pG (hm.cu dC) fa (by omega) hw ?_ _ (by simp only [aW,↓aa,ab,simprocAttr]) (by simp only [bc,↓aa,ab,simprocAttr]) _ (fun _ _ U=>⟨trivial,U⟩);rw [<-FM dW s p,br];exact bZ
theorem Bs (c:UInt8) (r:List UInt8):kD (c::r)=if c=110 then some (10,1) else if c=116 then some (9,1) else if c=34 then some (34,1) else if c=92 then some (92,1) else
 if 2<=r.length/\dW c/\dW (r[0]?.getD 0)/\dW (r[1]?.getD 0)/\fP (c::r.take 2)<256 then some ((fP (c::r.take 2)).toUInt8,3) else none:=rfl
theorem aaM (R:List UInt8) (c1:R≠[]) (ad:R[0]? ≠some 110) (ag:R[0]? ≠some 116) (ar:R[0]? ≠some 34) (aT:R[0]? ≠some 92):
 kD R=if 3<=R.length/\(R.take 3).all dW=true/\fP (R.take 3)<256 then some ((fP (R.take 3)).toUInt8,3) else none:=by
 match R,c1 with
 | c::r,_=>
   simp only [aoR,ne_eq,aoC] at ad ag ar aT;rw [Bs,aoI ad,aoI ag,aoI ar,aoI aT]
   match r with
   | []=>simp
   | [_]=>simp
   | d1::d2::bq=>
     simp [and_assoc]
theorem VI {R:List UInt8} {i:Nat} (aJ:i<=3) (h:(R.take 3).all dW=true):(R.take i).all dW=true:=by rw [ao9] at h ⊢;intro x au;refine h x ?_;rw [show R.take i=(R.take 3).take i from by rw [List.take_take,Nat.min_eq_left aJ]] at au;exact List.mem_of_mem_take au
theorem VH {s:List UInt8} {a i:Nat} (a7:a+i<s.length):((s.drop a).take (i+1)).all dW=(((s.drop a).take i).all dW&&dW s[a+i]):=by have h:=K7 (p:=a) (a:=a+i) (by omega) a7;rw [show a+i+1-a=i+1 from by omega,show a+i-a=i from by omega] at h;rw [h,List.all_append];simp
theorem ame {s:List UInt8} {a i:Nat} (a7:a+i<s.length):fP ((s.drop a).take (i+1))=10 * fP ((s.drop a).take i) + (s[a+i].toNat-48):=by have h:=K7 (p:=a) (a:=a+i) (by omega) a7;rw [show a+i+1-a=i+1 from by omega,show a+i-a=i from by omega] at h;rw [h,TJ]
theorem akf (s:List UInt8) (a:Nat) (cP:Int) (v:V) (b:aN) (h:ah) (ai:h.get b=e0 s a cP 0 v) (aM:a<=s.length) (al:s.length<=100000) (dC:Old h b):
 dY Tryz.prog 116 [.ptr b 0] h fun x ae=>Mod (fun q=>q=b) h ae/\match kD (s.drop a) with
  | some (c,n)=>x=.int .u8 (c.toNat:Int)/\ae.get b=e0 s ((a+n:Nat):Int) cP 0 v/\a+n<=s.length
  | none=>(∃c:UInt8,x=.int .u8 (c.toNat:Int))/\∃bF:Nat,ae.get b=e0 s (bF:Int) cP 252 v/\a<=bF/\bF<=s.length:=by
 refine W0.z rfl (cm ?_);unfold MP;unfold e0 at ai ⊢;have kK:∀v,ba.Mod (fun q=>q=b) h ((h.set b v)):=fun v=>(Mod.refl (fun q=>q=b) h).self _;by_cases fD:(s.length:Int)<=(a:Int)
 . have c1:s.drop a=[]:=ao_ (by omega);rw [c1];simp +contextual only [ai,fD,↓aa,ab,simprocAttr];exact ⟨kK _,⟨0,rfl⟩,a,rfl,aoz _,aM⟩
 . have a7:a<s.length:=by omega
   have f0:(0<=(a:Int))=True:=aoU (by omega);have f1:((a:Int) < (s.length:Int))=True:=aoU (by omega);have b9:IntKind.i64.wrap ((a:Int)+1)=((a+1:Nat):Int):=by rw [wrap_i64 (by omega) (by omega)];rfl
   have Bj:((s[a].toNat:Int)=110)=(s[a]=110):=lP _ 110 (by omega);have Bk:((s[a].toNat:Int)=116)=(s[a]=116):=lP _ 116 (by omega);have h_:((s[a].toNat:Int)=34)=(s[a]=34):=lP _ 34 (by omega);have oU:((s[a].toNat:Int)=92)=(s[a]=92):=lP _ 92 (by omega);have bk:=drop_cons a7;by_cases cf:s[a]=110
   . have em:kD (s.drop a)=some (10,1):=by rw [bk,Bs,aoN cf]
     rw [em];have cf:=aoU cf;simp +contextual only [ai,fD,f0,f1,b9,Bj,Bk,h_,oU,cf,aoB a7,aoG,↓aa,ab,simprocAttr];refine ⟨kK _,?_⟩
     first | omega | (refine ⟨rfl,?_⟩;omega) | (simp [c3];omega) | (simp [hj];omega) | (simp;omega)
   by_cases c6:s[a]=116
   . have em:kD (s.drop a)=some (9,1):=by rw [bk,Bs,aoI cf,aoN c6]
     rw [em];have c6:=aoU c6;simp +contextual only [ai,fD,f0,f1,b9,Bj,Bk,h_,oU,cf,c6,aoB a7,aoG,↓aa,ab,simprocAttr];refine ⟨kK _,?_⟩
     first | omega | (refine ⟨rfl,?_⟩;omega) | (simp [c3];omega) | (simp [hj];omega) | (simp;omega)
   by_cases c3:s[a]=34
   . have em:kD (s.drop a)=some (34,1):=by rw [bk,Bs,aoI cf,aoI c6,aoN c3]
     rw [em];have tf:=aoU c3;simp +contextual only [ai,fD,f0,f1,b9,Bj,Bk,h_,oU,cf,c6,tf,aoB a7,aoG,↓aa,ab,simprocAttr];refine ⟨kK _,?_⟩
     first | omega | (refine ⟨rfl,?_⟩;omega) | (simp [c3];omega) | (simp [hj];omega) | (simp;omega)
   by_cases hj:s[a]=92
   . have em:kD (s.drop a)=some (92,1):=by rw [bk,Bs,aoI cf,aoI c6,aoI c3,aoN hj]
     rw [em];have X':=aoU hj;simp +contextual only [ai,fD,f0,f1,b9,Bj,Bk,h_,oU,cf,c6,c3,X',aoB a7,aoG,↓aa,ab,simprocAttr];refine ⟨kK _,?_⟩
     first | omega | (refine ⟨rfl,?_⟩;omega) | (simp [c3];omega) | (simp [hj];omega) | (simp;omega)
   have El:(s.drop a)[0]? =some s[a]:=by rw [bk];rfl
   have em:=aaM (s.drop a) (by rw [bk];exact List.cons_ne_nil _ _) (by rw [El];simpa using cf) (by rw [El];simpa using c6) (by rw [El];simpa using c3) (by rw [El];simpa using hj);have ab7:(s.drop a).length=s.length-a:=aoZ;rw [ab7] at em;rw [em];simp +contextual only [ai,fD,f0,f1,b9,Bj,Bk,h_,oU,cf,c6,c3,hj,aoB a7,aoG,↓aa,ab,simprocAttr]
   refine gb (fun r ae=>r 0=.ptr b 0/\ae=h.set b (.bd [.str s,.int .i64 ((a+1:Nat):Int),.int .i64 cP,.int .i64 0,v] 0 false)/\∃(i:Nat) (n:Int),r 5=.int .i64 i/\r 4=.int .i64 n/\i<=3/\a+i<=s.length/\((s.drop a).take i).all dW=true/\n=fP ((s.drop a).take i)/\
    ((i=0/\n<1)\/(i=1/\n<10)\/(i=2/\n<100)\/(i=3/\n<1000))) (fun r ae=>3 - (r 5).toN) ?_ ?_
   . exact ⟨by simp only [↓aa,ab,simprocAttr],rfl,0,0,by simp only [↓aa,ab,simprocAttr]<;>rfl,by simp only [↓aa,ab,simprocAttr],by omega,by omega,rfl,rfl,.inl ⟨rfl,by omega⟩⟩
   . rintro r ae ⟨aW,rfl,i,n,b1,cU,anB,BL,gq,aI,sq⟩;have mv:∀k:c_,(h.set b k).get b=k:=fun k=>by rw [ey,aoN rfl]
     by_cases aJ:i<3
     . have g0:((i:Int)<3)=True:=aoU (by omega);have v1:IntKind.i64.wrap (((a+1:Nat):Int)-1)=(a:Int):=by rw [wrap_i64 (by omega) (by omega)];omega
       have v2:IntKind.i64.wrap ((a:Int) + (i:Int))=((a+i:Nat):Int):=by rw [wrap_i64 (by omega) (by omega)];rfl
       by_cases hy:(s.length:Int)<=((a+i:Nat):Int)
       . simp +contextual (maxSteps:=1000000) only [aW,b1,cU,g0,v1,v2,mv,hy,↓aa,ab,simprocAttr];rw [aoI (by omega)];exact ⟨(kK _).self _,⟨0,rfl⟩,a+1,by first | rfl | rw [ey,aoN rfl],by omega,by omega⟩
       . have BU:a+i<s.length:=by omega
         have g1:(0<=((a+i:Nat):Int))=True:=aoU (by omega);have g2:(((a+i:Nat):Int) < (s.length:Int))=True:=aoU (by omega);simp +contextual (maxSteps:=1000000) only [aW,b1,cU,g0,g1,g2,v1,v2,mv,hy,aoB BU,aoG,↓aa,ab,simprocAttr];refine bQ (oD _ _ _ _) ?_;rw [show gQ (s[a+i].toNat:Int) 48 57=dW s[a+i] from rfl];have has:=VH BU;rw [gq,ap1] at has;cases ax:dW s[a+i] with
         | true=>
           rw [ax] at has;have nc:=ame BU;have w4:=ax;simp only [dW,n',aoE,aoO] at w4;have vT:IntKind.u8.wrap ((s[a+i].toNat:Int)-48)=(s[a+i].toNat:Int)-48:=wrap_u8 (by omega) (by omega);have Le:IntKind.i64.wrap ((s[a+i].toNat:Int)-48)=(s[a+i].toNat:Int)-48:=wrap_i64 (by omega) (by omega);have Tx:IntKind.i64.wrap (10 * n)=10 * n:=wrap_i64 (by omega) (by omega);have al2:IntKind.i64.wrap (10 * n + ((s[a+i].toNat:Int)-48))=10 * n + ((s[a+i].toNat:Int)-48):=wrap_i64 (by omega) (by omega);have al3:IntKind.i64.wrap ((i:Int)+1)=((i+1:Nat):Int):=by rw [wrap_i64 (by omega) (by omega)];rfl
           simp +contextual (maxSteps:=1000000) only [aW,b1,cU,g0,g1,g2,v1,v2,vT,Le,Tx,al2,al3,mv,hy,aoB BU,aoG,↓aa,ab,simprocAttr];exact ⟨⟨i+1,_,rfl,rfl,by omega,by omega,has,by rw [nc];omega,by omega⟩,by omega⟩
         | false=>
           rw [ax] at has;have adf:¬((s.drop a).take 3).all dW=true:=fun q=>by rw [VI (i:=i+1) (by omega) q] at has;cases has
           simp +contextual (maxSteps:=1000000) only [aW,b1,cU,g0,g1,g2,v1,v2,mv,hy,aoB BU,aoG,↓aa,ab,simprocAttr];rw [aoI (fun q=>adf q.2.1)];exact ⟨(kK _).self _,⟨0,rfl⟩,a+1,by first | rfl | rw [ey,aoN rfl],by omega,by omega⟩
     . obtain rfl:i=3:=by omega
       have g0:((3:Int)<3)=False:=aoV (by omega);have NP:((3:Nat):Int)=3:=rfl;have v1:IntKind.i64.wrap (((a+1:Nat):Int)+2)=((a+3:Nat):Int):=by rw [wrap_i64 (by omega) (by omega)];omega
       by_cases oZ:(255:Int)<n
       . have hw:IntKind.u8.wrap n=((n.toNat.toUInt8).toNat:Int):=by
          simp [IntKind.wrap,IntKind.bits,IntKind.signed];omega
         simp +contextual (maxSteps:=1000000) only [aW,b1,cU,NP,g0,v1,mv,oZ,hw,↓aa,ab,simprocAttr];rw [aoI (by omega)];exact ⟨((kK _).self _).self _,⟨_,rfl⟩,a+3,by first | rfl | rw [ey,aoN rfl],by omega,by omega⟩
       . have hw:IntKind.u8.wrap n=(((fP ((s.drop a).take 3)).toUInt8).toNat:Int):=by
          rw [aI];simp [IntKind.wrap,IntKind.bits,IntKind.signed]
         simp +contextual (maxSteps:=1000000) only [aW,b1,cU,NP,g0,v1,mv,oZ,hw,↓aa,ab,simprocAttr];rw [aoN ⟨by omega,gq,by omega⟩];refine ⟨(kK _).self _,?_⟩
         first | omega | exact ⟨rfl,by first | rfl | rw [ey,aoN rfl],by omega⟩
def Hl:cb:=match wA with
 | .seq _ (.seq _ (.seq _ t))=>t
 | c=>c
theorem KC (s:List UInt8) (p a:Nat) (e:Int) (b7:List UInt8) (v2:V) (ws:List aq) (v:V) (b:aN) (B:Nat) (aM h:ah) (hm:Mod (lX b B) aM h) (ai:h.get b=.bd [.str s,.int .i64 a,.int .i64 p,.int .i64 e,v] 0 false) (aF:p<s.length) (b5:a<=s.length) (xe:p+1<=a) (al:s.length<=100000) (dU:dA B h 4 v ws.length (gX ws)) (dC:Old h b) (fa:dP b<B) (cd:B<=h.next) (hw:ws.length<=90000)
 (ht:dA B h 1 v2 b7.length (g' b7))
 (a8:(e=0/\a<s.length/\ns (s.drop (p+1))=some (b7,a-p))\/((e=252\/(e=0/\s.length<=a))/\ns (s.drop (p+1))=none))
 (r:a1) (aW:r 0=.ptr b 0) (bc:r 2=v2) (Q:ec->a1->ah->Prop) (b':∀bq ae,pz s p b B ws aM (mJ (s.drop (p+1))) ae->Q .normal bq ae):
 bL Tryz.prog [.c Hl] .normal r h Q:=by
 unfold Hl wA;have b9:IntKind.i64.wrap ((a:Int)+1)=((a+1:Nat):Int):=by rw [wrap_i64 (by omega) (by omega)];rfl
 have ri:∀k,dA B (h.set b k) 1 v2 b7.length (g' b7):=fun k=>ht.mod ((Mod.refl (fun q=>q=b) h).self k) (fun q aH e=>by have:=ht.base aH;rw [show q=b from e] at this;omega);have PQ:∀k dJ,dA B ((h.set b k).set b dJ) 1 v2 b7.length (g' b7):=fun k dJ=>(ri k).mod ((Mod.refl (fun q=>q=b) (h.set b k)).self dJ) (fun q aH e=>by have:=ht.base aH;rw [show q=b from e] at this;omega);have vg:∀(h:ah) (k:c_),(h.set b k).get b=k:=fun h k=>by rw [ey,aoN rfl]
 rcases a8 with ⟨rfl,a7,I8⟩ | ⟨he,I8⟩
 . have tL:mJ (s.drop (p+1))=if 4096<b7.length then .error 255 else .ok (2,0,b7,a-p+1):=by unfold mJ;rw [I8]
   rw [tL] at b';have g0:((s.length:Int)<=(a:Int))=False:=aoV (by omega);by_cases oZ:4096<b7.length
   . rw [aoN oZ] at b';have g1:((4096:Int) < (b7.length:Int))=True:=aoU (by omega);simp +contextual (maxSteps:=1000000) only [aW,bc,ai,g0,g1,b9,vg,ht.v.len,th (PQ _ _),th (ri _),↓aa,ab,simprocAttr];refine aY (oO s (a+1) p 255 2 0 b7 ws v b B _ (by rw [vg];rfl) (pq (pq dU fa _) fa _) dC fa (by rw [iO,iO];omega) (by omega)) ?_;rintro x ag ⟨fb,v3,an,av⟩;simp +contextual only [aW,↓aa,ab,simprocAttr];exact b' _ _ ⟨((hm.set (fun _=>.inl rfl) _).set (fun _=>.inl rfl) _).trans fb,v3,by decide,_,an⟩
   . rw [aoI oZ] at b';have g1:((4096:Int) < (b7.length:Int))=False:=aoV (by omega);simp +contextual (maxSteps:=1000000) only [aW,bc,ai,g0,g1,b9,vg,ht.v.len,th (ri _),↓aa,ab,simprocAttr];refine aY (oO s (a+1) p 0 2 0 b7 ws v b B _ (by rw [vg];rfl) (pq dU fa _) dC fa (by rw [iO];omega) (by omega)) ?_;rintro x ag ⟨fb,v3,an,av⟩;simp +contextual only [aW,↓aa,ab,simprocAttr];refine b' _ _ ⟨(hm.set (fun _=>.inl rfl) _).trans fb,v3,?_,?_,av⟩
     . rw [an];show e0 s ((a+1:Nat):Int) p 0 v3=e0 s ((p + (a-p+1):Nat):Int) p 0 v3;rw [show p + (a-p+1)=a+1 from by omega]
     . show p + (a-p+1)<=s.length;omega
 . have tL:mJ (s.drop (p+1))=.error 252:=by unfold mJ;rw [I8]
   rw [tL] at b';rcases he with rfl | ⟨rfl,o5⟩
   . simp +contextual (maxSteps:=1000000) only [aW,bc,ai,b9,vg,ht.v.len,th (ri _),↓aa,ab,simprocAttr];refine aY (oO s (a+1) p 252 2 0 b7 ws v b B _ (by rw [vg];rfl) (pq dU fa _) dC fa (by rw [iO];omega) (by omega)) ?_;rintro x ag ⟨fb,v3,an,av⟩;simp +contextual only [aW,↓aa,ab,simprocAttr];exact b' _ _ ⟨(hm.set (fun _=>.inl rfl) _).trans fb,v3,by decide,_,an⟩
   . have g0:((s.length:Int)<=(a:Int))=True:=aoU (by omega);simp +contextual (maxSteps:=1000000) only [aW,bc,ai,g0,b9,vg,ht.v.len,th (ri _),th (PQ _ _),↓aa,ab,simprocAttr];refine aY (oO s (a+1) p 252 2 0 b7 ws v b B _ (by rw [vg];rfl) (pq (pq dU fa _) fa _) dC fa (by rw [iO,iO];omega) (by omega)) ?_;rintro x ag ⟨fb,v3,an,av⟩;simp +contextual only [aW,↓aa,ab,simprocAttr];exact b' _ _ ⟨((hm.set (fun _=>.inl rfl) _).set (fun _=>.inl rfl) _).trans fb,v3,by decide,_,an⟩
theorem akl (s:List UInt8) (p:Nat) (ws:List aq) (v:V) (b:aN) (B:Nat) (h:ah) (ai:h.get b=e0 s p p 0 v) (aF:p<s.length) (al:s.length<=100000) (dU:dA B h 4 v ws.length (gX ws)) (dC:Old h b) (fa:dP b<B) (cd:B<=h.next) (hw:ws.length<=90000):
 dY Tryz.prog 64 [.ptr b 0] h fun x ae=>pz s p b B ws h (mJ (s.drop (p+1))) ae:=by
 refine Yq.z rfl (cm ?_);have B5:wA=.seq (match wA with | .seq x _=>x | c=>c) (.seq (match wA with | .seq _ (.seq y _)=>y | c=>c) (.seq (.block 0 (.loop Hk)) Hl)):=rfl;rw [B5];unfold wA;unfold e0 at ai;have b9:IntKind.i64.wrap ((p:Int)+1)=((p+1:Nat):Int):=by rw [wrap_i64 (by omega) (by omega)];rfl
 simp +contextual only [ai,b9,↓aa,ab,simprocAttr];have ab9:∀ae,Mod (fun q=>q=b) h ae->dA B ae 4 v ws.length (gX ws):=fun ae hm=>dU.mod hm (fun q aH e=>by have:=dU.base aH;rw [show q=b from e] at this;omega)
 refine gb (fun r ae=>r 0=.ptr b 0/\∃(a:Nat) (e:Int) (b7:List UInt8) (v2:V),r 2=v2/\ae.get b=.bd [.str s,.int .i64 a,.int .i64 p,.int .i64 e,v] 0 false/\a<=s.length/\p+1<=a/\b7.length<=a/\Mod (fun q=>q=b) h ae/\dA h.next ae 1 v2 b7.length (g' b7)/\
  ((e=0/\ns (s.drop (p+1))=(ns (s.drop a)).map fun q=>(b7++q.1,q.2 + (a - (p+1))))\/(e=252/\ns (s.drop (p+1))=none)))
  (fun r ae=>(s.length - ((gv (ae.get b) 1).getD .bad).toN) + (252 - ((gv (ae.get b) 3).getD .bad).toN)) ?_ ?_
 . refine ⟨by simp only [↓aa,ab,simprocAttr],p+1,0,[],.cL,by simp only [↓aa,ab,simprocAttr],by rw [ey,aoN rfl],by omega,by omega,by simp,(Mod.refl _ _).self _,⟨rfl,rfl⟩,.inl ⟨rfl,?_⟩⟩;rw [apY];cases ns (s.drop (p+1))<;>rfl
 . rintro r ae ⟨aW,a,e,b7,v2,bc,ay,c8,hQ,xr,hm,ht,br⟩;unfold Hk;have j5:=hm.next
   have H_:=ab9 _ hm;have rH:∀{ag:ah},dA h.next ag 1 v2 b7.length (g' b7)->∀q,v2.bp q->¬(fun q=>q=b) q:=by
    intro ag dU q aH he;have ad:=dU.base aH;rw [show q=b from he] at ad;have ag:dP b<h.next:=dC
    omega
   have IN:Mod (lX b B) h ae:=hm.mono (fun q _ aH=>.inl aH);have H':dA B ae 1 v2 b7.length (g' b7):=ht.mono cd;rcases br with ⟨rfl,br⟩ | ⟨rfl,br⟩
   . by_cases a7:a<s.length
     . have g0:((a:Int) < (s.length:Int))=True:=aoU (by omega);have g1:(0<=(a:Int))=True:=aoU (by omega);have aR:IntKind.i64.wrap ((a:Int)+1)=((a+1:Nat):Int):=by rw [wrap_i64 (by omega) (by omega)];rfl
       have h_:(((s[a]).toNat:Int)=34)=(s[a]=34):=lP _ 34 (by omega);have oU:(((s[a]).toNat:Int)=92)=(s[a]=92):=lP _ 92 (by omega);have Bl:(((s[a]).toNat:Int)=127)=(s[a]=127):=lP _ 127 (by omega);have Ck:(((s[a]).toNat:Int)<32)=(s[a]<32):=Tz _ 32 (by omega);rw [drop_cons a7,Tp] at br;have step:∀(ag:ah),Mod (fun q=>q=b) h ag->ae.next<=ag.next->dA h.next ag 1 v2 b7.length (g' b7)->∀(c:UInt8),∃v3 ar,kj 1 v2 (.slice (ao ag.next) 0 1 1) (ag.new (.bd [.int .u8 (c.toNat:Int)] 0 false))=.val v3 ar/\dA h.next ar 1 v3 (b7++[c]).length (g' (b7++[c]))/\Mod (fun q=>q=b) h ar/\ar.get b=ag.get b:=by intro ag fb adh ri c;obtain ⟨v3,ar,an,av,aB,bt,ca⟩:=AU (cs:=[.int .u8 (c.toNat:Int)]) (by omega) ri (by omega) (by unfold top;omega) rfl rfl;refine ⟨v3,ar,an,by rw [aoL,DI];exact av,fb.Tr aB (fun q aH=>ri.base aH),?_⟩;exact aB.get _ (fb.cu dC) (fun aH=>rH ri _ aH rfl)
       by_cases cf:s[a]=34
       . rw [aoN cf] at br;simp only [apu,aoX] at br;have A8:=aoU cf;simp +contextual (maxSteps:=1000000) only [aW,bc,ay,g0,g1,h_,A8,aoB a7,aoG,↓aa,ab,simprocAttr];refine KC s p a 0 b7 v2 ws v b B h ae IN ay aF c8 hQ al H_ (hm.cu dC) fa (by omega) hw H' (.inl ⟨rfl,a7,?_⟩) _ (by simp only [aW,↓aa,ab,simprocAttr]) (by simp only [bc,↓aa,ab,simprocAttr]) _ (fun _ _ U=>⟨trivial,U⟩);rw [br,show 1 + (a - (p+1))=a-p from by omega]
       rw [aoI cf] at br;by_cases c6:s[a]=92
       . rw [aoN c6] at br;have XA:=aoU c6;simp +contextual (maxSteps:=1000000) only [aW,bc,ay,g0,g1,h_,oU,cf,XA,aR,aoB a7,aoG,↓aa,ab,simprocAttr];refine aY (akf s (a+1) p v b (ae.set b (.bd [.str s,.int .i64 ((a+1:Nat):Int),.int .i64 p,.int .i64 0,v] 0 false)) (by rw [ey,aoN rfl];rfl) (by omega) al (hm.cu dC)) ?_;rintro x ag ⟨fb,au⟩;have BX:Mod (fun q=>q=b) ae ag:=((Mod.refl (fun q=>q=b) ae).self _).trans fb;have ri:=ht.mod BX (rH ht);have sH:=BX.next
         obtain ⟨c,ax,tI⟩:∃c:UInt8,x=.int .u8 (c.toNat:Int)/\((∃n,kD (s.drop (a+1))=some (c,n)/\ag.get b=e0 s ((a+1+n:Nat):Int) p 0 v/\a+1+n<=s.length)\/(kD (s.drop (a+1))=none/\∃bF:Nat,ag.get b=e0 s (bF:Int) p 252 v/\a+1<=bF/\bF<=s.length)):=by
          cases pK:kD (s.drop (a+1)) with
          | none=>
            rw [pK] at au;obtain ⟨⟨c,ax⟩,au⟩:=au;exact ⟨c,ax,.inr ⟨rfl,au⟩⟩
          | some q=>rw [pK] at au;exact ⟨q.1,au.1,.inl ⟨q.2,rfl,au.2⟩⟩
         subst ax;obtain ⟨v3,ar,an,av,aB,ca⟩:=step ag (hm.trans BX) sH ri c;unfold e0 at tI;rcases tI with ⟨n,pK,l1,hle⟩ | ⟨pK,bF,l1,anw,aca⟩
         . rw [l1] at ca;simp +contextual (maxSteps:=1000000) only [an,aW,bc,ay,l1,ca,↓aa,ab,simprocAttr];rw [pK] at br;simp only at br;refine ⟨⟨a+1+n,0,b7++[c],rfl,hle,by omega,by simp;omega,aB,av,.inl ⟨rfl,?_⟩⟩,by omega⟩;rw [br,apv,apN];congr 1;funext q;simp only [Function.comp,api,ap7,apy,apV];omega
         . rw [l1] at ca;simp +contextual (maxSteps:=1000000) only [an,aW,bc,ay,l1,ca,↓aa,ab,simprocAttr];rw [pK] at br;exact ⟨⟨bF,252,b7++[c],rfl,aca,by omega,by simp;omega,aB,av,.inr ⟨rfl,br⟩⟩,by omega⟩
       rw [aoI c6] at br;by_cases c3:s[a]<32\/s[a]=127
       . rw [aoN c3] at br;have tf:(decide (s[a]<32)||decide (s[a]=127))=true:=by simpa using c3
         obtain ⟨v3,ar,an,av,aB,ca⟩:=step ((ae.set b (.bd [.str s,.int .i64 ((a+1:Nat):Int),.int .i64 p,.int .i64 0,v] 0 false)).set b (.bd [.str s,.int .i64 ((a+1:Nat):Int),.int .i64 p,.int .i64 252,v] 0 false)) ((hm.self _).self _) (by rw [iO,iO];exact aoz _) (ht.mod (((Mod.refl (fun q=>q=b) ae).self _).self _) (rH ht)) s[a];simp only [iO,ey,aoM] at an ca;simp +contextual (maxSteps:=1000000) only [an,aW,bc,ay,g0,g1,h_,oU,Bl,Ck,cf,c6,tf,aR,ca,aoB a7,aoG,↓aa,ab,simprocAttr];exact ⟨⟨a+1,252,b7++[s[a]],rfl,by omega,by omega,by simp;omega,aB,av,.inr ⟨rfl,br⟩⟩,by omega⟩
       . rw [aoI c3] at br;have tf:(decide (s[a]<32)||decide (s[a]=127))=false:=by simpa using c3
         obtain ⟨v3,ar,an,av,aB,ca⟩:=step (ae.set b (.bd [.str s,.int .i64 ((a+1:Nat):Int),.int .i64 p,.int .i64 0,v] 0 false)) (hm.self _) (by rw [iO];exact aoz _) (ht.mod ((Mod.refl (fun q=>q=b) ae).self _) (rH ht)) s[a];simp only [iO,ey,aoM] at an ca;simp +contextual (maxSteps:=1000000) only [an,aW,bc,ay,g0,g1,h_,oU,Bl,Ck,cf,c6,tf,aR,ca,aoB a7,aoG,↓aa,ab,simprocAttr];refine ⟨⟨a+1,0,b7++[s[a]],rfl,by omega,by omega,by simp;omega,aB,av,.inl ⟨rfl,?_⟩⟩,by omega⟩;rw [br,apN];congr 1;funext q;simp only [Function.comp,api,ap7,apy,apV];omega
     . have g0:((a:Int) < (s.length:Int))=False:=aoV (by omega);rw [ao_ (show s.length<=a by omega),Tq] at br;simp +contextual (maxSteps:=1000000) only [aW,bc,ay,g0,↓aa,ab,simprocAttr];exact KC s p a 0 b7 v2 ws v b B h ae IN ay aF c8 hQ al H_ (hm.cu dC) fa (by omega) hw H' (.inr ⟨.inr ⟨rfl,by omega⟩,br⟩) _ (by simp only [aW,↓aa,ab,simprocAttr]) (by simp only [bc,↓aa,ab,simprocAttr]) _ (fun _ _ U=>⟨trivial,U⟩)
   . simp +contextual (maxSteps:=1000000) only [aW,bc,ay,↓aa,ab,simprocAttr];exact KC s p a 252 b7 v2 ws v b B h ae IN ay aF c8 hQ al H_ (hm.cu dC) fa (by omega) hw H' (.inr ⟨.inl rfl,br⟩) _ (by simp only [aW,↓aa,ab,simprocAttr]) (by simp only [bc,↓aa,ab,simprocAttr]) _ (fun _ _ U=>⟨trivial,U⟩)
def Hb:cb:=match oQ with
 | .seq _ (.seq (.block _ (.seq _ (.seq _ (.seq _ t)))) _)=>t
 | c=>c
def Ha:cb:=match oQ with
 | .seq _ (.seq (.block _ (.seq _ (.seq _ (.seq (.block _ t) _)))) _)=>t
 | c=>c
theorem akX (r:List UInt8):po (39::r)=.error 251:=by
 unfold po;have h:∀L:List (List UInt8),(∀t ∈ L,t≠[]/\t.head? ≠some 39)->L.find? (·.isPrefixOf (39::r))=none:=by
  intro L gL;rw [List.find?_eq_none];intro t az;obtain ⟨ad,ag⟩:=gL t az;cases t with
  | nil=>exact absurd rfl ad
  | cons c t=>
    simp only [List.head?_cons,ne_eq,aoC] at ag;simp [List.isPrefixOf,ag]
 rw [h gF (by decide)]
theorem ahs (r:List UInt8):gd (39::r)=yb r:=by
 unfold yb;simp only [gd];rw [aoI (by decide),aoI (by decide),aoI (by decide),aoI (by decide)];cases h:o3 r with
 | true=>rw [aoN (by simp),aoN rfl]
 | false=>rw [aoI (by simp),aoI (by simp),akX]
theorem aaf (s:List UInt8) (p:Nat) (ws:List aq) (v:V) (b:aN) (B:Nat) (h:ah) (ai:h.get b=e0 s p p 0 v) (aF:p<s.length) (al:s.length<=90000) (dU:dA B h 4 v ws.length (gX ws)) (dC:Old h b) (fa:dP b<B) (cd:B<=h.next) (hw:ws.length<=90000)
 (r:a1) (cU:r 4=.ptr b 0) (b1:r 5=.int .u8 (s[p].toNat:Int)) (aQ:List iv) (Q:ec->a1->ah->Prop)
 (b':∀bq ae,bq 0=r 0->bq 3=r 3->bq 4=.ptr b 0->pz s p b B ws h (gd (s.drop p)) ae->bL Tryz.prog aQ .normal bq ae Q):
 bL Tryz.prog (.c Ha::aQ) .normal r h Q:=by
 unfold Ha oQ;have bk:=drop_cons aF;have q7:((s[p].toNat:Int)=95)=(s[p]=95):=lP _ 95 (by omega);have sa:((s[p].toNat:Int)=39)=(s[p]=39):=lP _ 39 (by omega);have h_:((s[p].toNat:Int)=34)=(s[p]=34):=lP _ 34 (by omega);rw [bk] at b';simp +contextual only [cU,b1,↓aa,ab,simprocAttr];refine bQ (oD _ _ _ _) ?_;rw [show gQ (s[p].toNat:Int) 97 122=ln (s[p].toNat:Int) from rfl];have fin:∀(f:FuncId) (res:qf),res=gd (s[p]::s.drop (p+1))->True:=fun _ _ _=>trivial;have xJ:(ln (s[p].toNat:Int)||decide (s[p]=95))=true->gd (s[p]::s.drop (p+1))=jr 3 (s.drop p)/\k3 (s[p].toNat:Int)=false/\d_ s[p]=true:=by
  intro q;rw [apF,aoO] at q;have Im:dW s[p]=false:=by
   rcases q with q | q
   . unfold ln at q;simp only [aoE,aoO] at q;unfold dW n';rw [show decide ((s[p].toNat:Int)<=57)=false from ap5 (by omega),aqa]
   . rw [q];decide
  have H4:¬s[p]=34:=by
   rcases q with q | q
   . intro e;rw [e] at q;revert q;decide
   . rw [q];decide
  refine ⟨?_,?_,?_⟩
  . rw [bk];simp only [gd];rw [aoI (by rw [Im];exact ao2),aoI H4,aoN (by rw [apF,aoO];exact q)]
  . rcases q with q | q
    . unfold ln at q;simp only [aoE,aoO] at q;unfold k3;rw [show decide ((s[p].toNat:Int)<=90)=false from ap5 (by omega),aqa]
    . rw [q];decide
  . exact q.elim KX TC
 cases ad:ln (s[p].toNat:Int) with
 | true=>
   obtain ⟨af,ay,aG⟩:=xJ (by rw [ad];rfl);rw [af] at b';simp +contextual only [cU,b1,↓aa,ab,simprocAttr];refine aY (KB s p 3 ws v b B h ai aF (by omega) dU dC fa cd hw (.inl ⟨rfl,ay⟩) aG) ?_;rintro x ag c1;simp +contextual only [cU,↓aa,ab,simprocAttr];exact b' _ _ (by simp only [↓aa,ab,simprocAttr]) (by simp only [↓aa,ab,simprocAttr]) (by simp only [cU,↓aa,ab,simprocAttr]) c1
 | false=>
   simp +contextual only [cU,b1,↓aa,ab,simprocAttr];refine bQ (oD _ _ _ _) ?_;rw [show gQ (s[p].toNat:Int) 65 90=k3 (s[p].toNat:Int) from rfl];cases ag:k3 (s[p].toNat:Int) with
   | true=>
     have ay:=ag;unfold k3 at ay;simp only [aoE,aoO] at ay;have af:gd (s[p]::s.drop (p+1))=jr 4 (s.drop p):=by
      have Im:dW s[p]=false:=by unfold dW n';rw [show decide ((s[p].toNat:Int)<=57)=false from ap5 (by omega),aqa]
      have H4:¬s[p]=34:=by intro e;rw [e] at ay;revert ay;decide
      have abW:¬s[p]=95:=by intro e;rw [e] at ay;revert ay;decide
      rw [bk];simp only [gd];rw [aoI (by rw [Im];exact ao2),aoI H4,aoI (by rw [ad];simpa using abW),aoN ag]
     rw [af] at b';simp +contextual only [cU,b1,↓aa,ab,simprocAttr];refine aY (KB s p 4 ws v b B h ai aF (by omega) dU dC fa cd hw (.inr ⟨rfl,ag⟩) (PG ag)) ?_;rintro x ag c1;simp +contextual only [cU,↓aa,ab,simprocAttr];exact b' _ _ (by simp only [↓aa,ab,simprocAttr]) (by simp only [↓aa,ab,simprocAttr]) (by simp only [cU,↓aa,ab,simprocAttr]) c1
   | false=>
     by_cases ar:s[p]=95
     . obtain ⟨af,ay,aG⟩:=xJ (by rw [ar];rfl);rw [af] at b';have Ef:=aoU ar;simp +contextual only [cU,b1,q7,Ef,↓aa,ab,simprocAttr];refine aY (KB s p 3 ws v b B h ai aF (by omega) dU dC fa cd hw (.inl ⟨rfl,ay⟩) aG) ?_;rintro x ag c1;simp +contextual only [cU,↓aa,ab,simprocAttr];exact b' _ _ (by simp only [↓aa,ab,simprocAttr]) (by simp only [↓aa,ab,simprocAttr]) (by simp only [cU,↓aa,ab,simprocAttr]) c1
     . simp +contextual only [cU,b1,q7,ar,↓aa,ab,simprocAttr];refine bQ (oD _ _ _ _) ?_;rw [show gQ (s[p].toNat:Int) 48 57=dW s[p] from rfl];have tJ:¬(ln (s[p].toNat:Int)||decide (s[p]=95))=true:=by rw [ad];simpa using ar
       cases aT:dW s[p] with
       | true=>
         have af:gd (s[p]::s.drop (p+1))=qJ (s.drop p):=by rw [bk];simp only [gd];rw [aoN aT]
         rw [af] at b';simp +contextual only [cU,b1,↓aa,ab,simprocAttr];refine aY (aki s p ws v b B h ai aF (by omega) dU dC fa cd hw) ?_;rintro x ag c1;simp +contextual only [cU,↓aa,ab,simprocAttr];exact b' _ _ (by simp only [↓aa,ab,simprocAttr]) (by simp only [↓aa,ab,simprocAttr]) (by simp only [cU,↓aa,ab,simprocAttr]) c1
       | false=>
         have PM:¬dW s[p]=true:=by rw [aT];exact ao2
         have abQ:¬k3 (s[p].toNat:Int)=true:=by rw [ag];exact ao2
         by_cases bE:s[p]=39
         . have af:gd (s[p]::s.drop (p+1))=yb (s.drop (p+1)):=by rw [bE];exact ahs _
           rw [af] at b';have abU:=aoU bE;simp +contextual only [cU,b1,sa,abU,↓aa,ab,simprocAttr];refine aY (akm s p ws v b B h ai aF (by omega) dU dC fa cd hw) ?_;rintro x ag c1;simp +contextual only [cU,↓aa,ab,simprocAttr];exact b' _ _ (by simp only [↓aa,ab,simprocAttr]) (by simp only [↓aa,ab,simprocAttr]) (by simp only [cU,↓aa,ab,simprocAttr]) c1
         . by_cases bA:s[p]=34
           . have af:gd (s[p]::s.drop (p+1))=mJ (s.drop (p+1)):=by simp only [gd];rw [aoI PM,aoN bA]
             rw [af] at b';have abV:=aoU bA;simp +contextual only [cU,b1,sa,h_,bE,abV,↓aa,ab,simprocAttr];refine aY (akl s p ws v b B h ai aF (by omega) dU dC fa cd hw) ?_;rintro x ag c1;simp +contextual only [cU,↓aa,ab,simprocAttr];exact b' _ _ (by simp only [↓aa,ab,simprocAttr]) (by simp only [↓aa,ab,simprocAttr]) (by simp only [cU,↓aa,ab,simprocAttr]) c1
           . have af:gd (s[p]::s.drop (p+1))=po (s.drop p):=by rw [bk];simp only [gd];rw [aoI PM,aoI bA,aoI tJ,aoI abQ,aoI (fun q=>bE q.1)]
             rw [af] at b';simp +contextual only [cU,b1,sa,h_,bE,bA,↓aa,ab,simprocAttr];refine aY (akj s p ws v b B h ai aF (by omega) dU dC fa cd hw) ?_;rintro x ag c1;simp +contextual only [cU,↓aa,ab,simprocAttr];exact b' _ _ (by simp only [↓aa,ab,simprocAttr]) (by simp only [↓aa,ab,simprocAttr]) (by simp only [cU,↓aa,ab,simprocAttr]) c1
theorem NF:oQ=.seq (match oQ with | .seq x _=>x | c=>c) (.seq (.block 1 (.seq (match oQ with | .seq _ (.seq (.block _ (.seq x _)) _)=>x | c=>c) (.seq (match oQ with | .seq _ (.seq (.block _ (.seq _ (.seq x _))) _)=>x | c=>c) (.seq (.block 2 Ha) Hb)))) (match oQ with | .seq _ (.seq _ x)=>x | c=>c)):=rfl
def Hc:cb:=match r5 with
 | .seq _ (.seq _ (.seq _ (.seq _ (.seq _ t))))=>t
 | c=>c
theorem XY:r5=.seq (match r5 with | .seq x _=>x | c=>c) (.seq (match r5 with | .seq _ (.seq x _)=>x | c=>c) (.seq (match r5 with | .seq _ (.seq _ (.seq x _))=>x | c=>c) (.seq (match r5 with | .seq _ (.seq _ (.seq _ (.seq x _)))=>x | c=>c) (.seq (.seq (match r5 with | .seq _ (.seq _ (.seq _ (.seq _ (.seq (.seq x _) _))))=>x | c=>c) (.block 0 (.loop oQ))) Hc)))):=rfl
def L6 (s:List UInt8) (b:aN) (B:Nat) (ae:ah):Prop:=∃(v:V),(∃(a:Nat) (cP:Int) (ws:List aq),ae.get b=e0 s a cP 0 v/\a<=s.length/\ws.length<=a/\dA B ae 4 v ws.length (gX ws)/\jL s=zZ ws (nJ (s.drop a) a)/\∀a7:a<s.length,blank s[a]=false/\([40,42]:List UInt8).isPrefixOf (s.drop a)=false)\/
 (∃(a e:Int) (cP:Nat),ae.get b=e0 s a cP e v/\e≠0/\jL s=.error (e,cP))
theorem FI (s:List UInt8) (jM:Nat) (aM h:ah) (au:Ext aM h) (aI:jM=aM.next) (anJ:jM+2<=h.next) (bN:h.get (ao jM)=.bd [.int .i64 0,.int .i64 0] 0 false)
 (bk:(∃(v:V) (cP:Int) (ws:List aq),h.get (ao (jM+1))=e0 s s.length cP 0 v/\dA (jM+2) h 4 v ws.length (gX ws)/\jL s=.ok ws)\/(∃(v:V) (a e:Int) (cP:Nat),h.get (ao (jM+1))=e0 s a cP e v/\e≠0/\jL s=.error (e,cP)))
 (r:a1) (bV:r 3=.ptr (ao jM) 0) (cU:r 4=.ptr (ao (jM+1)) 0):
 bL Tryz.prog [.c Hc] .normal r h fun e r ae=>e.ends/\∃aj,hs r ae [.t 2,.eB 3 2]=some aj/\Gv s aM (oneOf aj) ae:=by
 unfold Hc r5;subst aI;rcases bk with ⟨v,cP,ws,ay,dU,aG⟩ | ⟨v,a,e,cP,ay,he,aG⟩
 . unfold e0 at ay;simp +contextual (maxSteps:=1000000) only [bV,cU,ay,bN,↓aa,ab,simprocAttr];refine ⟨au.set (aoz _) _,?_⟩;rw [aG];refine ⟨v,rfl,?_⟩;have:=dU.mod ((Mod.refl (fun q=>q=ao aM.next) h).self (.bd [.int .i64 0,.int .i64 0] 0 false)) (fun q aH e=>by have ag:=dU.base aH;rw [show q=ao aM.next from e,dh] at ag;omega);exact this.mono (by omega)
 . unfold e0 at ay;simp +contextual (maxSteps:=1000000) only [bV,cU,ay,bN,he,↓aa,ab,simprocAttr];refine ⟨au.set (aoz _) _,?_⟩;rw [aG]
theorem akg (s:List UInt8) (h:ah):dY Tryz.prog 26 [.str s] h (Gv s h):=by
 refine XX.z rfl (cm ?_);rw [XY];unfold r5;by_cases mZ:(65536:Int) < (s.length:Int)
 . simp +contextual only [mZ,↓aa,ab,simprocAttr];refine ⟨((Ext.refl h).new _).set (aoz _) _,?_⟩;unfold jL;rw [aoN (by omega)];rfl
 have hlen:¬65536<s.length:=by omega
 simp +contextual only [mZ,↓aa,ab,simprocAttr];refine bQ (SD s (by omega) _) ?_;have au:Ext h (h.new (.bd [.int .i64 0,.int .i64 0] 0 false)):=(Ext.refl h).new _;by_cases U:qQ s<s.length
 . have qt:((qQ s:Int) < (s.length:Int))=True:=aoU (by omega);simp +contextual only [qt,↓aa,ab,simprocAttr];refine bQ (SD s (by omega) _) ?_;simp +contextual only [qt,↓aa,ab,simprocAttr];refine ⟨au.set (aoz _) _,?_⟩;unfold jL;rw [aoI hlen,aoN U]
 have qt:((qQ s:Int) < (s.length:Int))=False:=aoV (by omega);have l3:jL s=nJ s 0:=by unfold jL;rw [aoI hlen,aoI U]
 simp +contextual only [qt,↓aa,ab,simprocAttr];have zq:Ext h ((h.new (.bd [.int .i64 0,.int .i64 0] 0 false)).new (.bd [.str s,.int .i64 0,.int .i64 0,.int .i64 0,.cL] 0 false)):=au.new _;refine aY (S5 s 0 0 .cL (ao (h.next+1)) _ (by simp only [↓aa,ab,simprocAttr]<;>rfl) (by omega) (by omega) (jP (by simp only [ig];omega))) ?_;rintro x ad ⟨j4,adG⟩;have kp:Ext h ad:=zq.kL j4 (fun q aH=>by rw [show q=ao (h.next+1) from aH,dh];omega);have Fg:h.next+2<=ad.next:=by have:=j4.next;simp only [ig] at this;omega
 have ad5:ad.get (ao h.next)=.bd [.int .i64 0,.int .i64 0] 0 false:=by rw [j4.get _ (jP (by simp only [ig];omega)) (by rw [lJ];omega)];simp only [↓aa,ab,simprocAttr]
 have adw:L6 s (ao (h.next+1)) (h.next+2) ad:=by
  rcases adG with ⟨a,cP,an,av,aB,bt,ca⟩ | ⟨cP,an,av⟩
  . refine ⟨.cL,.inl ⟨a,cP,[],an,aB,by simp,⟨rfl,rfl⟩,?_,ca⟩⟩;rw [l3,Sk,<-bt,apm]
  . refine ⟨.cL,.inr ⟨s.length,253,cP,an,by decide,?_⟩⟩;rw [l3,<-av,apm]
 simp +contextual only [↓aa,ab,simprocAttr];refine gb (fun r ae=>r 0=.str s/\r 3=.ptr (ao h.next) 0/\r 4=.ptr (ao (h.next+1)) 0/\Ext h ae/\h.next+2<=ae.next/\ae.get (ao h.next)=.bd [.int .i64 0,.int .i64 0] 0 false/\L6 s (ao (h.next+1)) (h.next+2) ae)
  (fun r ae=>s.length - ((gv (ae.get (ao (h.next+1))) 1).getD .bad).toN) ?_ ?_
 . exact ⟨by simp only [↓aa,ab,simprocAttr],by simp only [↓aa,ab,simprocAttr],by simp only [↓aa,ab,simprocAttr],kp,Fg,ad5,adw⟩
 . rintro r ae ⟨aW,bV,cU,tN,j5,bN,v,⟨a,cP,ws,ay,c8,kw,dU,br,sq⟩ | ⟨a,e,cP,ay,he,br⟩⟩
   . rw [NF];unfold oQ;have Ev:=ay;unfold e0 at ay;by_cases a7:a<s.length
     . have g0:((a:Int) < (s.length:Int))=True:=aoU (by omega);have g1:(0<=(a:Int))=True:=aoU (by omega);obtain ⟨rk,my⟩:=sq a7;rw [drop_cons a7,JB,rk,aoI ao2,<-drop_cons a7,my,aoI ao2] at br;simp +contextual (maxSteps:=1000000) only [aW,bV,cU,ay,g0,g1,aoB a7,aoG,↓aa,ab,simprocAttr];refine aaf s a ws v (ao (h.next+1)) (h.next+2) _ (by rw [ey,aoN rfl];rfl) a7 (by omega) (pq dU (by rw [dh];omega) _) (jP (by rw [iO];omega)) (by rw [dh];omega) (by rw [iO];omega) (by omega) _ (by simp only [cU,↓aa,ab,simprocAttr]) (by simp only [↓aa,ab,simprocAttr]) _ _ ?_;intro bq ag CT z6 FB c1;simp only [↓aa,ab,simprocAttr] at CT z6;rw [aW] at CT;rw [bV] at z6;obtain ⟨fb,v2,a8⟩:=c1
       have B_:Ext h ag:=(tN.set (show h.next<=h.next+1 by omega) _).kL fb (fun q aH=>by
        rcases aH with an | an
        . rw [an,dh];omega
        . omega)
       have sH:h.next+2<=ag.next:=by have:=fb.next;rw [iO] at this;omega
       have oo:ag.get (ao h.next)=.bd [.int .i64 0,.int .i64 0] 0 false:=by rw [fb.get _ (jP (by rw [iO];omega)) (fun q=>q.elim (fun q=>by rw [lJ] at q;omega) (fun q=>by rw [dh] at q;omega)),ey,aoI (by rw [lJ];omega),bN]
       cases IT:gd (s.drop a) with
       | ok q=>
         have tG:=CC IT;rw [IT] at br a8;obtain ⟨l1,hle,ht⟩:=a8;have BJ:=l1;unfold e0 at BJ;unfold Hb oQ;simp +contextual (maxSteps:=1000000) only [CT,z6,FB,BJ,↓aa,ab,simprocAttr];refine aY (S5 s (a+q.2.2.2) a v2 (ao (h.next+1)) ag l1 hle (by omega) (jP (by omega))) ?_;rintro x ar ⟨xa,adH⟩;have ab8:=ht.mod xa (fun q aH e=>by have:=ht.base aH;rw [show q=ao (h.next+1) from e,dh] at this;omega);have vp:ar.get (ao h.next)=.bd [.int .i64 0,.int .i64 0] 0 false:=by rw [xa.get _ (jP (by omega)) (by rw [lJ];omega),oo]
         have zq:Ext h ar:=B_.kL xa (fun q aH=>by rw [show q=ao (h.next+1) from aH,dh];omega);have xJ:h.next+2<=ar.next:=aoF sH xa.next
         simp +contextual (maxSteps:=1000000) only [CT,z6,FB,↓aa,ab,simprocAttr];rcases adH with ⟨a3,HR,an,av,aB,bt,ca⟩ | ⟨HR,an,av⟩
         . refine ⟨⟨zq,xJ,vp,v2,.inl ⟨a3,HR,ws++[⟨q.1,q.2.1,a,q.2.2.1⟩],an,aB,by simp;omega,by rw [aoL];exact ab8,?_,ca⟩⟩,?_⟩
           . rw [br,Kr];simp only [apv];rw [bt]
           . rw [an];unfold e0;simp only [↓aa,ab,simprocAttr];omega
         . refine ⟨⟨zq,xJ,vp,v2,.inr ⟨s.length,253,HR,an,by decide,?_⟩⟩,?_⟩
           . rw [br,Kr];simp only [apv];rw [av];rfl
           . rw [an];unfold e0;simp only [↓aa,ab,simprocAttr];omega
       | error e=>
         rw [IT] at br a8;obtain ⟨he,a2,l1⟩:=a8;have BJ:=l1;unfold e0 at BJ;unfold Hb oQ;simp +contextual (maxSteps:=1000000) only [CT,z6,FB,BJ,he,↓aa,ab,simprocAttr];exact FI s h.next h ag B_ rfl sH oo (.inr ⟨v2,a2,e,a,l1,he,br⟩) _ (by simp only [z6,↓aa,ab,simprocAttr]) (by simp only [FB,↓aa,ab,simprocAttr])
     . have g0:((a:Int) < (s.length:Int))=False:=aoV (by omega);have b5:a=s.length:=by omega
       simp +contextual (maxSteps:=1000000) only [aW,bV,cU,ay,g0,↓aa,ab,simprocAttr];refine FI s h.next h ae tN rfl j5 bN (.inl ⟨v,cP,ws,by rw [Ev,b5],dU,?_⟩) _ (by simp only [bV,↓aa,ab,simprocAttr]) (by simp only [cU,↓aa,ab,simprocAttr])
       rw [br,b5,ap3];show Except.ok (ws++[])=_;rw [aoX]
   . rw [NF];unfold oQ;have Ev:=ay;unfold e0 at ay;by_cases a7:a < (s.length:Int)
     . simp +contextual (maxSteps:=1000000) only [aW,bV,cU,ay,a7,he,↓aa,ab,simprocAttr];exact FI s h.next h ae tN rfl j5 bN (.inr ⟨v,a,e,cP,Ev,he,br⟩) _ (by simp only [bV,↓aa,ab,simprocAttr]) (by simp only [cU,↓aa,ab,simprocAttr])
     . simp +contextual (maxSteps:=1000000) only [aW,bV,cU,ay,a7,he,↓aa,ab,simprocAttr];exact FI s h.next h ae tN rfl j5 bN (.inr ⟨v,a,e,cP,Ev,he,br⟩) _ (by simp only [bV,↓aa,ab,simprocAttr]) (by simp only [cU,↓aa,ab,simprocAttr])
end
end Go.Proofs.YtahfljfikfkpnaaGreatDoor
