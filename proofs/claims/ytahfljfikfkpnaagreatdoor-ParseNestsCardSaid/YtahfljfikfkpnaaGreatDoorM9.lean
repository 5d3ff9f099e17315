/- The chapter's functions, walked by the abstract machine: plain lemmas, no condition. Printed by a program from longer texts: names made short. -/
import Derived.Test.YtahfljfikfkpnaaGreatDoorM7
import Derived.Test.YtahfljfikfkpnaaGreatDoorM8
import Derived.Shelf.Unicode.Decode
import Derived.Shelf.Unicode.DecodeSlow
import Derived.Shelf.Unicode.DecodeAny
import Derived.Shelf.Strconv.Atoi
import Derived.Shelf.Pu.ParseUintPublic10
import Derived.Lib.LaidU8T
import Derived.Test.YtahfljfikfkpnaaGreatDoorM5
set_option linter.unusedSectionVars false
set_option linter.unusedSimpArgs false
set_option linter.unusedVariables false
set_option maxHeartbeats 64000000
noncomputable section
namespace Go.Proofs.YtahfljfikfkpnaaGreatDoor
section
open Go bg
theorem abj:Extern.findNext Tryz.f127=none:=by kernel_rfl
theorem abi:(Extern.find Tryz.f127)=some Extern.BytealgIndexByte.indexByte:=by kernel_rfl
theorem aer (s:List UInt8) (c:Int) (h:ah):e' Tryz.prog 127 [.str s,.int .u8 c] h (.int .i64 (Lib.indexByte s c.toNat.toUInt8)) h:=
 aet (by decide) Tryz.func127 (by kernel_rfl) (by kernel_rfl) abj abi s c h
theorem aeq (s:List UInt8) (c:Int) (h:ah):e' Tryz.prog 77 [.str s,.int .u8 c] h (.int .i64 (Lib.indexByte s c.toNat.toUInt8)) h:=by refine jj (YL.z rfl (cl ?_));unfold Om;simp only [↓aa,ad,simprocAttr];refine bQ (aer _ _ _) ?_;simp only [↓aa,ad,simprocAttr]
theorem QT (s:List UInt8) (c:Int) (h:ah):e' Tryz.prog 33 [.str s,.int .u8 c] h (.int .i64 (Lib.indexByte s c.toNat.toUInt8)) h:=by refine jj (Yc.z rfl (cl ?_));unfold NW;simp only [↓aa,ad,simprocAttr];refine bQ (aeq _ _ _) ?_;simp only [↓aa,ad,simprocAttr]
end
section
open Go Go.Shelf
def Tryz.agE:Go.Shelf.Ren:=⟨fun | 197=>76 | 260=>126 | n=>n,fun | 9=>9 | 21=>21 | 3=>3 | 4=>4 | 5=>5 | 105=>94 | 119=>145 | 0=>0 | 46=>131 | 139=>148 | 138=>147 | n=>n,fun | 3=>0 | 4=>1 | n=>n⟩
theorem Tryz.agD:Go.Proofs.Lays.n197 Tryz.prog Tryz.agE:={
 mixed:=by kernel_rfl,
 f197:=Tryz.func76.trans (congrArg some (by kernel_rfl)),
 f260:=Tryz.func126.trans (congrArg some (by kernel_rfl)),
 t0:=Tryz.underlying0,
 a0:=Tryz.isAgg0,
 z0:=Tryz.sizeOf0,
 v0:=Tryz.zeroValue0,
 t3:=Tryz.underlying3,
 a3:=Tryz.isAgg3,
 z3:=Tryz.sizeOf3,
 v3:=Tryz.zeroValue3,
 t4:=Tryz.underlying4,
 a4:=Tryz.isAgg4,
 z4:=Tryz.sizeOf4,
 v4:=Tryz.zeroValue4,
 t5:=Tryz.underlying5,
 a5:=Tryz.isAgg5,
 z5:=Tryz.sizeOf5,
 v5:=Tryz.zeroValue5,
 t9:=Tryz.underlying9,
 a9:=Tryz.isAgg9,
 z9:=Tryz.sizeOf9,
 v9:=Tryz.zeroValue9,
 t21:=Tryz.underlying21,
 a21:=Tryz.isAgg21,
 z21:=Tryz.sizeOf21,
 v21:=Tryz.zeroValue21,
 t46:=Tryz.underlying131,
 a46:=Tryz.isAgg131,
 z46:=Tryz.sizeOf131,
 v46:=Tryz.zeroValue131,
 t105:=Tryz.underlying94,
 a105:=Tryz.isAgg94,
 z105:=Tryz.sizeOf94,
 v105:=Tryz.zeroValue94,
 t119:=Tryz.underlying145,
 a119:=Tryz.isAgg145,
 z119:=Tryz.sizeOf145,
 t138:=Tryz.underlying147,
 a138:=Tryz.isAgg147,
 z138:=Tryz.sizeOf147,
 v138:=Tryz.zeroValue147,
 t139:=Tryz.underlying148,
 a139:=Tryz.isAgg148,
 z139:=Tryz.sizeOf148,
 v139:=Tryz.zeroValue148,
 g3:=by kernel_rfl,
 g4:=by kernel_rfl}
def Tryz.agC:Go.Shelf.Ren:=⟨fun | 172=>162 | 244=>197 | 245=>161 | 247=>214 | 279=>193 | 280=>194 | 281=>195 | 282=>196 | 287=>160 | 316=>212 | 171=>93 | 205=>213 | 321=>191 | 322=>192 | 243=>142 | 246=>181 | 283=>200 | 284=>201 | 285=>202 | 286=>203 | 129=>219 | 317=>218 | 318=>220 | 319=>221 | 320=>222 | 337=>227 | 338=>228 | n=>n,fun | 9=>9 | 3=>3 | 75=>126 | 76=>138 | 4=>4 | 5=>5 | 167=>167 | 37=>26 | 0=>0 | 85=>188 | 2=>2 | 168=>169 | 53=>124 | 175=>127 | 46=>131 | 210=>186 | 127=>166 | 145=>198 | 143=>196 | 21=>21 | 171=>174 | 173=>177 | 212=>191 | 51=>153 | 20=>20 | 213=>192 | 232=>201 | 233=>202 | 80=>140 | n=>n,fun | 15=>3 | 16=>4 | 17=>5 | 18=>6 | 19=>7 | n=>n⟩
theorem Tryz.agB:Go.Proofs.Lays.n172 Tryz.prog Tryz.agC:={
 mixed:=by kernel_rfl,
 f129:=Tryz.func219.trans (congrArg some (by kernel_rfl)),
 f171:=Tryz.func93.trans (congrArg some (by kernel_rfl)),
 f172:=Tryz.func162.trans (congrArg some (by kernel_rfl)),
 f205:=Tryz.func213.trans (congrArg some (by kernel_rfl)),
 f243:=Tryz.func142.trans (congrArg some (by kernel_rfl)),
 f244:=Tryz.func197.trans (congrArg some (by kernel_rfl)),
 f245:=Tryz.func161.trans (congrArg some (by kernel_rfl)),
 f246:=Tryz.func181.trans (congrArg some (by kernel_rfl)),
 f247:=Tryz.func214.trans (congrArg some (by kernel_rfl)),
 f279:=Tryz.func193.trans (congrArg some (by kernel_rfl)),
 f280:=Tryz.func194.trans (congrArg some (by kernel_rfl)),
 f281:=Tryz.func195.trans (congrArg some (by kernel_rfl)),
 f282:=Tryz.func196.trans (congrArg some (by kernel_rfl)),
 f283:=Tryz.func200.trans (congrArg some (by kernel_rfl)),
 f284:=Tryz.func201.trans (congrArg some (by kernel_rfl)),
 f285:=Tryz.func202.trans (congrArg some (by kernel_rfl)),
 f286:=Tryz.func203.trans (congrArg some (by kernel_rfl)),
 f287:=Tryz.func160.trans (congrArg some (by kernel_rfl)),
 f316:=Tryz.func212.trans (congrArg some (by kernel_rfl)),
 f317:=Tryz.func218.trans (congrArg some (by kernel_rfl)),
 f318:=Tryz.func220.trans (congrArg some (by kernel_rfl)),
 f319:=Tryz.func221.trans (congrArg some (by kernel_rfl)),
 f320:=Tryz.func222.trans (congrArg some (by kernel_rfl)),
 f321:=Tryz.func191.trans (congrArg some (by kernel_rfl)),
 f322:=Tryz.func192.trans (congrArg some (by kernel_rfl)),
 f337:=Tryz.func227.trans (congrArg some (by kernel_rfl)),
 f338:=Tryz.func228.trans (congrArg some (by kernel_rfl)),
 t0:=Tryz.underlying0,
 a0:=Tryz.isAgg0,
 z0:=Tryz.sizeOf0,
 v0:=Tryz.zeroValue0,
 t2:=Tryz.underlying2,
 a2:=Tryz.isAgg2,
 z2:=Tryz.sizeOf2,
 v2:=Tryz.zeroValue2,
 t3:=Tryz.underlying3,
 a3:=Tryz.isAgg3,
 z3:=Tryz.sizeOf3,
 v3:=Tryz.zeroValue3,
 t4:=Tryz.underlying4,
 a4:=Tryz.isAgg4,
 z4:=Tryz.sizeOf4,
 v4:=Tryz.zeroValue4,
 t5:=Tryz.underlying5,
 a5:=Tryz.isAgg5,
 z5:=Tryz.sizeOf5,
 v5:=Tryz.zeroValue5,
 t9:=Tryz.underlying9,
 a9:=Tryz.isAgg9,
 z9:=Tryz.sizeOf9,
 v9:=Tryz.zeroValue9,
 t20:=Tryz.underlying20,
 a20:=Tryz.isAgg20,
 z20:=Tryz.sizeOf20,
 v20:=Tryz.zeroValue20,
 t21:=Tryz.underlying21,
 a21:=Tryz.isAgg21,
 z21:=Tryz.sizeOf21,
 v21:=Tryz.zeroValue21,
 t37:=Tryz.underlying26,
 a37:=Tryz.isAgg26,
 z37:=Tryz.sizeOf26,
 v37:=Tryz.zeroValue26,
 t46:=Tryz.underlying131,
 a46:=Tryz.isAgg131,
 z46:=Tryz.sizeOf131,
 v46:=Tryz.zeroValue131,
 t51:=Tryz.underlying153,
 a51:=Tryz.isAgg153,
 z51:=Tryz.sizeOf153,
 v51:=Tryz.zeroValue153,
 t53:=Tryz.underlying124,
 a53:=Tryz.isAgg124,
 z53:=Tryz.sizeOf124,
 v53:=Tryz.zeroValue124,
 t75:=Tryz.underlying126,
 a75:=Tryz.isAgg126,
 z75:=Tryz.sizeOf126,
 v75:=Tryz.zeroValue126,
 t76:=Tryz.underlying138,
 a76:=Tryz.isAgg138,
 z76:=Tryz.sizeOf138,
 v76:=Tryz.zeroValue138,
 t85:=Tryz.underlying188,
 a85:=Tryz.isAgg188,
 z85:=Tryz.sizeOf188,
 v85:=Tryz.zeroValue188,
 t127:=Tryz.underlying166,
 a127:=Tryz.isAgg166,
 z127:=Tryz.sizeOf166,
 v127:=Tryz.zeroValue166,
 t143:=Tryz.underlying196,
 a143:=Tryz.isAgg196,
 z143:=Tryz.sizeOf196,
 v143:=Tryz.zeroValue196,
 t145:=Tryz.underlying198,
 a145:=Tryz.isAgg198,
 z145:=Tryz.sizeOf198,
 v145:=Tryz.zeroValue198,
 t167:=Tryz.underlying167,
 a167:=Tryz.isAgg167,
 z167:=Tryz.sizeOf167,
 v167:=Tryz.zeroValue167,
 t168:=Tryz.underlying169,
 a168:=Tryz.isAgg169,
 z168:=Tryz.sizeOf169,
 v168:=Tryz.zeroValue169,
 t171:=Tryz.underlying174,
 a171:=Tryz.isAgg174,
 z171:=Tryz.sizeOf174,
 v171:=Tryz.zeroValue174,
 t173:=Tryz.underlying177,
 a173:=Tryz.isAgg177,
 z173:=Tryz.sizeOf177,
 v173:=Tryz.zeroValue177,
 t175:=Tryz.underlying127,
 a175:=Tryz.isAgg127,
 z175:=Tryz.sizeOf127,
 v175:=Tryz.zeroValue127,
 t210:=Tryz.underlying186,
 a210:=Tryz.isAgg186,
 z210:=Tryz.sizeOf186,
 v210:=Tryz.zeroValue186,
 t212:=Tryz.underlying191,
 a212:=Tryz.isAgg191,
 z212:=Tryz.sizeOf191,
 v212:=Tryz.zeroValue191,
 t213:=Tryz.underlying192,
 a213:=Tryz.isAgg192,
 z213:=Tryz.sizeOf192,
 t232:=Tryz.underlying201,
 a232:=Tryz.isAgg201,
 z232:=Tryz.sizeOf201,
 v232:=Tryz.zeroValue201,
 t233:=Tryz.underlying202,
 a233:=Tryz.isAgg202,
 z233:=Tryz.sizeOf202,
 v233:=Tryz.zeroValue202,
 g15:=by kernel_rfl,
 g16:=by kernel_rfl,
 g17:=by kernel_rfl,
 g18:=by kernel_rfl,
 g19:=by kernel_rfl}
def Tryz.JB:Go.Shelf.Ren:=⟨fun | 14=>129 | 16=>160 | 17=>161 | 19=>191 | 20=>192 | 21=>193 | 22=>194 | 23=>195 | 24=>196 | 25=>212 | 27=>93 | 26=>213 | 28=>142 | 29=>181 | 30=>200 | 31=>201 | 32=>202 | 33=>203 | 35=>219 | 34=>218 | 36=>220 | 37=>221 | 38=>222 | 39=>227 | 40=>228 | n=>n,fun | 9=>9 | 3=>3 | 22=>124 | 24=>126 | 25=>127 | 4=>4 | 34=>167 | 5=>5 | 36=>131 | 37=>26 | 0=>0 | 39=>169 | 21=>21 | 44=>186 | 47=>166 | 50=>198 | 48=>196 | 2=>2 | 52=>174 | 55=>177 | 59=>191 | 60=>153 | 20=>20 | 61=>192 | 65=>201 | 66=>202 | 67=>140 | n=>n,fun | 0=>3 | 1=>4 | 2=>5 | 3=>6 | 4=>7 | n=>n⟩
theorem Tryz.Q9:Go.Proofs.LaysPu.n14 Tryz.prog Tryz.JB:={
 mixed:=by kernel_rfl,
 f14:=Tryz.func129.trans (congrArg some (by kernel_rfl)),
 f16:=Tryz.func160.trans (congrArg some (by kernel_rfl)),
 f17:=Tryz.func161.trans (congrArg some (by kernel_rfl)),
 f19:=Tryz.func191.trans (congrArg some (by kernel_rfl)),
 f20:=Tryz.func192.trans (congrArg some (by kernel_rfl)),
 f21:=Tryz.func193.trans (congrArg some (by kernel_rfl)),
 f22:=Tryz.func194.trans (congrArg some (by kernel_rfl)),
 f23:=Tryz.func195.trans (congrArg some (by kernel_rfl)),
 f24:=Tryz.func196.trans (congrArg some (by kernel_rfl)),
 f25:=Tryz.func212.trans (congrArg some (by kernel_rfl)),
 f26:=Tryz.func213.trans (congrArg some (by kernel_rfl)),
 f27:=Tryz.func93.trans (congrArg some (by kernel_rfl)),
 f28:=Tryz.func142.trans (congrArg some (by kernel_rfl)),
 f29:=Tryz.func181.trans (congrArg some (by kernel_rfl)),
 f30:=Tryz.func200.trans (congrArg some (by kernel_rfl)),
 f31:=Tryz.func201.trans (congrArg some (by kernel_rfl)),
 f32:=Tryz.func202.trans (congrArg some (by kernel_rfl)),
 f33:=Tryz.func203.trans (congrArg some (by kernel_rfl)),
 f34:=Tryz.func218.trans (congrArg some (by kernel_rfl)),
 f35:=Tryz.func219.trans (congrArg some (by kernel_rfl)),
 f36:=Tryz.func220.trans (congrArg some (by kernel_rfl)),
 f37:=Tryz.func221.trans (congrArg some (by kernel_rfl)),
 f38:=Tryz.func222.trans (congrArg some (by kernel_rfl)),
 f39:=Tryz.func227.trans (congrArg some (by kernel_rfl)),
 f40:=Tryz.func228.trans (congrArg some (by kernel_rfl)),
 t0:=Tryz.underlying0,
 a0:=Tryz.isAgg0,
 z0:=Tryz.sizeOf0,
 v0:=Tryz.zeroValue0,
 i0:=by kernel_rfl,
 t2:=Tryz.underlying2,
 a2:=Tryz.isAgg2,
 z2:=Tryz.sizeOf2,
 v2:=Tryz.zeroValue2,
 i2:=by kernel_rfl,
 t3:=Tryz.underlying3,
 a3:=Tryz.isAgg3,
 z3:=Tryz.sizeOf3,
 v3:=Tryz.zeroValue3,
 i3:=by kernel_rfl,
 t4:=Tryz.underlying4,
 a4:=Tryz.isAgg4,
 z4:=Tryz.sizeOf4,
 v4:=Tryz.zeroValue4,
 i4:=by kernel_rfl,
 t5:=Tryz.underlying5,
 a5:=Tryz.isAgg5,
 z5:=Tryz.sizeOf5,
 v5:=Tryz.zeroValue5,
 i5:=by kernel_rfl,
 t9:=Tryz.underlying9,
 a9:=Tryz.isAgg9,
 z9:=Tryz.sizeOf9,
 v9:=Tryz.zeroValue9,
 i9:=by kernel_rfl,
 t20:=Tryz.underlying20,
 a20:=Tryz.isAgg20,
 z20:=Tryz.sizeOf20,
 v20:=Tryz.zeroValue20,
 i20:=by kernel_rfl,
 t21:=Tryz.underlying21,
 a21:=Tryz.isAgg21,
 z21:=Tryz.sizeOf21,
 v21:=Tryz.zeroValue21,
 i21:=by kernel_rfl,
 t22:=Tryz.underlying124,
 a22:=Tryz.isAgg124,
 z22:=Tryz.sizeOf124,
 v22:=Tryz.zeroValue124,
 i22:=by kernel_rfl,
 t24:=Tryz.underlying126,
 a24:=Tryz.isAgg126,
 z24:=Tryz.sizeOf126,
 v24:=Tryz.zeroValue126,
 i24:=by kernel_rfl,
 t25:=Tryz.underlying127,
 a25:=Tryz.isAgg127,
 z25:=Tryz.sizeOf127,
 v25:=Tryz.zeroValue127,
 i25:=by kernel_rfl,
 t34:=Tryz.underlying167,
 a34:=Tryz.isAgg167,
 z34:=Tryz.sizeOf167,
 v34:=Tryz.zeroValue167,
 i34:=by kernel_rfl,
 c34:=by kernel_rfl,
 t36:=Tryz.underlying131,
 a36:=Tryz.isAgg131,
 z36:=Tryz.sizeOf131,
 v36:=Tryz.zeroValue131,
 i36:=by kernel_rfl,
 t37:=Tryz.underlying26,
 a37:=Tryz.isAgg26,
 z37:=Tryz.sizeOf26,
 v37:=Tryz.zeroValue26,
 i37:=by kernel_rfl,
 t39:=Tryz.underlying169,
 a39:=Tryz.isAgg169,
 z39:=Tryz.sizeOf169,
 v39:=Tryz.zeroValue169,
 i39:=by kernel_rfl,
 t44:=Tryz.underlying186,
 a44:=Tryz.isAgg186,
 z44:=Tryz.sizeOf186,
 v44:=Tryz.zeroValue186,
 i44:=by kernel_rfl,
 t47:=Tryz.underlying166,
 a47:=Tryz.isAgg166,
 z47:=Tryz.sizeOf166,
 v47:=Tryz.zeroValue166,
 i47:=by kernel_rfl,
 t48:=Tryz.underlying196,
 a48:=Tryz.isAgg196,
 z48:=Tryz.sizeOf196,
 v48:=Tryz.zeroValue196,
 i48:=by kernel_rfl,
 t50:=Tryz.underlying198,
 a50:=Tryz.isAgg198,
 z50:=Tryz.sizeOf198,
 v50:=Tryz.zeroValue198,
 i50:=by kernel_rfl,
 t52:=Tryz.underlying174,
 a52:=Tryz.isAgg174,
 z52:=Tryz.sizeOf174,
 v52:=Tryz.zeroValue174,
 i52:=by kernel_rfl,
 t55:=Tryz.underlying177,
 a55:=Tryz.isAgg177,
 z55:=Tryz.sizeOf177,
 v55:=Tryz.zeroValue177,
 i55:=by kernel_rfl,
 t59:=Tryz.underlying191,
 a59:=Tryz.isAgg191,
 z59:=Tryz.sizeOf191,
 v59:=Tryz.zeroValue191,
 i59:=by kernel_rfl,
 t60:=Tryz.underlying153,
 a60:=Tryz.isAgg153,
 z60:=Tryz.sizeOf153,
 v60:=Tryz.zeroValue153,
 i60:=by kernel_rfl,
 t61:=Tryz.underlying192,
 a61:=Tryz.isAgg192,
 z61:=Tryz.sizeOf192,
 t65:=Tryz.underlying201,
 a65:=Tryz.isAgg201,
 z65:=Tryz.sizeOf201,
 v65:=Tryz.zeroValue201,
 i65:=by kernel_rfl,
 t66:=Tryz.underlying202,
 a66:=Tryz.isAgg202,
 z66:=Tryz.sizeOf202,
 v66:=Tryz.zeroValue202,
 i66:=by kernel_rfl,
 t67:=Tryz.underlying140,
 a67:=Tryz.isAgg140,
 z67:=Tryz.sizeOf140,
 v67:=Tryz.zeroValue140,
 i67:=by kernel_rfl,
 g0:=by kernel_rfl,
 m0:=by kernel_rfl,
 g1:=by kernel_rfl,
 m1:=by kernel_rfl,
 g2:=by kernel_rfl,
 m2:=by kernel_rfl,
 g3:=by kernel_rfl,
 m3:=by kernel_rfl,
 g4:=by kernel_rfl,
 m4:=by kernel_rfl}
def Tryz.Cs:Go.Shelf.Ren:=⟨fun | 260=>126 | n=>n,fun | 9=>9 | 21=>21 | 3=>3 | 4=>4 | 5=>5 | 119=>145 | 0=>0 | 46=>131 | 139=>148 | 138=>147 | n=>n,fun | 3=>0 | 4=>1 | n=>n⟩
theorem Tryz.agF:Go.Proofs.Lays.n260 Tryz.prog Tryz.Cs:={
 mixed:=by kernel_rfl,
 f260:=Tryz.func126.trans (congrArg some (by kernel_rfl)),
 t0:=Tryz.underlying0,
 a0:=Tryz.isAgg0,
 z0:=Tryz.sizeOf0,
 v0:=Tryz.zeroValue0,
 t3:=Tryz.underlying3,
 a3:=Tryz.isAgg3,
 z3:=Tryz.sizeOf3,
 v3:=Tryz.zeroValue3,
 t4:=Tryz.underlying4,
 a4:=Tryz.isAgg4,
 z4:=Tryz.sizeOf4,
 v4:=Tryz.zeroValue4,
 t5:=Tryz.underlying5,
 a5:=Tryz.isAgg5,
 z5:=Tryz.sizeOf5,
 v5:=Tryz.zeroValue5,
 t9:=Tryz.underlying9,
 a9:=Tryz.isAgg9,
 z9:=Tryz.sizeOf9,
 v9:=Tryz.zeroValue9,
 t21:=Tryz.underlying21,
 a21:=Tryz.isAgg21,
 z21:=Tryz.sizeOf21,
 v21:=Tryz.zeroValue21,
 t46:=Tryz.underlying131,
 a46:=Tryz.isAgg131,
 z46:=Tryz.sizeOf131,
 v46:=Tryz.zeroValue131,
 t119:=Tryz.underlying145,
 a119:=Tryz.isAgg145,
 z119:=Tryz.sizeOf145,
 t138:=Tryz.underlying147,
 a138:=Tryz.isAgg147,
 z138:=Tryz.sizeOf147,
 v138:=Tryz.zeroValue147,
 t139:=Tryz.underlying148,
 a139:=Tryz.isAgg148,
 z139:=Tryz.sizeOf148,
 v139:=Tryz.zeroValue148,
 g3:=by kernel_rfl,
 g4:=by kernel_rfl}
end
section
open Go bg Go.RowKit
section
open Go.Shelf
theorem aaj (s:ByteArray) (w:World) (d_:Lib.Utf8Tabs 0 1 w):
 Calls Tryz.prog 76 #[.string s] w fun e w'=>e=.returned (.tuple #[.int .i32 (Lib.decodeGo s).1,.int .i64 (Lib.decodeGo s).2])/\Below w.heap.size w w':=Any.utf8_DecodeRuneInString Tryz.agD s w d_
theorem Wh (s:ByteArray) (n:Int) (aH:s.size<=18) (h:Lib.atoi s.data.toList=some n) (w:World):
 Calls Tryz.prog 162 #[.string s] w fun e w'=>e=.returned (.tuple #[.int .i64 n,.nilIface])/\Below w.heap.size w w':=(Any.strconv_Atoi Tryz.agB s n aH h w).mono fun e w' q=>⟨q.1,by obtain ⟨t,rfl⟩:=q.2;exact Lib.bytesWorld_below _ _ _⟩
theorem ajK (s:ByteArray) (adh:s.size<=9223372036854775806) (u:Nat) (h:Lib.parseUintB 64 s.data.toList=.ok u) (w:World):
 Calls Tryz.prog 129 #[.string s,.int .i64 10,.int .i64 64] w fun e w'=>e=.returned (.tuple #[.int .u64 u,.nilIface])/\Below w.heap.size w w':=(Any.strconv_ParseUint_10_at64_ok Tryz.Q9 s adh u h w).mono fun e w' q=>⟨q.1,by
  rcases q.2 with rfl | rfl
  . exact Below.refl _ _
  . exact Lib.bytesWorld_below _ _ _⟩
theorem ajM (s:ByteArray) (xe:s.size<=281474976710656) (h:Lib.parseUintB 64 s.data.toList=.range) (w:World) (he:yv w 4):
 Calls Tryz.prog 129 #[.string s,.int .i64 10,.int .i64 64] w fun e w'=>(∃p,e=.returned (.tuple #[.int .u64 18446744073709551615,.iface (Tryz.JB.t 39) p]))/\Below w.heap.size w w':=by
 obtain ⟨aV,ae,ag⟩:=he;refine (Any.strconv_ParseUint_10_at64_range Tryz.Q9 s xe h aV w ae ag).mono fun e w' q=>?_;obtain ⟨N,ar,_,_,bA⟩:=q;exact ⟨⟨_,ar⟩,bA⟩
end
theorem Co {f:FuncId} (bm:Nat.beq f eA=false) {args:List V} {v:V} {h:ah} (l4:∃fn,Tryz.prog.funcs[f]? =some fn/\fn.body.isSome=true) (H:∀E xs w,GA w->bI E args xs->Calls Tryz.prog f xs.toArray w fun e w'=>∃x,e=.returned x/\Rel E v x/\Below w.heap.size w w'):e' Tryz.prog f args h v h:=by refine ⟨fun e=>by subst e;simp at bm,.inl ⟨l4,fun aB E w xs au s=>?_⟩⟩;refine (H E xs w (Lay.h4 s.laid s.frame) au).mono fun e w' q=>?_;obtain ⟨x,rfl,b0,ai⟩:=q;exact ⟨E,x,rfl,fun _ _ q=>q,b0,s.below ai⟩
theorem aah (s:List UInt8) (h:ah):e' Tryz.prog 76 [.str s] h (.tuple [.int .i32 (Lib.decodeGo ⟨⟨s⟩⟩).1,.int .i64 (Lib.decodeGo ⟨⟨s⟩⟩).2]) h:=by refine Co (by decide) ⟨_,Tryz.func76,by kernel_rfl⟩ fun E xs w aH au=>?_;obtain ⟨y,eo,rfl,ao,rfl⟩:=au;simp only [Rel] at ao;subst ao;refine (aaj ⟨⟨s⟩⟩ w aH.TT).mono fun e w' q=>?_;obtain ⟨rfl,ai⟩:=q;refine ⟨_,rfl,?_,ai⟩;simp only [Rel];exact ⟨_,rfl,_,_,rfl,rfl,_,_,rfl,rfl,rfl⟩
theorem ZG (s sub:List UInt8) (al:s.length<=100000) (h:ah):e' Tryz.prog 133 [.str s,.str sub] h (.bool (Lib.contains s sub)) h:=by refine Co (by decide) ⟨_,Tryz.func133,by kernel_rfl⟩ fun E xs w aH au=>?_;obtain ⟨y,eo,rfl,ao,z,wb,rfl,av,rfl⟩:=au;simp only [Rel] at ao av;subst ao av;obtain ⟨m,hm⟩:=aH.maxLen;refine (ZI ⟨⟨s⟩⟩ ⟨⟨sub⟩⟩ m w (by show s.length<4294967281;omega) hm).mono fun e w' q=>?_;obtain ⟨rfl,rfl⟩:=q;refine ⟨_,rfl,?_,Below.refl _ _⟩;simp only [Rel]
theorem Wg (s:List UInt8) (n:Int) (aH:s.length<=18) (h:Lib.atoi s=some n) (aG:ah):e' Tryz.prog 162 [.str s] aG (.tuple [.int .i64 n,.nilIface]) aG:=by refine Co (by decide) ⟨_,Tryz.func162,by kernel_rfl⟩ fun E xs w tQ au=>?_;obtain ⟨y,eo,rfl,ao,rfl⟩:=au;simp only [Rel] at ao;subst ao;refine (Wh ⟨⟨s⟩⟩ n aH h w).mono fun e w' q=>?_;obtain ⟨rfl,ai⟩:=q;refine ⟨_,rfl,?_,ai⟩;simp only [Rel];exact ⟨_,rfl,_,_,rfl,rfl,_,_,rfl,rfl,rfl⟩
theorem ajJ (s:List UInt8) (u:Nat) (aH:s.length<=100000) (h:Lib.parseUintB 64 s=.ok u) (aG:ah):e' Tryz.prog 129 [.str s,.int .i64 10,.int .i64 64] aG (.tuple [.int .u64 u,.nilIface]) aG:=by refine Co (by decide) ⟨_,Tryz.func129,by kernel_rfl⟩ fun E xs w tQ au=>?_;obtain ⟨y,eo,rfl,ao,z,wb,rfl,av,t,dD,rfl,aC,rfl⟩:=au;simp only [Rel] at ao av aC;subst ao av aC;refine (ajK ⟨⟨s⟩⟩ (by show s.length<=9223372036854775806;omega) u h w).mono fun e w' q=>?_;obtain ⟨rfl,ai⟩:=q;refine ⟨_,rfl,?_,ai⟩;simp only [Rel];exact ⟨_,rfl,_,_,rfl,rfl,_,_,rfl,rfl,rfl⟩
def aaY:TypeId:=Tryz.JB.t 39
theorem ajL (s:List UInt8) (aH:s.length<=100000) (h:Lib.parseUintB 64 s=.range) (aG:ah):e' Tryz.prog 129 [.str s,.int .i64 10,.int .i64 64] aG (.tuple [.int .u64 18446744073709551615,.iface aaY .bad]) aG:=by refine Co (by decide) ⟨_,Tryz.func129,by kernel_rfl⟩ fun E xs w tQ au=>?_;obtain ⟨y,eo,rfl,ao,z,wb,rfl,av,t,dD,rfl,aC,rfl⟩:=au;simp only [Rel] at ao av aC;subst ao av aC;refine (ajM ⟨⟨s⟩⟩ (by show s.length<=281474976710656;omega) h w tQ.Pm).mono fun e w' q=>?_;obtain ⟨⟨p,rfl⟩,ai⟩:=q;refine ⟨_,rfl,?_,ai⟩;simp only [Rel];exact ⟨_,rfl,_,_,rfl,rfl,_,_,rfl,⟨p,rfl,trivial⟩,rfl⟩
end
section
open Go bg
def kp (s:List UInt8) (i:Nat):Nat:=if decodeL s i=(65533,1) then 0 else (decodeL s i).2
def uA:Nat->List UInt8->Nat->Nat
 | 0,s,_=>s.length
 | f+1,s,a=>if a<s.length then (if kp s a=0 then a else uA f s (a+kp s a)) else s.length
def r3 (s:List UInt8) (a:Nat):Nat:=uA (s.length-a) s a
def qa (s:List UInt8):Nat:=r3 s 0
theorem S0 (s:List UInt8):∀(f g a:Nat),s.length-a<=f->s.length-a<=g->uA f s a=uA g s a
 | 0,g,a,ae,ag=>by
   cases g with
   | zero=>rfl
   | succ g=>simp only [uA];rw [ao_ (by omega)]
 | f+1,0,a,ae,ag=>by simp only [uA];rw [ao_ (by omega)]
 | f+1,g+1,a,ae,ag=>by
   simp only [uA];by_cases b1:a<s.length
   . rw [ape b1,ape b1];by_cases ax:kp s a=0
     . rw [ape ax,ape ax]
     . rw [ao_ ax,ao_ ax];exact S0 s f g _ (by omega) (by omega)
   . rw [ao_ b1,ao_ b1]
theorem KS {s:List UInt8} {a:Nat} (h:s.length<=a):r3 s a=s.length:=by unfold r3;rw [show s.length-a=0 from by omega];rfl
theorem SZ {s:List UInt8} {a:Nat} (h:a<s.length) (ax:kp s a=0):r3 s a=a:=by unfold r3;rw [show s.length-a=s.length-a-1+1 from by omega,uA,ape h,ape ax]
theorem FN {s:List UInt8} {a:Nat} (h:a<s.length) (ax:kp s a≠0):r3 s a=r3 s (a+kp s a):=by unfold r3;rw [show s.length-a=s.length-a-1+1 from by omega,uA,ape h,ao_ ax];exact S0 s _ _ _ (by omega) (by omega)
def dU (c:UInt8):Bool:=n9 c.toNat
def d' (c:UInt8):Bool:=xE c.toNat
def fR (l:List UInt8):Nat:=l.foldl (fun n c=>10 * n + (c.toNat-48)) 0
abbrev qp:=Except Int (Int × Int × List UInt8 × Nat)
def qW (r:List UInt8):qp:=
 let t:=r.takeWhile dU
 if 2147483647<fR t then .error 254 else .ok (1,(if 1073741823 < (fR t:Int) then (fR t:Int)-2147483648 else fR t),[],t.length)
def kL:List UInt8->Option (UInt8 × Nat)
 | []=>none
 | c::r=>if c=110 then some (10,1) else if c=116 then some (9,1) else if c=34 then some (34,1) else if c=92 then some (92,1) else
   if 2<=r.length/\dU c/\dU (r[0]?.getD 0)/\dU (r[1]?.getD 0)/\fR (c::r.take 2)<256 then some ((fR (c::r.take 2)).toUInt8,3) else none
def r8:Nat->List UInt8->Option (List UInt8 × Nat)
 | 0,_=>none
 | _+1,[]=>none
 | f+1,c::r=>if c=34 then some ([],1) else if c=92 then (match kL r with
    | none=>none
    | some (b,n)=>(r8 f (r.drop n)).map fun q=>(b::q.1,q.2+n+1))
   else if c<32\/c=127 then none else (r8 f r).map fun q=>(c::q.1,q.2+1)
def nu (r:List UInt8):Option (List UInt8 × Nat):=r8 r.length r
def mP (r:List UInt8):qp:=
 match nu r with
 | none=>.error 252
 | some (b,n)=>if 4096<b.length then .error 255 else .ok (2,0,b,n+1)
def nn:List (List UInt8):=[[97,110,100],[98,101,103,105,110],[101,108,115,101],[101,110,100],[101,120,99,101,112,116,105,111,110],[102,97,108,115,101],[102,117,110],[105,102],[105,110],[108,101,116],[109,97,116,99,104],[109,111,100],[111,102],[114,97,105,115,101],[114,101,99],[116,104,101,110],[116,114,117,101],[116,114,121],[116,121,112,101],[119,105,116,104]]
def gG:List (List UInt8):=[[59,59],[58,61],[45,62],[60,61],[59],[40],[41],[44],[61],[60],[43],[45],[42],[47],[124],[33],[95]]
def nk (t:List UInt8):Bool:=nn.contains t
def jx (kind:Int) (r:List UInt8):qp:=
 let t:=r.takeWhile d'
 if kind=3/\t=[95] then .ok (7,0,t,t.length) else if kind=3/\nk t then .ok (6,0,t,t.length) else if 64<t.length then .error 255 else .ok (kind,0,t,t.length)
def pA (r:List UInt8):qp:=
 match gG.find? (·.isPrefixOf r) with
 | some t=>.ok (7,0,t,t.length)
 | none=>.error 251
def o9:List UInt8->Bool
 | d::_=>lq d.toNat
 | []=>false
def gg:List UInt8->qp
 | []=>.error 0
 | c::r=>if dU c then qW (c::r) else if c=34 then mP r else if lq c.toNat||c=95 then jx 3 (c::r) else if k7 c.toNat then jx 4 (c::r) else
   if c=39/\o9 r then (jx 5 r).map fun q=>(q.1,q.2.1,q.2.2.1,q.2.2.2+1) else pA (c::r)
structure aq where
 kind:Int
 num:Int
 pos:Nat
 text:List UInt8
deriving DecidableEq
def blank (c:UInt8):Bool:=c=9||c=10||c=13||c=32
def oX (w:aq):Except (Int × Nat) (List aq)->Except (Int × Nat) (List aq)
 | .ok ws=>.ok (w::ws)
 | .error e=>.error e
def gd:Nat->List UInt8->Nat->Except (Int × Nat) (List aq)
 | 0,_,_=>.ok []
 | _+1,[],_=>.ok []
 | f+1,c::r,p=>if blank c then gd f r (p+1) else if ([40,42]:List UInt8).isPrefixOf (c::r) then (match ht (c::r) 0 with
    | none=>.error (253,p)
    | some n=>gd f ((c::r).drop n) (p+n))
   else match gg (c::r) with
    | .error e=>.error (e,p)
    | .ok q=>oX ⟨q.1,q.2.1,p,q.2.2.1⟩ (gd f ((c::r).drop q.2.2.2) (p+q.2.2.2))
def l' (r:List UInt8) (p:Nat):Except (Int × Nat) (List aq):=gd r.length r p
def iS (s:List UInt8):Except (Int × Nat) (List aq):=
 if 65536<s.length then .error (3,0) else if qa s<s.length then .error (250,qa s) else l' s 0
theorem Lc {p:UInt8->Bool} {c:UInt8} {r:List UInt8} (h:p c=true):1<=((c::r).takeWhile p).length:=by simp only [aqd,h,apd,ao9];omega
theorem alp {t:List UInt8} (h:t ∈ gG):1<=t.length:=by revert t;decide
theorem K4 {c:UInt8} (h:lq c.toNat=true):d' c=true:=by unfold d' xE;rw [h];simp
theorem PT {c:UInt8} (h:k7 c.toNat=true):d' c=true:=by unfold d' xE;rw [h];simp
theorem TN {c:UInt8} (h:c=95):d' c=true:=by subst h;decide
theorem RJ {k:Int} {r:List UInt8} {q:Int × Int × List UInt8 × Nat} (h:jx k r=.ok q):q.2.2.2=(r.takeWhile d').length:=by
 unfold jx at h;simp only at h
 split at h
 . cases h;rfl
 . split at h
   . cases h;rfl
   . split at h
     . cases h
     . cases h;rfl
theorem CJ {r:List UInt8} {q:Int × Int × List UInt8 × Nat} (h:gg r=.ok q):1<=q.2.2.2:=by
 match r,h with
 | c::r,h=>
   simp only [gg] at h
   split at h
   . rename_i a_;unfold qW at h;simp only at h
     split at h
     . cases h
     . cases h;exact Lc a_
   . split at h
     . unfold mP at h
       split at h
       . cases h
       . split at h
         . cases h
         . cases h;simp only;omega
     . split at h
       . rename_i al;rw [RJ h];simp only [ap7,apf] at al;exact Lc (al.elim K4 TN)
       . split at h
         . rename_i al;rw [RJ h];exact Lc (PT al)
         . split at h
           . cases aF:jx 5 r with
             | error e=>rw [aF] at h;cases h
             | ok gi=>rw [aF] at h;cases h;simp only;omega
           . unfold pA at h
             split at h
             . rename_i t az;cases h;exact alp (List.mem_of_find?_eq_some az)
             . cases h
theorem CL:∀{r:List UInt8} {d:Int} {n:Nat},ht r d=some n->2<=n
 | [],d,n,h=>by simp [ht] at h
 | [_],d,n,h=>by simp [ht] at h
 | x::y::r,d,n,h=>by
   rw [ht] at h
   split at h
   . cases aI:ht r (d+1) with
     | none=>rw [aI] at h;cases h
     | some m=>rw [aI] at h;cases h;simp only;omega
   . split at h
     . split at h
       . cases h;omega
       . cases aI:ht r (d-1) with
         | none=>rw [aI] at h;cases h
         | some m=>rw [aI] at h;cases h;simp only;omega
     . cases aI:ht (y::r) d with
       | none=>rw [aI] at h;cases h
       | some m=>rw [aI] at h;cases h;have:=CL aI;simp only;omega
theorem Cw:∀(f g:Nat) (r:List UInt8) (p:Nat),r.length<=f->r.length<=g->gd f r p=gd g r p
 | 0,g,r,p,ae,ag=>by have:r=[]:=aql.1 (by omega);subst this;cases g<;>rfl
 | f+1,0,r,p,ae,ag=>by have:r=[]:=aql.1 (by omega);subst this;rfl
 | f+1,g+1,[],p,ae,ag=>rfl
 | f+1,g+1,c::r,p,ae,ag=>by
   simp only [ao9] at ae ag;simp only [gd]
   split
   . exact Cw f g _ _ (by omega) (by omega)
   . split
     . split
       . rfl
       . rename_i n aF;have:=CL aF;exact Cw f g _ _ (by rw [apr,ao9];omega) (by rw [apr,ao9];omega)
     . split
       . rfl
       . rename_i q aI;have:=CJ aI;rw [Cw f g _ _ (by rw [apr,ao9];omega) (by rw [apr,ao9];omega)]
theorem JF (c:UInt8) (r:List UInt8) (p:Nat):l' (c::r) p=if blank c then l' r (p+1) else if ([40,42]:List UInt8).isPrefixOf (c::r) then (match ht (c::r) 0 with
 | none=>.error (253,p)
 | some n=>l' ((c::r).drop n) (p+n))
 else match gg (c::r) with
  | .error e=>.error (e,p)
  | .ok q=>oX ⟨q.1,q.2.1,p,q.2.2.1⟩ (l' ((c::r).drop q.2.2.2) (p+q.2.2.2)):=by
 unfold l';simp only [ao9,gd]
 split
 . rfl
 . split
   . split
     . rfl
     . rename_i n aF;have:=CL aF;exact Cw _ _ _ _ (by rw [apr,ao9];omega) (ao1 _)
   . split
     . rfl
     . rename_i q aI;have:=CJ aI;rw [Cw _ _ _ _ (by rw [apr,ao9];omega) (ao1 _)]
theorem Lg:∀(f g:Nat) (r:List UInt8),r.length<=f->r.length<=g->r8 f r=r8 g r
 | 0,g,r,ae,ag=>by have:r=[]:=aql.1 (by omega);subst this;cases g<;>rfl
 | f+1,0,r,ae,ag=>by have:r=[]:=aql.1 (by omega);subst this;rfl
 | f+1,g+1,[],ae,ag=>rfl
 | f+1,g+1,c::r,ae,ag=>by
   simp only [ao9] at ae ag;simp only [r8]
   split
   . rfl
   . split
     . split
       . rfl
       . rw [Lg f g _ (by rw [apr];omega) (by rw [apr];omega)]
     . split
       . rfl
       . rw [Lg f g _ (by omega) (by omega)]
theorem Ty:nu []=none:=rfl
theorem Tx (c:UInt8) (r:List UInt8):nu (c::r)=if c=34 then some ([],1) else if c=92 then (match kL r with
 | none=>none
 | some (b,n)=>(nu (r.drop n)).map fun q=>(b::q.1,q.2+n+1))
 else if c<32\/c=127 then none else (nu r).map fun q=>(c::q.1,q.2+1):=by
 unfold nu;simp only [ao9,r8]
 split
 . rfl
 . split
   . split
     . rfl
     . rw [Lg _ _ _ (by rw [apr];omega) (ao1 _)]
   . rfl
theorem PJ:∀(l:List UInt8) (a:Nat),a<=l.foldl (fun n c=>10 * n + (c.toNat-48)) a
 | [],a=>ao1 _
 | c::l,a=>by simp only [List.foldl_cons];exact ao6 (by omega) (PJ l _)
def ve (a:Nat) (l:List UInt8):Nat:=l.foldl (fun n c=>10 * n + (c.toNat-48)) a
theorem abx (a:Nat) (c:UInt8) (l:List UInt8):ve a (c::l)=ve (10 * a + (c.toNat-48)) l:=by unfold ve;rw [List.foldl_cons]
theorem ajI (M:Nat) (fE:M<18446744073709551620) (l:List UInt8):∀(a:Nat),(∀c ∈ l,dU c=true)->(ve a l<=M->Lib.parseUintM M a l=.ok (ve a l))/\(a<=M->¬ve a l<=M->Lib.parseUintM M a l=.range):=by
 induction l with
 | nil=>
   intro a _;refine ⟨fun _=>?_,fun ae ag=>absurd ae ag⟩;simp only [Lib.parseUintM,ve,List.foldl_nil]
 | cons c l ael=>
   intro a h;have ax:=h c (ap6 ..);simp only [dU,n9,ao7,apf] at ax;have acy:48<=c.toNat/\c.toNat<=57:=by omega
   have b6:=ael (10 * a + (c.toNat-48)) (fun x au=>h x (apQ _ au));have hm:10 * a + (c.toNat-48)<=ve (10 * a + (c.toNat-48)) l:=PJ l (10 * a + (c.toNat-48));simp only [Lib.parseUintM,acy,and_self,apd];rw [Nat.mul_comm a 10,abx];have my:10 * a<=10 * a + (c.toNat-48):=Nat.le_add_right _ _;generalize 10 * a + (c.toNat-48)=A at b6 hm my ⊢;refine ⟨fun a1=>?_,fun b1 o_=>?_⟩
   . rw [ao_ (by omega),ao_ (by omega)];exact b6.1 a1
   . by_cases ae:1844674407370955162<=a
     . rw [ape ae]
     . rw [ao_ ae];by_cases ag:M<A
       . rw [ape ag]
       . rw [ao_ ag];exact b6.2 (by omega) o_
theorem ajH (l:List UInt8) (h:∀c ∈ l,dU c=true) (aH:l≠[]):(fR l<=18446744073709551615->Lib.parseUintB 64 l=.ok (fR l))/\(¬fR l<=18446744073709551615->Lib.parseUintB 64 l=.range):=by unfold Lib.parseUintB;rw [ao_ aH,show (2 ^ 64-1:Nat)=18446744073709551615 from by decide];have:=ajI 18446744073709551615 (by omega) l 0 h;exact ⟨this.1,this.2 (api _)⟩
abbrev bH (α:Type):=Except (Int × Nat) α
def b7:Int × Nat:=(-1,0)
section
variable (ab:Nat)
def bG:List aq->Nat
 | w::_=>w.pos
 | []=>ab
def cJ (k:Int):List aq->Bool
 | w::_=>decide (w.kind=k)
 | []=>false
def bb (s:List UInt8):List aq->Bool
 | w::_=>(decide (w.kind=7)||decide (w.kind=6))&&decide (w.text=s)
 | []=>false
def ec (s:List UInt8) (ws:List aq):bH (List aq):=if bb s ws then .ok ws.tail else .error (270,bG ab ws)
def fg (k:Int):List aq->bH (aq × List aq)
 | w::ws=>if w.kind=k then .ok (w,ws) else .error (270,w.pos)
 | []=>.error (270,ab)
def two (k:Int) (a b:aN):aN:=.mk k 0 a.a [] [a,b]
def p8 (s:List UInt8) (a b:aN):aN:=.mk 38 0 a.a s [a,b]
def r6 (eG:List (List UInt8)) (ws:List aq):Bool:=eG.any fun s=>bb s ws
def sU (n:Int):Int:=if n=-1073741824 then n else -n
def jY:List UInt8:=[45,62]
def kW:List UInt8:=[42]
def e9:List UInt8:=[40]
def ej:List UInt8:=[41]
def hh:List UInt8:=[44]
def hN:List UInt8:=[45]
def r4:List UInt8:=[43]
def q6:List UInt8:=[47]
def gQ:List UInt8:=[61]
def q5:List UInt8:=[60]
def q4:List UInt8:=[60,61]
def x9:List UInt8:=[33]
def jZ:List UInt8:=[124]
def Ai:List UInt8:=[59]
def j0:List UInt8:=[59,59]
def Aj:List UInt8:=[58,61]
def iW:List UInt8:=[95]
def qL:List UInt8:=[109,111,100]
def h3:List UInt8:=[116,114,117,101]
def iE:List UInt8:=[102,97,108,115,101]
def pj:List UInt8:=[98,101,103,105,110]
def EX:List UInt8:=[101,110,100]
def qM:List UInt8:=[111,102]
def zB:List UInt8:=[97,110,100]
def mH:List UInt8:=[102,117,110]
def pk:List UInt8:=[108,101,116]
def oo:List UInt8:=[114,101,99]
def vA:List UInt8:=[105,110]
def vz:List UInt8:=[105,102]
def EY:List UInt8:=[116,104,101,110]
def EW:List UInt8:=[101,108,115,101]
def zC:List UInt8:=[109,97,116,99,104]
def zE:List UInt8:=[116,114,121]
def Cl:List UInt8:=[119,105,116,104]
def zD:List UInt8:=[114,97,105,115,101]
def zF:List UInt8:=[116,121,112,101]
def sM:List UInt8:=[101,120,99,101,112,116,105,111,110]
structure qs where
 ty:Nat->List aq->bH (aN × List aq)
 hx:Nat->List aq->bH (aN × List aq)
 named:Nat->List aq->bH (aN × List aq)
 jk:Nat->List aq->bH (aN × List aq)
 iX:Nat->List aN->List aq->bH (List aN × List aq)
 pat:Nat->List aq->bH (aN × List aq)
 iU:Nat->List aq->bH (aN × List aq)
 gP:Nat->List aq->bH (aN × List aq)
 seq:Nat->List aq->bH (aN × List aq)
 cases:Nat->List aN->List aq->bH (List aN × List aq)
 fn:Nat->Nat->List aq->bH (aN × List aq)
 one:Nat->List aq->bH (aN × List aq)
 hq:Nat->Int->Nat->List aq->bH (aN × List aq)
 lt:Nat->Nat->List aq->bH (aN × List aq)
 binds:Nat->List aN->List aq->bH (List aN × List aq)
 pair:Nat->List aq->bH (aN × List aq)
 ja:Nat->List aq->bH (aN × List aq)
 hF:Nat->List aq->bH (aN × List aq)
 hG:Nat->List aq->bH (aN × List aq)
 lL:Nat->aN->List aq->bH (aN × List aq)
 lM:Nat->aN->List aq->bH (aN × List aq)
 pre:Nat->List aq->bH (aN × List aq)
 app:Nat->List aq->bH (aN × List aq)
 args:Nat->aN->List aq->bH (aN × List aq)
 atom:Nat->List aq->bH (aN × List aq)
def qs.none:qs:=⟨fun _ _=>.error b7,fun _ _=>.error b7,fun _ _=>.error b7,fun _ _=>.error b7,fun _ _ _=>.error b7,fun _ _=>.error b7,fun _ _=>.error b7,fun _ _=>.error b7,fun _ _=>.error b7,fun _ _ _=>.error b7,fun _ _ _=>.error b7,
 fun _ _=>.error b7,fun _ _ _ _=>.error b7,fun _ _ _=>.error b7,fun _ _ _=>.error b7,fun _ _=>.error b7,fun _ _=>.error b7,fun _ _=>.error b7,fun _ _=>.error b7,fun _ _ _=>.error b7,fun _ _ _=>.error b7,fun _ _=>.error b7,fun _ _=>.error b7,fun _ _ _=>.error b7,fun _ _=>.error b7⟩
def jb (d:Nat) (ws:List aq) (k:bH (aN × List aq)):bH (aN × List aq):=if 1000<=d then .error (271,bG ab ws) else k
def jT:aN->List aq->aN × List aq
 | a,[]=>(a,[])
 | a,w::ws=>if w.kind=3 then jT (.mk 2 0 a.a w.text [a]) ws else (a,w::ws)
def nQ (ws:List aq):Option (List UInt8):=if bb gQ ws then some gQ else if bb q5 ws then some q5 else if bb q4 ws then some q4 else none
def nR (ws:List aq):Option (List UInt8):=if bb r4 ws then some r4 else if bb hN ws then some hN else none
def nS (ws:List aq):Option (List UInt8):=if bb kW ws then some kW else if bb q6 ws then some q6 else if bb qL ws then some qL else none
def ya (ws:List aq):Bool:=r6 [iW,hN,e9,h3,iE] ws||cJ 3 ws||cJ 1 ws||cJ 4 ws
def n1 (ws:List aq):Bool:=r6 [e9,pj,h3,iE] ws||cJ 1 ws||cJ 2 ws||cJ 3 ws||cJ 4 ws
variable (T:qs)
def Da (d:Nat) (ws:List aq):bH (aN × List aq):=jb ab d ws do
 let (a,ws) <-T.hx (d+1) ws
 if bb jY ws then
  let (b,ws) <-T.ty (d+1) ws.tail
  return (two 4 a b,ws)
 else return (a,ws)
def Kn (d:Nat) (ws:List aq):bH (aN × List aq):=do
 let (a,ws) <-T.named d ws
 if bb kW ws then
  let (b,ws) <-T.hx d ws.tail
  return (two 3 a b,ws)
 else return (a,ws)
def CI (d:Nat) (ws:List aq):bH (aN × List aq):=do
 let (a,ws) <-T.jk d ws
 return jT a ws
def js (l:List aN) (ws:List aq):bH Unit:=if l.length=64 then .error (270,bG ab ws) else .ok ()
def nv (d:Nat) (l:List aN) (ws:List aq):bH (List aN × List aq):=
 if bb hh ws then do
  js ab l ws.tail
  let (a,ws) <-T.ty d ws.tail
  T.iX d (l++[a]) ws
 else .ok (l,ws)
def qc (d:Nat) (ws:List aq):bH (aN × List aq):=
 if cJ 5 ws then (fg ab 5 ws).map fun q=>(.mk 1 0 (bG ab ws) q.1.text [],q.2)
 else if cJ 3 ws then (fg ab 3 ws).map fun q=>(.mk 2 0 (bG ab ws) q.1.text [],q.2)
 else do
  let dO:=bG ab ws
  let ws <-ec ab e9 ws
  let (a,ws) <-T.ty d ws
  let (l,ws) <-T.iX d [a] ws
  let ws <-ec ab ej ws
  if l.length=1 then return (a,ws)
  else
   let (w,ws) <-fg ab 3 ws
   return (.mk 2 0 dO w.text l,ws)
def Kr (d:Nat) (ws:List aq):bH (aN × List aq):=jb ab d ws do
 let (a,ws) <-T.iU (d+1) ws
 if bb hh ws then
  let (b,ws) <-T.pat (d+1) ws.tail
  return (two 15 a b,ws)
 else return (a,ws)
def ox (d:Nat) (ws:List aq):bH (aN × List aq):=
 if cJ 4 ws then do
  let (w,ws) <-fg ab 4 ws
  if ya ws then
   let (p,ws) <-T.gP d ws
   return (.mk 16 0 w.pos w.text [p],ws)
  else return (.mk 16 0 w.pos w.text [],ws)
 else T.gP d ws
def p_ (d:Nat) (ws:List aq):bH (aN × List aq):=
 let dO:Int:=bG ab ws
 if bb iW ws then .ok (.mk 10 0 dO [] [],ws.tail)
 else if cJ 3 ws then (fg ab 3 ws).map fun q=>(.mk 11 0 dO q.1.text [],q.2)
 else if cJ 4 ws then (fg ab 4 ws).map fun q=>(.mk 16 0 dO q.1.text [],q.2)
 else if cJ 1 ws then (fg ab 1 ws).map fun q=>(.mk 12 q.1.num dO [] [],q.2)
 else if bb hN ws then (fg ab 1 ws.tail).map fun q=>(.mk 12 (sU q.1.num) dO [] [],q.2)
 else if bb h3 ws then .ok (.mk 14 1 dO [] [],ws.tail)
 else if bb iE ws then .ok (.mk 14 0 dO [] [],ws.tail)
 else do
  let ws <-ec ab e9 ws
  if bb ej ws then return (.mk 13 0 dO [] [],ws.tail)
  else
   let (p,ws) <-T.pat d ws
   let ws <-ec ab ej ws
   return (p,ws)
def K2 (d:Nat) (ws:List aq):bH (aN × List aq):=jb ab d ws do
 let (a,ws) <-T.one (d+1) ws
 if bb Ai ws then
  let (b,ws) <-T.seq (d+1) ws.tail
  return (two 35 a b,ws)
 else return (a,ws)
def yQ (d:Nat) (l:List aN) (ws:List aq):bH (List aN × List aq):=do
 let (p,ws) <-T.pat d ws
 let ws <-ec ab jY ws
 let (b,ws) <-T.seq d ws
 if bb jZ ws then T.cases d (l++[two 45 p b]) ws.tail else return (l++[two 45 p b],ws)
def HW (d dO:Nat) (ws:List aq):bH (aN × List aq):=do
 let (p,ws) <-T.pat d ws
 let ws <-ec ab jY ws
 let (b,ws) <-T.seq d ws
 return (.mk 27 0 dO [] [p,b],ws)
def uq (d:Nat) (ws:List aq):bH (aN × List aq):=
 let dO:=bG ab ws
 if bb pk ws then T.lt d dO ws.tail
 else if bb mH ws then T.fn d dO ws.tail
 else if bb vz ws then do
  let (a,ws) <-T.seq d ws.tail
  let ws <-ec ab EY ws
  let (b,ws) <-T.one d ws
  let ws <-ec ab EW ws
  let (c,ws) <-T.one d ws
  return (.mk 31 0 dO [] [a,b,c],ws)
 else if bb zC ws then T.hq d 32 dO ws.tail
 else if bb zE ws then T.hq d 33 dO ws.tail
 else do
  let (a,ws) <-T.pair d ws
  if bb Aj ws then
   let (b,ws) <-T.one d ws.tail
   return (two 37 a b,ws)
  else return (a,ws)
def Bi (d:Nat) (kind:Int) (dO:Nat) (ws:List aq):bH (aN × List aq):=do
 let (a,ws) <-T.seq d ws
 let ws <-ec ab Cl ws
 let (l,ws) <-T.cases d [] (if bb jZ ws then ws.tail else ws)
 return (.mk kind 0 dO [] (a::l),ws)
def ug (d dO:Nat) (ws:List aq):bH (aN × List aq):=
 if bb oo ws then do
  let (l,ws) <-T.binds d [] ws.tail
  let ws <-ec ab vA ws
  let (b,ws) <-T.seq d ws
  return (.mk 30 0 dO [] (l++[b]),ws)
 else do
  let (p,ws) <-T.pat d ws
  let ws <-ec ab gQ ws
  let (a,ws) <-T.seq d ws
  let ws <-ec ab vA ws
  let (b,ws) <-T.seq d ws
  return (.mk 29 0 dO [] [p,a,b],ws)
def yL (d:Nat) (l:List aN) (ws:List aq):bH (List aN × List aq):=do
 let (w,ws) <-fg ab 3 ws
 let ws <-ec ab gQ ws
 let dO:=bG ab ws
 let ws <-ec ab mH ws
 let (f,ws) <-T.fn d dO ws
 if bb zB ws then T.binds d (l++[.mk 46 0 w.pos w.text [f]]) ws.tail else return (l++[.mk 46 0 w.pos w.text [f]],ws)
def Km (d:Nat) (ws:List aq):bH (aN × List aq):=do
 let (a,ws) <-T.ja d ws
 if bb hh ws then
  let (b,ws) <-T.pair d ws.tail
  return (two 26 a b,ws)
 else return (a,ws)
def Bl (d:Nat) (ws:List aq):bH (aN × List aq):=do
 let (a,ws) <-T.hF d ws
 match nQ ws with
 | some s=>do
   let (b,ws) <-T.hF d ws.tail
   return (p8 s a b,ws)
 | none=>return (a,ws)
def C7 (d:Nat) (ws:List aq):bH (aN × List aq):=do
 let (a,ws) <-T.hG d ws
 T.lL d a ws
def ur (d:Nat) (a:aN) (ws:List aq):bH (aN × List aq):=
 match nR ws with
 | some s=>do
   let (b,ws) <-T.hG d ws.tail
   T.lL d (p8 s a b) ws
 | none=>.ok (a,ws)
def C8 (d:Nat) (ws:List aq):bH (aN × List aq):=do
 let (a,ws) <-T.pre d ws
 T.lM d a ws
def uu (d:Nat) (a:aN) (ws:List aq):bH (aN × List aq):=
 match nS ws with
 | some s=>do
   let (b,ws) <-T.pre d ws.tail
   T.lM d (p8 s a b) ws
 | none=>.ok (a,ws)
def Kw (d:Nat) (ws:List aq):bH (aN × List aq):=jb ab d ws (
 let dO:=bG ab ws
 if bb hN ws then (T.pre (d+1) ws.tail).map fun q=>(.mk 39 0 dO [] [q.1],q.2)
 else if bb x9 ws then (T.pre (d+1) ws.tail).map fun q=>(.mk 36 0 dO [] [q.1],q.2)
 else T.app (d+1) ws)
def sc (d:Nat) (ws:List aq):bH (aN × List aq):=
 let dO:=bG ab ws
 if bb zD ws then (T.atom d ws.tail).map fun q=>(.mk 34 0 dO [] [q.1],q.2)
 else if cJ 4 ws then do
  let (w,ws) <-fg ab 4 ws
  if n1 ws then
   let (a,ws) <-T.atom d ws
   return (.mk 25 0 dO w.text [a],ws)
  else return (.mk 25 0 dO w.text [],ws)
 else do
  let (a,ws) <-T.atom d ws
  T.args d a ws
def tm (d:Nat) (a:aN) (ws:List aq):bH (aN × List aq):=
 if n1 ws then do
  let (b,ws) <-T.atom d ws
  T.args d (two 28 a b) ws
 else .ok (a,ws)
def tr (d:Nat) (ws:List aq):bH (aN × List aq):=
 let dO:Int:=bG ab ws
 if cJ 1 ws then (fg ab 1 ws).map fun q=>(.mk 20 q.1.num dO [] [],q.2)
 else if cJ 2 ws then (fg ab 2 ws).map fun q=>(.mk 21 0 dO q.1.text [],q.2)
 else if cJ 3 ws then (fg ab 3 ws).map fun q=>(.mk 24 0 dO q.1.text [],q.2)
 else if cJ 4 ws then (fg ab 4 ws).map fun q=>(.mk 25 0 dO q.1.text [],q.2)
 else if bb h3 ws then .ok (.mk 23 1 dO [] [],ws.tail)
 else if bb iE ws then .ok (.mk 23 0 dO [] [],ws.tail)
 else if bb pj ws then do
  let (a,ws) <-T.seq d ws.tail
  let ws <-ec ab EX ws
  return (a,ws)
 else do
  let ws <-ec ab e9 ws
  if bb ej ws then return (.mk 22 0 dO [] [],ws.tail)
  else
   let (a,ws) <-T.seq d ws
   let ws <-ec ab ej ws
   return (a,ws)
def qs.step:qs:=⟨Da ab T,Kn T,CI T,qc ab T,nv ab T,Kr ab T,ox ab T,p_ ab T,K2 ab T,yQ ab T,HW ab T,uq ab T,Bi ab T,ug ab T,yL ab T,Km T,Bl T,C7 T,C8 T,ur T,uu T,Kw ab T,sc ab T,tm T,tr ab T⟩
def aU:Nat->qs
 | 0=>qs.none
 | n+1=>(aU n).step ab
def ko (kind:Int) (ws:List aq):bH (aN × List aq):=do
 let (w,ws) <-fg ab 4 ws
 if bb qM ws then
  let (t,ws) <-T.ty 0 ws.tail
  return (.mk kind 0 w.pos w.text [t],ws)
 else return (.mk kind 0 w.pos w.text [],ws)
def h9 (w:aq):aN:=.mk 1 0 w.pos w.text []
def kS:Nat->List aN->List aq->bH (List aN × List aq)
 | 0,_,_=>.error b7
 | n+1,l,ws=>if bb hh ws then do
    js ab l ws.tail
    let (w,ws) <-fg ab 5 ws.tail
    kS n (l++[h9 w]) ws
   else .ok (l,ws)
def pv (n:Nat) (ws:List aq):bH (List aN × List aq):=
 if cJ 5 ws then (fg ab 5 ws).map fun q=>([h9 q.1],q.2)
 else if bb e9 ws then do
  let (w,ws) <-fg ab 5 ws.tail
  let (l,ws) <-kS ab n [h9 w] ws
  let ws <-ec ab ej ws
  return (l,ws)
 else .ok ([],ws)
def oY:Nat->List aN->List aq->bH (List aN × List aq)
 | 0,_,_=>.error b7
 | n+1,l,ws=>if bb jZ ws then do
    let (c,ws) <-ko ab T 47 ws.tail
    oY n (l++[c]) ws
   else .ok (l,ws)
def kK (n:Nat) (ws:List aq):bH (aN × List aq):=
 let dO:Int:=bG ab ws
 if bb zF ws then do
  let (l,ws) <-pv ab n ws.tail
  let (w,ws) <-fg ab 3 ws
  let ws <-ec ab gQ ws
  let (c,ws) <-ko ab T 47 ws
  let (m,ws) <-oY ab T n (l++[c]) ws
  return (.mk 50 l.length dO w.text m,ws)
 else if bb sM ws then do
  let (c,ws) <-ko ab T 51 ws.tail
  return (.mk c.k c.n dO c.s c.l,ws)
 else do
  let ws <-ec ab pk ws
  if bb oo ws then
   let (l,ws) <-T.binds 0 [] ws.tail
   return (.mk 53 0 dO [] l,ws)
  else
   let (p,ws) <-T.pat 0 ws
   let ws <-ec ab gQ ws
   let (b,ws) <-T.seq 0 ws
   return (.mk 52 0 dO [] [p,b],ws)
def mr:Nat->List aN->List aq->bH (List aN)
 | 0,_,_=>.error b7
 | n+1,l,ws=>if ws=[] then .ok l else do
    let (p,ws) <-kK ab T n ws
    if 200<p.deep then .error (271,p.a.toNat) else
    let ws <-ec ab j0 ws
    mr n (l++[p]) ws
end
def ha (ws:List aq):Nat:=30 * ws.length+30
def lo (s:List UInt8):bH (List aN):=
 match iS s with
 | .error e=>.error e
 | .ok ws=>mr s.length (aU s.length (ha ws)) (ha ws) [] ws
def eK {α:Type} (E:Int × Nat->Prop) (ws:List aq):bH (α × List aq)->Prop
 | .error e=>E e
 | .ok q=>q.2.length<ws.length
def k1 {α:Type} (E:Int × Nat->Prop) (ws:List aq):bH (α × List aq)->Prop
 | .error e=>E e
 | .ok q=>q.2.length<=ws.length
def uX (e:Int × Nat):Prop:=e≠b7
theorem qz (e:Int × Nat) (h:e≠b7):uX e:=h
section
variable {α β:Type} {ws:List aq} {ab:Nat} {E:Int × Nat->Prop}
theorem eK.bind {G:bH β->Prop} {r:bH (α × List aq)} {f:α × List aq->bH β} (h:eK E ws r) (n':∀e,E e->G (.error e)) (aE:∀a bS,bS.length<ws.length->G (f (a,bS))):G (r >>= f):=by
 cases r with
 | error e=>exact n' e h
 | ok q=>exact aE q.1 q.2 h
theorem k1.bind {G:bH β->Prop} {r:bH (α × List aq)} {f:α × List aq->bH β} (h:k1 E ws r) (n':∀e,E e->G (.error e)) (aE:∀a bS,bS.length<=ws.length->G (f (a,bS))):G (r >>= f):=by
 cases r with
 | error e=>exact n' e h
 | ok q=>exact aE q.1 q.2 h
theorem eK.map {r:bH (α × List aq)} {f:α × List aq->β × List aq} (h:eK E ws r) (aE:∀q,(f q).2=q.2):eK E ws (r.map f):=by
 cases r with
 | error e=>exact h
 | ok q=>show (f q).2.length<_;rw [aE];exact h
theorem eK.ge {r:bH (α × List aq)} (h:eK E ws r):k1 E ws r:=by
 cases r with
 | error e=>exact h
 | ok q=>exact ap4 h
theorem eK.lt {bS:List aq} {r:bH (α × List aq)} (h:k1 E bS r) (aH:bS.length<ws.length):eK E ws r:=by
 cases r with
 | error e=>exact h
 | ok q=>exact Nat.lt_of_le_of_lt h aH
theorem k1.le {bS:List aq} {r:bH (α × List aq)} (h:k1 E bS r) (aH:bS.length<=ws.length):k1 E ws r:=by
 cases r with
 | error e=>exact h
 | ok q=>exact ao6 h aH
theorem eK.le {bS:List aq} {r:bH (α × List aq)} (h:eK E bS r) (aH:bS.length<=ws.length):eK E ws r:=by
 cases r with
 | error e=>exact h
 | ok q=>exact aqg h aH
theorem dX {e:Int × Nat} (h:E e):eK (α:=α) E ws (.error e):=h
theorem rz {e:Int × Nat} (h:E e):k1 (α:=α) E ws (.error e):=h
theorem F5 (p:Nat):((270:Int),p)≠b7:=by simp [b7]
theorem ahF (p:Nat):((271:Int),p)≠b7:=by simp [b7]
theorem fx {s:List UInt8} {ws:List aq} (h:bb s ws=true):ws.tail.length<ws.length:=by
 cases ws with
 | nil=>cases h
 | cons w ws=>simp
theorem kz (eh:∀e,e≠b7->E e) {G:bH β->Prop} {s:List UInt8} {f:List aq->bH β} (n':∀e,E e->G (.error e)) (aE:∀bS,bS.length<ws.length->G (f bS)):G (ec ab s ws >>= f):=by
 unfold ec
 split
 . exact aE _ (fx (by assumption))
 . exact n' _ (eh _ (F5 _))
theorem kF (eh:∀e,e≠b7->E e) {k:Int}:eK E ws (fg ab k ws):=by
 cases ws with
 | nil=>exact eh _ (F5 _)
 | cons w ws=>
   simp only [fg]
   split
   . simp [eK]
   . exact eh _ (F5 _)
theorem Pq (eh:∀e,e≠b7->E e) {G:bH β->Prop} {l:List aN} {f:Unit->bH β} (n':∀e,E e->G (.error e)) (aE:G (f ())):G (js ab l ws >>= f):=by
 unfold js
 split
 . exact n' _ (eh _ (F5 _))
 . exact aE
theorem D1 (eh:∀e,e≠b7->E e) {d:Nat} {r:bH (aN × List aq)} (h:eK E ws r):eK E ws (jb ab d ws r):=by
 unfold jb
 split
 . exact eh _ (ahF _)
 . exact h
theorem RN:∀(a:aN) (ws:List aq),(jT a ws).2.length<=ws.length
 | a,[]=>ao1 _
 | a,w::ws=>by
   simp only [jT]
   split
   . exact ao6 (RN _ ws) (by simp)
   . exact ao1 _
theorem aiC {s:List UInt8} (h:nQ ws=some s):ws.tail.length<ws.length:=by
 unfold nQ at h
 repeat' split at h
 all_goals first
  | exact fx (by assumption)
  | cases h
theorem R5 {s:List UInt8} (h:nR ws=some s):ws.tail.length<ws.length:=by
 unfold nR at h
 repeat' split at h
 all_goals first
  | exact fx (by assumption)
  | cases h
theorem R7 {s:List UInt8} (h:nS ws=some s):ws.tail.length<ws.length:=by
 unfold nS at h
 repeat' split at h
 all_goals first
  | exact fx (by assumption)
  | cases h
end
structure Told (E:Int × Nat->Prop) (n:Nat) (T:qs):Prop where
 ty:∀d ws,E b7\/30 * ws.length+4<=n->eK E ws (T.ty d ws)
 hx:∀d ws,E b7\/30 * ws.length+3<=n->eK E ws (T.hx d ws)
 named:∀d ws,E b7\/30 * ws.length+2<=n->eK E ws (T.named d ws)
 jk:∀d ws,E b7\/30 * ws.length+1<=n->eK E ws (T.jk d ws)
 iX:∀d l ws,E b7\/30 * ws.length+1<=n->k1 E ws (T.iX d l ws)
 pat:∀d ws,E b7\/30 * ws.length+3<=n->eK E ws (T.pat d ws)
 iU:∀d ws,E b7\/30 * ws.length+2<=n->eK E ws (T.iU d ws)
 gP:∀d ws,E b7\/30 * ws.length+1<=n->eK E ws (T.gP d ws)
 seq:∀d ws,E b7\/30 * ws.length+9<=n->eK E ws (T.seq d ws)
 cases:∀d l ws,E b7\/30 * ws.length+4<=n->eK E ws (T.cases d l ws)
 fn:∀d a ws,E b7\/30 * ws.length+4<=n->eK E ws (T.fn d a ws)
 one:∀d ws,E b7\/30 * ws.length+8<=n->eK E ws (T.one d ws)
 hq:∀d k a ws,E b7\/30 * ws.length+10<=n->eK E ws (T.hq d k a ws)
 lt:∀d a ws,E b7\/30 * ws.length+4<=n->eK E ws (T.lt d a ws)
 binds:∀d l ws,E b7\/30 * ws.length+1<=n->eK E ws (T.binds d l ws)
 pair:∀d ws,E b7\/30 * ws.length+7<=n->eK E ws (T.pair d ws)
 ja:∀d ws,E b7\/30 * ws.length+6<=n->eK E ws (T.ja d ws)
 hF:∀d ws,E b7\/30 * ws.length+5<=n->eK E ws (T.hF d ws)
 hG:∀d ws,E b7\/30 * ws.length+4<=n->eK E ws (T.hG d ws)
 lL:∀d a ws,E b7\/30 * ws.length+1<=n->k1 E ws (T.lL d a ws)
 lM:∀d a ws,E b7\/30 * ws.length+1<=n->k1 E ws (T.lM d a ws)
 pre:∀d ws,E b7\/30 * ws.length+3<=n->eK E ws (T.pre d ws)
 app:∀d ws,E b7\/30 * ws.length+2<=n->eK E ws (T.app d ws)
 args:∀d a ws,E b7\/30 * ws.length+2<=n->k1 E ws (T.args d a ws)
 atom:∀d ws,E b7\/30 * ws.length+1<=n->eK E ws (T.atom d ws)
theorem Lj {E:Int × Nat->Prop} (eh:∀e,e≠b7->E e) (ab:Nat):∀n,Told E n (aU ab n)
 | 0=>by constructor<;>(intros;rename_i h;exact h.elim id fun h=>by omega)
 | n+1=>by
   have I:=Lj eh ab n;constructor
   case ty=>
    intro d ws aF;refine D1 eh ((I.hx _ ws (aF.imp id fun aF=>by omega)).bind (fun _=>dX) fun a ba ae=>?_)
    try simp only
    split
    . rename_i al;have:=fx al
      try dsimp only
      exact (I.ty _ _ (aF.imp id fun aF=>by omega)).bind (fun _=>dX) fun b bt ag=>by show bt.length<_;omega
    . exact ae
   case hx=>
    intro d ws aF
    try dsimp only
    refine (I.named _ ws (aF.imp id fun aF=>by omega)).bind (fun _=>dX) fun a ba ae=>?_
    try simp only
    split
    . rename_i al;have:=fx al
      try dsimp only
      exact (I.hx _ _ (aF.imp id fun aF=>by omega)).bind (fun _=>dX) fun b bt ag=>by show bt.length<_;omega
    . exact ae
   case named=>
    intro d ws aF
    try dsimp only
    refine (I.jk _ ws (aF.imp id fun aF=>by omega)).bind (fun _=>dX) fun a ba ae=>?_;exact Nat.lt_of_le_of_lt (RN a ba) ae
   case jk=>
    intro d ws aF;show eK E ws (qc ab _ d ws);unfold qc
    split
    . exact (kF eh).map fun _=>rfl
    split
    . exact (kF eh).map fun _=>rfl
    try dsimp only
    refine kz eh (fun _=>dX) fun ba ae=>?_
    try dsimp only
    refine (I.ty _ _ (aF.imp id fun aF=>by omega)).bind (fun _=>dX) fun a bt ag=>?_
    try dsimp only
    refine (I.iX _ _ _ (aF.imp id fun aF=>by omega)).bind (fun _=>dX) fun l db ar=>?_
    try dsimp only
    refine kz eh (fun _=>dX) fun dj aT=>?_
    try simp only
    split
    . show dj.length<_;omega
    . try dsimp only
      exact (kF eh).bind (fun _=>dX) fun w fs bC=>by show fs.length<_;omega
   case iX=>
    intro d l ws aF;show k1 E ws (nv ab _ d l ws);unfold nv
    split
    . rename_i al;have:=fx al
      try dsimp only
      refine Pq eh (fun _=>rz) ?_
      try dsimp only
      refine (I.ty _ _ (aF.imp id fun aF=>by omega)).bind (fun _=>rz) fun a bt ag=>?_
      try dsimp only
      exact (I.iX _ _ _ (aF.imp id fun aF=>by omega)).le (by omega)
    . exact ao1 _
   case pat=>
    intro d ws aF;refine D1 eh ((I.iU _ ws (aF.imp id fun aF=>by omega)).bind (fun _=>dX) fun a ba ae=>?_)
    try simp only
    split
    . rename_i al;have:=fx al
      try dsimp only
      exact (I.pat _ _ (aF.imp id fun aF=>by omega)).bind (fun _=>dX) fun b bt ag=>by show bt.length<_;omega
    . exact ae
   case iU=>
    intro d ws aF;show eK E ws (ox ab _ d ws);unfold ox
    split
    . try dsimp only
      refine (kF eh).bind (fun _=>dX) fun w ba ae=>?_
      try simp only
      split
      . try dsimp only
        exact (I.gP _ _ (aF.imp id fun aF=>by omega)).bind (fun _=>dX) fun b bt ag=>by show bt.length<_;omega
      . exact ae
    . try dsimp only
      exact I.gP _ _ (aF.imp id fun aF=>by omega)
   case gP=>
    intro d ws aF;show eK E ws (p_ ab _ d ws);unfold p_
    try simp only
    split
    . exact fx (by assumption)
    split
    . exact (kF eh).map fun _=>rfl
    split
    . exact (kF eh).map fun _=>rfl
    split
    . exact (kF eh).map fun _=>rfl
    split
    . rename_i al;have:=fx al;exact eK.le (bS:=ws.tail) ((kF eh).map fun _=>rfl) (ap4 this)
    split
    . exact fx (by assumption)
    split
    . exact fx (by assumption)
    try dsimp only
    refine kz eh (fun _=>dX) fun ba ae=>?_
    split
    . rename_i al;have:=fx al;show ba.tail.length<_;omega
    . try dsimp only
      refine (I.pat _ _ (aF.imp id fun aF=>by omega)).bind (fun _=>dX) fun a bt ag=>?_
      try dsimp only
      exact kz eh (fun _=>dX) fun db ar=>by show db.length<_;omega
   case seq=>
    intro d ws aF;refine D1 eh ((I.one _ ws (aF.imp id fun aF=>by omega)).bind (fun _=>dX) fun a ba ae=>?_)
    try simp only
    split
    . rename_i al;have:=fx al
      try dsimp only
      exact (I.seq _ _ (aF.imp id fun aF=>by omega)).bind (fun _=>dX) fun b bt ag=>by show bt.length<_;omega
    . exact ae
   case cases=>
    intro d l ws aF
    try dsimp only
    refine (I.pat _ ws (aF.imp id fun aF=>by omega)).bind (fun _=>dX) fun a ba ae=>?_
    try dsimp only
    refine kz eh (fun _=>dX) fun bt ag=>?_
    try dsimp only
    refine (I.seq _ _ (aF.imp id fun aF=>by omega)).bind (fun _=>dX) fun b db ar=>?_
    try simp only
    split
    . rename_i al;have:=fx al
      try dsimp only
      exact (I.cases _ _ _ (aF.imp id fun aF=>by omega)).le (by omega)
    . show db.length<_;omega
   case fn=>
    intro d a0 ws aF
    try dsimp only
    refine (I.pat _ ws (aF.imp id fun aF=>by omega)).bind (fun _=>dX) fun a ba ae=>?_
    try dsimp only
    refine kz eh (fun _=>dX) fun bt ag=>?_
    try dsimp only
    exact (I.seq _ _ (aF.imp id fun aF=>by omega)).bind (fun _=>dX) fun b db ar=>by show db.length<_;omega
   case one=>
    intro d ws aF;show eK E ws (uq ab _ d ws);unfold uq
    try simp only
    split
    . rename_i al;have:=fx al
      try dsimp only
      exact (I.lt _ _ _ (aF.imp id fun aF=>by omega)).le (by omega)
    split
    . rename_i al;have:=fx al
      try dsimp only
      exact (I.fn _ _ _ (aF.imp id fun aF=>by omega)).le (by omega)
    split
    . rename_i al;have:=fx al
      try dsimp only
      refine (I.seq _ _ (aF.imp id fun aF=>by omega)).bind (fun _=>dX) fun a ba ae=>?_
      try dsimp only
      refine kz eh (fun _=>dX) fun bt ag=>?_
      try dsimp only
      refine (I.one _ _ (aF.imp id fun aF=>by omega)).bind (fun _=>dX) fun a db ar=>?_
      try dsimp only
      refine kz eh (fun _=>dX) fun dj aT=>?_
      try dsimp only
      exact (I.one _ _ (aF.imp id fun aF=>by omega)).bind (fun _=>dX) fun a fs bC=>by show fs.length<_;omega
    split
    . rename_i al;have:=fx al
      try dsimp only
      exact (I.hq _ _ _ _ (aF.imp id fun aF=>by omega)).le (by omega)
    split
    . rename_i al;have:=fx al
      try dsimp only
      exact (I.hq _ _ _ _ (aF.imp id fun aF=>by omega)).le (by omega)
    try dsimp only
    refine (I.pair _ ws (aF.imp id fun aF=>by omega)).bind (fun _=>dX) fun a ba ae=>?_
    try simp only
    split
    . rename_i al;have:=fx al
      try dsimp only
      exact (I.one _ _ (aF.imp id fun aF=>by omega)).bind (fun _=>dX) fun b bt ag=>by show bt.length<_;omega
    . exact ae
   case hq=>
    intro d k a0 ws aF
    try dsimp only
    refine (I.seq _ ws (aF.imp id fun aF=>by omega)).bind (fun _=>dX) fun a ba ae=>?_
    try dsimp only
    refine kz eh (fun _=>dX) fun bt ag=>?_;have ar:(if bb jZ bt then bt.tail else bt).length<=bt.length:=by split<;>simp
    try dsimp only
    exact (I.cases _ _ _ (aF.imp id fun aF=>by omega)).bind (fun _=>dX) fun b dj aT=>by show dj.length<_;omega
   case lt=>
    intro d a0 ws aF;show eK E ws (ug ab _ d a0 ws);unfold ug
    split
    . rename_i al;have:=fx al
      try dsimp only
      refine (I.binds _ _ _ (aF.imp id fun aF=>by omega)).bind (fun _=>dX) fun a ba ae=>?_
      try dsimp only
      refine kz eh (fun _=>dX) fun bt ag=>?_
      try dsimp only
      exact (I.seq _ _ (aF.imp id fun aF=>by omega)).bind (fun _=>dX) fun b db ar=>by show db.length<_;omega
    . try dsimp only
      refine (I.pat _ ws (aF.imp id fun aF=>by omega)).bind (fun _=>dX) fun a ba ae=>?_
      try dsimp only
      refine kz eh (fun _=>dX) fun bt ag=>?_
      try dsimp only
      refine (I.seq _ _ (aF.imp id fun aF=>by omega)).bind (fun _=>dX) fun b db ar=>?_
      try dsimp only
      refine kz eh (fun _=>dX) fun dj aT=>?_
      try dsimp only
      exact (I.seq _ _ (aF.imp id fun aF=>by omega)).bind (fun _=>dX) fun b fs bC=>by show fs.length<_;omega
   case binds=>
    intro d l ws aF
    try dsimp only
    refine (kF eh).bind (fun _=>dX) fun w ba ae=>?_
    try dsimp only
    refine kz eh (fun _=>dX) fun bt ag=>?_
    try dsimp only
    refine kz eh (fun _=>dX) fun db ar=>?_
    try dsimp only
    refine (I.fn _ _ _ (aF.imp id fun aF=>by omega)).bind (fun _=>dX) fun b dj aT=>?_
    try simp only
    split
    . rename_i al;have:=fx al
      try dsimp only
      exact (I.binds _ _ _ (aF.imp id fun aF=>by omega)).le (by omega)
    . show dj.length<_;omega
   case pair=>
    intro d ws aF
    try dsimp only
    refine (I.ja _ ws (aF.imp id fun aF=>by omega)).bind (fun _=>dX) fun a ba ae=>?_
    try simp only
    split
    . rename_i al;have:=fx al
      try dsimp only
      exact (I.pair _ _ (aF.imp id fun aF=>by omega)).bind (fun _=>dX) fun b bt ag=>by show bt.length<_;omega
    . exact ae
   case ja=>
    intro d ws aF
    try dsimp only
    refine (I.hF _ ws (aF.imp id fun aF=>by omega)).bind (fun _=>dX) fun a ba ae=>?_
    try simp only
    split
    . rename_i al;have:=aiC al
      try dsimp only
      exact (I.hF _ _ (aF.imp id fun aF=>by omega)).bind (fun _=>dX) fun b bt ag=>by show bt.length<_;omega
    . exact ae
   case hF=>
    intro d ws aF
    try dsimp only
    refine (I.hG _ ws (aF.imp id fun aF=>by omega)).bind (fun _=>dX) fun a ba ae=>?_
    try dsimp only
    exact eK.lt (I.lL _ _ _ (aF.imp id fun aF=>by omega)) ae
   case hG=>
    intro d ws aF
    try dsimp only
    refine (I.pre _ ws (aF.imp id fun aF=>by omega)).bind (fun _=>dX) fun a ba ae=>?_
    try dsimp only
    exact eK.lt (I.lM _ _ _ (aF.imp id fun aF=>by omega)) ae
   case lL=>
    intro d a ws aF;show k1 E ws (ur _ d a ws);unfold ur
    split
    . rename_i al;have:=R5 al
      try dsimp only
      refine (I.hG _ _ (aF.imp id fun aF=>by omega)).bind (fun _=>rz) fun b ba ae=>?_
      try dsimp only
      exact (I.lL _ _ _ (aF.imp id fun aF=>by omega)).le (by omega)
    . exact ao1 _
   case lM=>
    intro d a ws aF;show k1 E ws (uu _ d a ws);unfold uu
    split
    . rename_i al;have:=R7 al
      try dsimp only
      refine (I.pre _ _ (aF.imp id fun aF=>by omega)).bind (fun _=>rz) fun b ba ae=>?_
      try dsimp only
      exact (I.lM _ _ _ (aF.imp id fun aF=>by omega)).le (by omega)
    . exact ao1 _
   case pre=>
    intro d ws aF;refine D1 eh ?_
    try simp only
    split
    . rename_i al;have:=fx al;exact eK.le (bS:=ws.tail) ((I.pre _ _ (aF.imp id fun aF=>by omega)).map fun _=>rfl) (by omega)
    split
    . rename_i al;have:=fx al;exact eK.le (bS:=ws.tail) ((I.pre _ _ (aF.imp id fun aF=>by omega)).map fun _=>rfl) (by omega)
    try dsimp only
    exact I.app _ _ (aF.imp id fun aF=>by omega)
   case app=>
    intro d ws aF;show eK E ws (sc ab _ d ws);unfold sc
    try simp only
    split
    . rename_i al;have:=fx al;exact eK.le (bS:=ws.tail) ((I.atom _ _ (aF.imp id fun aF=>by omega)).map fun _=>rfl) (by omega)
    split
    . try dsimp only
      refine (kF eh).bind (fun _=>dX) fun w ba ae=>?_
      try simp only
      split
      . try dsimp only
        exact (I.atom _ _ (aF.imp id fun aF=>by omega)).bind (fun _=>dX) fun b bt ag=>by show bt.length<_;omega
      . exact ae
    . try dsimp only
      refine (I.atom _ _ (aF.imp id fun aF=>by omega)).bind (fun _=>dX) fun b bt ag=>?_
      try dsimp only
      exact eK.lt (I.args _ _ _ (aF.imp id fun aF=>by omega)) ag
   case args=>
    intro d a ws aF;show k1 E ws (tm _ d a ws);unfold tm
    split
    . try dsimp only
      refine (I.atom _ _ (aF.imp id fun aF=>by omega)).bind (fun _=>rz) fun b bt ag=>?_
      try dsimp only
      exact (I.args _ _ _ (aF.imp id fun aF=>by omega)).le (by omega)
    . exact ao1 _
   case atom=>
    intro d ws aF;show eK E ws (tr ab _ d ws);unfold tr
    try simp only
    split
    . exact (kF eh).map fun _=>rfl
    split
    . exact (kF eh).map fun _=>rfl
    split
    . exact (kF eh).map fun _=>rfl
    split
    . exact (kF eh).map fun _=>rfl
    split
    . exact fx (by assumption)
    split
    . exact fx (by assumption)
    split
    . rename_i al;have:=fx al
      try dsimp only
      refine (I.seq _ _ (aF.imp id fun aF=>by omega)).bind (fun _=>dX) fun a ba ae=>?_
      try dsimp only
      exact kz eh (fun _=>dX) fun bt ag=>by show bt.length<_;omega
    try dsimp only
    refine kz eh (fun _=>dX) fun ba ae=>?_
    split
    . rename_i al;have:=fx al;show ba.tail.length<_;omega
    . try dsimp only
      refine (I.seq _ _ (aF.imp id fun aF=>by omega)).bind (fun _=>dX) fun a bt ag=>?_
      try dsimp only
      exact kz eh (fun _=>dX) fun db ar=>by show db.length<_;omega
theorem told (ab n:Nat):Told uX n (aU ab n):=Lj qz ab n
theorem shorter (ab n:Nat):Told (fun _=>True) n (aU ab n):=Lj (fun _ _=>trivial) ab n
section
variable {ab:Nat} {T:qs} {N:Nat} (I:Told uX N T)
include I
theorem HA {k:Int} {ws:List aq} (h:30 * ws.length+4<=N):eK uX ws (ko ab T k ws):=by
 try dsimp only
 refine (kF qz).bind (fun _=>dX) fun w ba ae=>?_
 try simp only
 split
 . rename_i al;have:=fx al
   try dsimp only
   exact (I.ty _ _ (.inr (by omega))).bind (fun _=>dX) fun b bt ag=>by show bt.length<_;omega
 . exact ae
theorem ON:∀{n:Nat} {l:List aN} {ws:List aq},ws.length<n->30 * ws.length+4<=N->k1 uX ws (oY ab T n l ws)
 | 0,l,ws,h,_=>by omega
 | n+1,l,ws,h,cP=>by
   simp only [oY]
   split
   . rename_i al;have:=fx al
     try dsimp only
     refine (HA I (by omega)).bind (fun _=>rz) fun c ba ae=>?_
     try dsimp only
     exact k1.le (bS:=ba) (ON (by omega) (by omega)) (by omega)
   . exact ao1 _
omit I in
theorem Si:∀{n:Nat} {l:List aN} {ws:List aq},ws.length<n->k1 uX ws (kS ab n l ws)
 | 0,l,ws,h=>by omega
 | n+1,l,ws,h=>by
   simp only [kS]
   split
   . rename_i al;have:=fx al
     try dsimp only
     refine Pq qz (fun _=>rz) ?_
     try dsimp only
     refine (kF qz).bind (fun _=>rz) fun c ba ae=>?_
     try dsimp only
     exact k1.le (bS:=ba) (Si (by omega)) (by omega)
   . exact ao1 _
omit I in
theorem ajw {n:Nat} {ws:List aq} (h:ws.length<n):k1 uX ws (pv ab n ws):=by
 unfold pv
 split
 . exact eK.ge (eK.map (kF qz) fun _=>rfl)
 split
 . rename_i al;have:=fx al
   try dsimp only
   refine (kF qz).bind (fun _=>rz) fun w ba ae=>?_
   try dsimp only
   refine (Si (ws:=ba) (by omega)).bind (fun _=>rz) fun l bt ag=>?_
   try dsimp only
   exact kz qz (fun _=>rz) fun db ar=>by show db.length<=_;omega
 . exact ao1 _
theorem aae {n:Nat} {ws:List aq} (h:ws.length<n) (cP:30 * ws.length+30<=N):eK uX ws (kK ab T n ws):=by
 unfold kK
 try simp only
 split
 . rename_i al;have:=fx al;refine (ajw (by omega)).bind (fun _=>dX) fun l ba ae=>?_
   try dsimp only
   refine (kF qz).bind (fun _=>dX) fun w bt ag=>?_
   try dsimp only
   refine kz qz (fun _=>dX) fun db ar=>?_
   try dsimp only
   refine (HA I (by omega)).bind (fun _=>dX) fun c dj aT=>?_
   try dsimp only
   exact (ON (ws:=dj) I (by omega) (by omega)).bind (fun _=>dX) fun m fs bC=>by show fs.length<_;omega
 split
 . rename_i al;have:=fx al
   try dsimp only
   exact (HA I (by omega)).bind (fun _=>dX) fun c ba ae=>by show ba.length<_;omega
 try dsimp only
 refine kz qz (fun _=>dX) fun ba ae=>?_
 split
 . rename_i al;have:=fx al
   try dsimp only
   exact (I.binds _ _ _ (.inr (by omega))).bind (fun _=>dX) fun c bt ag=>by show bt.length<_;omega
 . try dsimp only
   refine (I.pat _ _ (.inr (by omega))).bind (fun _=>dX) fun p bt ag=>?_
   try dsimp only
   refine kz qz (fun _=>dX) fun db ar=>?_
   try dsimp only
   exact (I.seq _ _ (.inr (by omega))).bind (fun _=>dX) fun b dj aT=>by show dj.length<_;omega
theorem OW:∀{n:Nat} {l:List aN} {ws:List aq},ws.length+1<n->30 * ws.length+30<=N->mr ab T n l ws≠.error b7
 | 0,l,ws,h,_=>by omega
 | n+1,l,ws,h,cP=>by
   simp only [mr]
   split
   . simp
   . refine (aae I (by omega) cP).bind (G:=fun r=>r≠.error b7) (fun e h z=>h (by cases z;rfl)) fun p ba ae=>?_
     try simp only
     split
     . intro z;cases z
     . try dsimp only
       refine kz qz (G:=fun r=>r≠.error b7) (fun e h z=>h (by cases z;rfl)) fun bt ag=>?_
       try dsimp only
       exact OW (ws:=bt) (by omega) (by omega)
end
theorem ajE (s:List UInt8) (h:∀e,iS s=.error e->e≠b7):lo s≠.error b7:=by
 unfold lo;cases aH:iS s with
 | error e=>simp only;intro q;cases q;exact h _ aH rfl
 | ok ws=>exact OW (told s.length (ha ws)) (by unfold ha;omega) (by unfold ha;omega)
inductive L6 where
 | ty | hx | named | names | jk | iX | pat | iU | gP | seq | cases | fn (a:Nat) | one | hq (k:Int) (a:Nat) | lt (a:Nat) | binds | pair | ja | hF | hG | lL | lM | pre | app | args | atom
 | ctor (k:Int) | params | kS | ctors | decl
def eg (s:List UInt8) (w:aq):Prop:=(w.kind=7\/w.kind=6)/\w.text=s
inductive bD:L6->List aN->List aq->List aN->List aq->Prop where
 | amb {ws ba a}:bD .hx [] ws [a] ba->bD .ty [] ws [a] ba
 | amc {ws ba bt a b w}:bD .hx [] ws [a] (w::ba)->eg jY w->bD .ty [] ba [b] bt->bD .ty [] ws [two 4 a b] bt
 | ajj {ws ba a}:bD .named [] ws [a] ba->bD .hx [] ws [a] ba
 | ajk {ws ba bt a b w}:bD .named [] ws [a] (w::ba)->eg kW w->bD .hx [] ba [b] bt->bD .hx [] ws [two 3 a b] bt
 | named {ws ba bt a b}:bD .jk [] ws [a] ba->bD .names [a] ba [b] bt->bD .named [] ws [b] bt
 | RL {ws a}:bD .names [a] ws [a] ws
 | ahz {ws ba a b w}:w.kind=3->bD .names [.mk 2 0 a.a w.text [a]] ws [b] ba->bD .names [a] (w::ws) [b] ba
 | amj {ws w}:w.kind=5->bD .jk [] (w::ws) [.mk 1 0 w.pos w.text []] ws
 | amh {ws w}:w.kind=3->bD .jk [] (w::ws) [.mk 2 0 w.pos w.text []] ws
 | ami {ws ba bt a w c}:eg e9 w->bD .ty [] ws [a] ba->bD .iX [a] ba [a] (c::bt)->eg ej c->bD .jk [] (w::ws) [a] bt
 | amg {ws ba bt a l w c v}:eg e9 w->bD .ty [] ws [a] ba->bD .iX [a] ba l (c::v::bt)->eg ej c->v.kind=3->bD .jk [] (w::ws) [.mk 2 0 w.pos v.text l] bt
 | amn {ws l}:bD .iX l ws l ws
 | amo {ws ba bt l eD a w}:eg hh w->l.length≠64->bD .ty [] ws [a] ba->bD .iX (l++[a]) ba eD bt->bD .iX l (w::ws) eD bt
 | ajd {ws ba a}:bD .iU [] ws [a] ba->bD .pat [] ws [a] ba
 | aje {ws ba bt a b w}:bD .iU [] ws [a] (w::ba)->eg hh w->bD .pat [] ba [b] bt->bD .pat [] ws [two 15 a b] bt
 | ajV {ws ba p w}:w.kind=4->bD .gP [] ws [p] ba->bD .iU [] (w::ws) [.mk 16 0 w.pos w.text [p]] ba
 | ajU {ws w}:w.kind=4->bD .iU [] (w::ws) [.mk 16 0 w.pos w.text []] ws
 | ajY {ws ba p}:bD .gP [] ws [p] ba->bD .iU [] ws [p] ba
 | ajs {ws w}:eg iW w->bD .gP [] (w::ws) [.mk 10 0 w.pos [] []] ws
 | ako {ws w}:w.kind=3->bD .gP [] (w::ws) [.mk 11 0 w.pos w.text []] ws
 | ajZ {ws w}:w.kind=4->bD .gP [] (w::ws) [.mk 16 0 w.pos w.text []] ws
 | aj7 {ws w}:w.kind=1->bD .gP [] (w::ws) [.mk 12 w.num w.pos [] []] ws
 | aj6 {ws w v}:eg hN w->v.kind=1->bD .gP [] (w::v::ws) [.mk 12 (sU v.num) w.pos [] []] ws
 | akh {ws w}:eg h3 w->bD .gP [] (w::ws) [.mk 14 1 w.pos [] []] ws
 | aj1 {ws w}:eg iE w->bD .gP [] (w::ws) [.mk 14 0 w.pos [] []] ws
 | punit {ws w c}:eg e9 w->eg ej c->bD .gP [] (w::c::ws) [.mk 13 0 w.pos [] []] ws
 | aj9 {ws ba p w c}:eg e9 w->bD .pat [] ws [p] (c::ba)->eg ej c->bD .gP [] (w::ws) [p] ba
 | seq1 {ws ba a}:bD .one [] ws [a] ba->bD .seq [] ws [a] ba
 | ak_ {ws ba bt a b w}:bD .one [] ws [a] (w::ba)->eg Ai w->bD .seq [] ba [b] bt->bD .seq [] ws [two 35 a b] bt
 | Y6 {ws ba bt l p b w}:bD .pat [] ws [p] (w::ba)->eg jY w->bD .seq [] ba [b] bt->bD .cases l ws (l++[two 45 p b]) bt
 | Y7 {ws ba bt db l eD p b w v}:bD .pat [] ws [p] (w::ba)->eg jY w->bD .seq [] ba [b] (v::bt)->eg jZ v->bD .cases (l++[two 45 p b]) bt eD db->bD .cases l ws eD db
 | fn {ws ba bt p b w} {a:Nat}:bD .pat [] ws [p] (w::ba)->eg jY w->bD .seq [] ba [b] bt->bD (.fn a) [] ws [.mk 27 0 a [] [p,b]] bt
 | ah_ {ws ba a w}:eg pk w->bD (.lt w.pos) [] ws [a] ba->bD .one [] (w::ws) [a] ba
 | ah9 {ws ba a w}:eg mH w->bD (.fn w.pos) [] ws [a] ba->bD .one [] (w::ws) [a] ba
 | ah' {ws ba bt db a b c w t e}:eg vz w->bD .seq [] ws [a] (t::ba)->eg EY t->bD .one [] ba [b] (e::bt)->eg EW e->bD .one [] bt [c] db->bD .one [] (w::ws) [.mk 31 0 w.pos [] [a,b,c]] db
 | aia {ws ba a w}:eg zC w->bD (.hq 32 w.pos) [] ws [a] ba->bD .one [] (w::ws) [a] ba
 | aiX {ws ba a w}:eg zE w->bD (.hq 33 w.pos) [] ws [a] ba->bD .one [] (w::ws) [a] ba
 | aiJ {ws ba a}:bD .pair [] ws [a] ba->bD .one [] ws [a] ba
 | oset {ws ba bt a b w}:bD .pair [] ws [a] (w::ba)->eg Aj w->bD .one [] ba [b] bt->bD .one [] ws [two 37 a b] bt
 | Zp {ws ba bt a l w} {k:Int} {n:Nat}:bD .seq [] ws [a] (w::ba)->eg Cl w->bD .cases [] ba l bt->bD (.hq k n) [] ws [.mk k 0 n [] (a::l)] bt
 | fC {ws ba bt a l w v} {k:Int} {n:Nat}:bD .seq [] ws [a] (w::v::ba)->eg Cl w->eg jZ v->bD .cases [] ba l bt->bD (.hq k n) [] ws [.mk k 0 n [] (a::l)] bt
 | d' {ws ba bt l b w i} {n:Nat}:eg oo w->bD .binds [] ws l (i::ba)->eg vA i->bD .seq [] ba [b] bt->bD (.lt n) [] (w::ws) [.mk 30 0 n [] (l++[b])] bt
 | ahc {ws ba bt db p a b e i} {n:Nat}:bD .pat [] ws [p] (e::ba)->eg gQ e->bD .seq [] ba [a] (i::bt)->eg vA i->bD .seq [] bt [b] db->bD (.lt n) [] ws [.mk 29 0 n [] [p,a,b]] db
 | Wy {ws ba l b w e f}:w.kind=3->eg gQ e->eg mH f->bD (.fn f.pos) [] ws [b] ba->bD .binds l (w::e::f::ws) (l++[.mk 46 0 w.pos w.text [b]]) ba
 | Wz {ws ba bt l eD b w e f v}:w.kind=3->eg gQ e->eg mH f->bD (.fn f.pos) [] ws [b] (v::ba)->eg zB v->bD .binds (l++[.mk 46 0 w.pos w.text [b]]) ba eD bt->bD .binds l (w::e::f::ws) eD bt
 | ajf {ws ba a}:bD .ja [] ws [a] ba->bD .pair [] ws [a] ba
 | ajg {ws ba bt a b w}:bD .ja [] ws [a] (w::ba)->eg hh w->bD .pair [] ba [b] bt->bD .pair [] ws [two 26 a b] bt
 | Zw {ws ba a}:bD .hF [] ws [a] ba->bD .ja [] ws [a] ba
 | Zx {ws ba bt a b w s}:bD .hF [] ws [a] (w::ba)->eg s w->s ∈ [gQ,q5,q4]->bD .hF [] ba [b] bt->bD .ja [] ws [p8 s a b] bt
 | hF {ws ba bt a b}:bD .hG [] ws [a] ba->bD .lL [a] ba [b] bt->bD .hF [] ws [b] bt
 | aiL {ws a}:bD .lL [a] ws [a] ws
 | aiM {ws ba bt a b c w s}:eg s w->s ∈ [r4,hN]->bD .hG [] ws [b] ba->bD .lL [p8 s a b] ba [c] bt->bD .lL [a] (w::ws) [c] bt
 | hG {ws ba bt a b}:bD .pre [] ws [a] ba->bD .lM [a] ba [b] bt->bD .hG [] ws [b] bt
 | aiN {ws a}:bD .lM [a] ws [a] ws
 | aiO {ws ba bt a b c w s}:eg s w->s ∈ [kW,q6,qL]->bD .pre [] ws [b] ba->bD .lM [p8 s a b] ba [c] bt->bD .lM [a] (w::ws) [c] bt
 | neg {ws ba a w}:eg hN w->bD .pre [] ws [a] ba->bD .pre [] (w::ws) [.mk 39 0 w.pos [] [a]] ba
 | get {ws ba a w}:eg x9 w->bD .pre [] ws [a] ba->bD .pre [] (w::ws) [.mk 36 0 w.pos [] [a]] ba
 | aj' {ws ba a}:bD .app [] ws [a] ba->bD .pre [] ws [a] ba
 | raise {ws ba a w}:eg zD w->bD .atom [] ws [a] ba->bD .app [] (w::ws) [.mk 34 0 w.pos [] [a]] ba
 | ZB {ws ba a w}:w.kind=4->bD .atom [] ws [a] ba->bD .app [] (w::ws) [.mk 25 0 w.pos w.text [a]] ba
 | ZA {ws w}:w.kind=4->bD .app [] (w::ws) [.mk 25 0 w.pos w.text []] ws
 | app {ws ba bt a b}:bD .atom [] ws [a] ba->bD .args [a] ba [b] bt->bD .app [] ws [b] bt
 | V2 {ws a}:bD .args [a] ws [a] ws
 | V3 {ws ba bt a b c}:bD .atom [] ws [b] ba->bD .args [two 28 a b] ba [c] bt->bD .args [a] ws [c] bt
 | VT {ws w}:w.kind=1->bD .atom [] (w::ws) [.mk 20 w.num w.pos [] []] ws
 | We {ws w}:w.kind=2->bD .atom [] (w::ws) [.mk 21 0 w.pos w.text []] ws
 | Wm {ws w}:w.kind=3->bD .atom [] (w::ws) [.mk 24 0 w.pos w.text []] ws
 | Vy {ws w}:w.kind=4->bD .atom [] (w::ws) [.mk 25 0 w.pos w.text []] ws
 | Wk {ws w}:eg h3 w->bD .atom [] (w::ws) [.mk 23 1 w.pos [] []] ws
 | VQ {ws w}:eg iE w->bD .atom [] (w::ws) [.mk 23 0 w.pos [] []] ws
 | Vw {ws ba a w e}:eg pj w->bD .seq [] ws [a] (e::ba)->eg EX e->bD .atom [] (w::ws) [a] ba
 | Wl {ws w c}:eg e9 w->eg ej c->bD .atom [] (w::c::ws) [.mk 22 0 w.pos [] []] ws
 | VU {ws ba a w c}:eg e9 w->bD .seq [] ws [a] (c::ba)->eg ej c->bD .atom [] (w::ws) [a] ba
 | ZV {ws w} {k:Int}:w.kind=4->bD (.ctor k) [] (w::ws) [.mk k 0 w.pos w.text []] ws
 | ZW {ws ba t w o} {k:Int}:w.kind=4->eg qM o->bD .ty [] ws [t] ba->bD (.ctor k) [] (w::o::ws) [.mk k 0 w.pos w.text [t]] ba
 | ajt {ws}:bD .params [] ws [] ws
 | aju {ws w}:w.kind=5->bD .params [] (w::ws) [h9 w] ws
 | ajB {ws ba l o w c}:eg e9 o->w.kind=5->bD .kS [h9 w] ws l (c::ba)->eg ej c->bD .params [] (o::w::ws) l ba
 | ajz {ws l}:bD .kS l ws l ws
 | ajA {ws ba l eD w v}:eg hh w->l.length≠64->v.kind=5->bD .kS (l++[h9 v]) ws eD ba->bD .kS l (w::v::ws) eD ba
 | ZY {ws l}:bD .ctors l ws l ws
 | ZZ {ws ba bt l eD c w}:eg jZ w->bD (.ctor 47) [] ws [c] ba->bD .ctors (l++[c]) ba eD bt->bD .ctors l (w::ws) eD bt
 | aaH {ws ba bt db l m c w n e}:eg zF w->bD .params [] ws l (n::e::ba)->n.kind=3->eg gQ e->bD (.ctor 47) [] ba [c] bt->bD .ctors (l++[c]) bt m db->bD .decl [] (w::ws) [.mk 50 l.length w.pos n.text m] db
 | OZ {ws ba c w}:eg sM w->bD (.ctor 51) [] ws [c] ba->bD .decl [] (w::ws) [.mk c.k c.n w.pos c.s c.l] ba
 | aaE {ws ba l w r}:eg pk w->eg oo r->bD .binds [] ws l ba->bD .decl [] (w::r::ws) [.mk 53 0 w.pos [] l] ba
 | aav {ws ba bt p b w e}:eg pk w->bD .pat [] ws [p] (e::ba)->eg gQ e->bD .seq [] ba [b] bt->bD .decl [] (w::ws) [.mk 52 0 w.pos [] [p,b]] bt
section
variable {α β:Type} {ab:Nat} {ws bS:List aq}
theorem du {r:bH α} {f:α->bH β} {y:β} (h:(r >>= f)=.ok y):∃x,r=.ok x/\f x=.ok y:=by
 cases r with
 | error e=>cases h
 | ok x=>exact ⟨x,rfl,h⟩
theorem po {r:bH α} {f:α->β} {y:β} (h:r.map f=.ok y):∃x,r=.ok x/\f x=y:=by
 cases r with
 | error e=>cases h
 | ok x=>cases h;exact ⟨x,rfl,rfl⟩
theorem lh {s:List UInt8} (h:ec ab s ws=.ok bS):∃w,ws=w::bS/\eg s w:=by
 unfold ec at h
 split at h
 . rename_i q;cases ws with
   | nil=>cases q
   | cons w r=>cases h;simp only [bb,ao7,ap7,apf] at q;exact ⟨w,rfl,q⟩
 . cases h
theorem mj {k:Int} {w:aq} (h:fg ab k ws=.ok (w,bS)):ws=w::bS/\w.kind=k:=by
 cases ws with
 | nil=>cases h
 | cons v r=>
   simp only [fg] at h
   split at h
   . cases h;exact ⟨rfl,by assumption⟩
   . cases h
theorem hi {s:List UInt8} (q:bb s ws=true):∃w r,ws=w::r/\eg s w:=by
 cases ws with
 | nil=>cases q
 | cons w r=>simp only [bb,ao7,ap7,apf] at q;exact ⟨w,r,rfl,q⟩
theorem Ps {l:List aN} (h:js ab l ws=.ok ()):l.length≠64:=by
 unfold js at h
 split at h
 . cases h
 . assumption
theorem D2 {d:Nat} {r:bH (aN × List aq)} {y:aN × List aq} (h:jb ab d ws r=.ok y):r=.ok y:=by
 unfold jb at h
 split at h
 . cases h
 . exact h
theorem aiA {s:List UInt8} (h:nQ ws=some s):bb s ws=true/\s ∈ [gQ,q5,q4]:=by
 unfold nQ at h
 repeat' split at h
 all_goals (cases h;try exact ⟨by assumption,by simp⟩)
theorem aiE {s:List UInt8} (h:nR ws=some s):bb s ws=true/\s ∈ [r4,hN]:=by
 unfold nR at h
 repeat' split at h
 all_goals (cases h;try exact ⟨by assumption,by simp⟩)
theorem aiH {s:List UInt8} (h:nS ws=some s):bb s ws=true/\s ∈ [kW,q6,qL]:=by
 unfold nS at h
 repeat' split at h
 all_goals (cases h;try exact ⟨by assumption,by simp⟩)
end
theorem TH {ab:Nat}:∀(n:Nat) {d:Nat} {l eD:List aN} {ws bS:List aq},(aU ab n).iX d l ws=.ok (eD,bS)->∃t,eD=l++t
 | 0,_,_,_,_,_,h=>by cases h
 | n+1,d,l,eD,ws,bS,h=>by
   replace h:nv ab (aU ab n) d l ws=_:=h;unfold nv at h
   split at h
   . replace h:=du h;obtain ⟨_,_,h⟩:=h;replace h:=du h;obtain ⟨⟨a,ba⟩,_,h⟩:=h;obtain ⟨t,e⟩:=TH n h;exact ⟨a::t,by rw [e];simp⟩
   . cases h;exact ⟨[],by simp⟩
theorem RM:∀(a:aN) (ws:List aq),bD .names [a] ws [(jT a ws).1] (jT a ws).2
 | a,[]=>.RL
 | a,w::ws=>by
   simp only [jT]
   split
   . rename_i h;exact .ahz h (RM _ ws)
   . exact .RL
structure Uy (T:qs):Prop where
 ty:∀{d ws p bS},T.ty d ws=.ok (p,bS)->bD .ty [] ws [p] bS
 hx:∀{d ws p bS},T.hx d ws=.ok (p,bS)->bD .hx [] ws [p] bS
 named:∀{d ws p bS},T.named d ws=.ok (p,bS)->bD .named [] ws [p] bS
 jk:∀{d ws p bS},T.jk d ws=.ok (p,bS)->bD .jk [] ws [p] bS
 iX:∀{d l ws p bS},T.iX d l ws=.ok (p,bS)->bD .iX l ws p bS
 pat:∀{d ws p bS},T.pat d ws=.ok (p,bS)->bD .pat [] ws [p] bS
 iU:∀{d ws p bS},T.iU d ws=.ok (p,bS)->bD .iU [] ws [p] bS
 gP:∀{d ws p bS},T.gP d ws=.ok (p,bS)->bD .gP [] ws [p] bS
 seq:∀{d ws p bS},T.seq d ws=.ok (p,bS)->bD .seq [] ws [p] bS
 cases:∀{d l ws p bS},T.cases d l ws=.ok (p,bS)->bD .cases l ws p bS
 fn:∀{d a ws p bS},T.fn d a ws=.ok (p,bS)->bD (.fn a) [] ws [p] bS
 one:∀{d ws p bS},T.one d ws=.ok (p,bS)->bD .one [] ws [p] bS
 hq:∀{d k a ws p bS},T.hq d k a ws=.ok (p,bS)->bD (.hq k a) [] ws [p] bS
 lt:∀{d a ws p bS},T.lt d a ws=.ok (p,bS)->bD (.lt a) [] ws [p] bS
 binds:∀{d l ws p bS},T.binds d l ws=.ok (p,bS)->bD .binds l ws p bS
 pair:∀{d ws p bS},T.pair d ws=.ok (p,bS)->bD .pair [] ws [p] bS
 ja:∀{d ws p bS},T.ja d ws=.ok (p,bS)->bD .ja [] ws [p] bS
 hF:∀{d ws p bS},T.hF d ws=.ok (p,bS)->bD .hF [] ws [p] bS
 hG:∀{d ws p bS},T.hG d ws=.ok (p,bS)->bD .hG [] ws [p] bS
 lL:∀{d a ws p bS},T.lL d a ws=.ok (p,bS)->bD .lL [a] ws [p] bS
 lM:∀{d a ws p bS},T.lM d a ws=.ok (p,bS)->bD .lM [a] ws [p] bS
 pre:∀{d ws p bS},T.pre d ws=.ok (p,bS)->bD .pre [] ws [p] bS
 app:∀{d ws p bS},T.app d ws=.ok (p,bS)->bD .app [] ws [p] bS
 args:∀{d a ws p bS},T.args d a ws=.ok (p,bS)->bD .args [a] ws [p] bS
 atom:∀{d ws p bS},T.atom d ws=.ok (p,bS)->bD .atom [] ws [p] bS
theorem H8 (ab:Nat):∀n,Uy (aU ab n)
 | 0=>by constructor<;>(intros;rename_i h;cases h)
 | n+1=>by
   have I:=H8 ab n;constructor
   case ty=>
    intro d ws p bS h;replace h:=du (D2 h);obtain ⟨⟨a,ba⟩,ae,h⟩:=h
    try dsimp only at h
    split at h
    . rename_i al;replace al:=hi al;obtain ⟨w,r,rfl,al⟩:=al;replace h:=du h;obtain ⟨⟨b,bt⟩,ag,h⟩:=h;cases h;exact .amc (I.hx ae) al (I.ty ag)
    . cases h;exact .amb (I.hx ae)
   case hx=>
    intro d ws p bS h;replace h:=du h;obtain ⟨⟨a,ba⟩,ae,h⟩:=h
    try dsimp only at h
    split at h
    . rename_i al;replace al:=hi al;obtain ⟨w,r,rfl,al⟩:=al;replace h:=du h;obtain ⟨⟨b,bt⟩,ag,h⟩:=h;cases h;exact .ajk (I.named ae) al (I.hx ag)
    . cases h;exact .ajj (I.named ae)
   case named=>
    intro d ws p bS h;replace h:=du h;obtain ⟨⟨a,ba⟩,ae,h⟩:=h;have af:=RM a ba
    try dsimp only at h
    cases aF:jT a ba with
    | mk x y=>
      rw [aF] at h af;cases h;exact .named (I.jk ae) af
   case jk=>
    intro d ws p bS h;replace h:qc ab (aU ab n) d ws=_:=h;unfold qc at h
    split at h
    . replace h:=po h;obtain ⟨⟨w,r⟩,ae,h⟩:=h;have aL:=mj ae;obtain ⟨rfl,aD⟩:=aL;cases h;exact .amj aD
    split at h
    . replace h:=po h;obtain ⟨⟨w,r⟩,ae,h⟩:=h;have aL:=mj ae;obtain ⟨rfl,aD⟩:=aL;cases h;exact .amh aD
    try dsimp only at h
    replace h:=du h;obtain ⟨ba,ae,h⟩:=h;have aL:=lh ae;obtain ⟨w,rfl,al⟩:=aL;replace h:=du h;obtain ⟨⟨a,bt⟩,ag,h⟩:=h;replace h:=du h;obtain ⟨⟨l,db⟩,ar,h⟩:=h;replace h:=du h;obtain ⟨dj,aT,h⟩:=h;have aL:=lh aT;obtain ⟨c,e,ax⟩:=aL
    try dsimp only at e
    try dsimp only at h
    subst e
    split at h
    . cases h;obtain ⟨t,rfl⟩:=TH n ar;have e:t=[]:=by rename_i q;simpa using q
      subst e;exact .ami al (I.ty ag) (I.iX ar) ax
    . replace h:=du h;obtain ⟨⟨v,fs⟩,bC,h⟩:=h;have aL:=mj bC;obtain ⟨rfl,aD⟩:=aL;cases h;exact .amg al (I.ty ag) (I.iX ar) ax aD
   case iX=>
    intro d l ws p bS h;replace h:nv ab (aU ab n) d l ws=_:=h;unfold nv at h
    split at h
    . rename_i al;replace al:=hi al;obtain ⟨w,r,rfl,al⟩:=al;replace h:=du h;obtain ⟨_,ae,h⟩:=h;replace h:=du h;obtain ⟨⟨a,ba⟩,ag,h⟩:=h;exact .amo al (Ps ae) (I.ty ag) (I.iX h)
    . cases h;exact .amn
   case pat=>
    intro d ws p bS h;replace h:=du (D2 h);obtain ⟨⟨a,ba⟩,ae,h⟩:=h
    try dsimp only at h
    split at h
    . rename_i al;replace al:=hi al;obtain ⟨w,r,rfl,al⟩:=al;replace h:=du h;obtain ⟨⟨b,bt⟩,ag,h⟩:=h;cases h;exact .aje (I.iU ae) al (I.pat ag)
    . cases h;exact .ajd (I.iU ae)
   case iU=>
    intro d ws p bS h;replace h:ox ab (aU ab n) d ws=_:=h;unfold ox at h
    split at h
    . replace h:=du h;obtain ⟨⟨w,r⟩,ae,h⟩:=h;have aL:=mj ae;obtain ⟨rfl,aD⟩:=aL
      try dsimp only at h
      split at h
      . replace h:=du h;obtain ⟨⟨b,bt⟩,ag,h⟩:=h;cases h;exact .ajV aD (I.gP ag)
      . cases h;exact .ajU aD
    . exact .ajY (I.gP h)
   case gP=>
    intro d ws p bS h;replace h:p_ ab (aU ab n) d ws=_:=h;unfold p_ at h
    try dsimp only at h
    split at h
    . rename_i al;replace al:=hi al;obtain ⟨w,r,rfl,al⟩:=al;cases h;exact .ajs al
    split at h
    . replace h:=po h;obtain ⟨⟨w,r⟩,ae,h⟩:=h;have aL:=mj ae;obtain ⟨rfl,aD⟩:=aL;cases h;exact .ako aD
    split at h
    . replace h:=po h;obtain ⟨⟨w,r⟩,ae,h⟩:=h;have aL:=mj ae;obtain ⟨rfl,aD⟩:=aL;cases h;exact .ajZ aD
    split at h
    . replace h:=po h;obtain ⟨⟨w,r⟩,ae,h⟩:=h;have aL:=mj ae;obtain ⟨rfl,aD⟩:=aL;cases h;exact .aj7 aD
    split at h
    . rename_i al;replace al:=hi al;obtain ⟨w,r,rfl,al⟩:=al;replace h:=po h;obtain ⟨⟨v,r⟩,ae,h⟩:=h;have aL:=mj ae;obtain ⟨e,aD⟩:=aL
      try dsimp only [List.tail] at e
      subst e;cases h;exact .aj6 al aD
    split at h
    . rename_i al;replace al:=hi al;obtain ⟨w,r,rfl,al⟩:=al;cases h;exact .akh al
    split at h
    . rename_i al;replace al:=hi al;obtain ⟨w,r,rfl,al⟩:=al;cases h;exact .aj1 al
    replace h:=du h;obtain ⟨ba,ae,h⟩:=h;have aL:=lh ae;obtain ⟨w,rfl,al⟩:=aL
    split at h
    . rename_i ax;replace ax:=hi ax;obtain ⟨c,r,rfl,ax⟩:=ax;cases h;exact .punit al ax
    . replace h:=du h;obtain ⟨⟨b,bt⟩,ag,h⟩:=h;replace h:=du h;obtain ⟨db,ar,h⟩:=h;have aL:=lh ar;obtain ⟨c,e,ax⟩:=aL
      try dsimp only at e
      subst e;cases h;exact .aj9 al (I.pat ag) ax
   case seq=>
    intro d ws p bS h;replace h:=du (D2 h);obtain ⟨⟨a,ba⟩,ae,h⟩:=h
    try dsimp only at h
    split at h
    . rename_i al;replace al:=hi al;obtain ⟨w,r,rfl,al⟩:=al;replace h:=du h;obtain ⟨⟨b,bt⟩,ag,h⟩:=h;cases h;exact .ak_ (I.one ae) al (I.seq ag)
    . cases h;exact .seq1 (I.one ae)
   case cases=>
    intro d l ws p bS h;replace h:=du h;obtain ⟨⟨a,ba⟩,ae,h⟩:=h;replace h:=du h;obtain ⟨bt,ag,h⟩:=h;have aL:=lh ag;obtain ⟨w,e,hw⟩:=aL
    try dsimp only at e
    subst e;replace h:=du h;obtain ⟨⟨b,db⟩,ar,h⟩:=h
    try dsimp only at h
    split at h
    . rename_i al;replace al:=hi al;obtain ⟨v,r,rfl,al⟩:=al;exact .Y7 (I.pat ae) hw (I.seq ar) al (I.cases h)
    . cases h;exact .Y6 (I.pat ae) hw (I.seq ar)
   case fn=>
    intro d a0 ws p bS h;replace h:=du h;obtain ⟨⟨a,ba⟩,ae,h⟩:=h;replace h:=du h;obtain ⟨bt,ag,h⟩:=h;have aL:=lh ag;obtain ⟨w,e,hw⟩:=aL
    try dsimp only at e
    subst e;replace h:=du h;obtain ⟨⟨b,db⟩,ar,h⟩:=h;cases h;exact .fn (I.pat ae) hw (I.seq ar)
   case one=>
    intro d ws p bS h;replace h:uq ab (aU ab n) d ws=_:=h;unfold uq at h
    try dsimp only at h
    split at h
    . rename_i al;replace al:=hi al;obtain ⟨w,r,rfl,al⟩:=al;exact .ah_ al (I.lt h)
    split at h
    . rename_i al;replace al:=hi al;obtain ⟨w,r,rfl,al⟩:=al;exact .ah9 al (I.fn h)
    split at h
    . rename_i al;replace al:=hi al;obtain ⟨w,r,rfl,al⟩:=al;replace h:=du h;obtain ⟨⟨a,ba⟩,ae,h⟩:=h;replace h:=du h;obtain ⟨bt,ag,h⟩:=h;have aL:=lh ag;obtain ⟨t,e,az⟩:=aL
      try dsimp only at e
      subst e;replace h:=du h;obtain ⟨⟨b,db⟩,ar,h⟩:=h;replace h:=du h;obtain ⟨dj,aT,h⟩:=h;have aL:=lh aT;obtain ⟨l,e,aH⟩:=aL
      try dsimp only at e
      subst e;replace h:=du h;obtain ⟨⟨c,fs⟩,bC,h⟩:=h;cases h;exact .ah' al (I.seq ae) az (I.one ar) aH (I.one bC)
    split at h
    . rename_i al;replace al:=hi al;obtain ⟨w,r,rfl,al⟩:=al;exact .aia al (I.hq h)
    split at h
    . rename_i al;replace al:=hi al;obtain ⟨w,r,rfl,al⟩:=al;exact .aiX al (I.hq h)
    replace h:=du h;obtain ⟨⟨a,ba⟩,ae,h⟩:=h
    try dsimp only at h
    split at h
    . rename_i al;replace al:=hi al;obtain ⟨w,r,rfl,al⟩:=al;replace h:=du h;obtain ⟨⟨b,bt⟩,ag,h⟩:=h;cases h;exact .oset (I.pair ae) al (I.one ag)
    . cases h;exact .aiJ (I.pair ae)
   case hq=>
    intro d k a0 ws p bS h;replace h:=du h;obtain ⟨⟨a,ba⟩,ae,h⟩:=h;replace h:=du h;obtain ⟨bt,ag,h⟩:=h;have aL:=lh ag;obtain ⟨w,e,hw⟩:=aL
    try dsimp only at e
    subst e;replace h:=du h;obtain ⟨⟨l,db⟩,ar,h⟩:=h;cases h
    split at ar
    . rename_i al;replace al:=hi al;obtain ⟨v,r,rfl,al⟩:=al;exact .fC (I.seq ae) hw al (I.cases ar)
    . exact .Zp (I.seq ae) hw (I.cases ar)
   case lt=>
    intro d a0 ws p bS h;replace h:ug ab (aU ab n) d a0 ws=_:=h;unfold ug at h
    split at h
    . rename_i al;replace al:=hi al;obtain ⟨w,r,rfl,al⟩:=al;replace h:=du h;obtain ⟨⟨l,ba⟩,ae,h⟩:=h;replace h:=du h;obtain ⟨bt,ag,h⟩:=h;have aL:=lh ag;obtain ⟨t,e,az⟩:=aL
      try dsimp only at e
      subst e;replace h:=du h;obtain ⟨⟨b,db⟩,ar,h⟩:=h;cases h;exact .d' al (I.binds ae) az (I.seq ar)
    . replace h:=du h;obtain ⟨⟨a,ba⟩,ae,h⟩:=h;replace h:=du h;obtain ⟨bt,ag,h⟩:=h;have aL:=lh ag;obtain ⟨t,e,az⟩:=aL
      try dsimp only at e
      subst e;replace h:=du h;obtain ⟨⟨b,db⟩,ar,h⟩:=h;replace h:=du h;obtain ⟨dj,aT,h⟩:=h;have aL:=lh aT;obtain ⟨l,e,aH⟩:=aL
      try dsimp only at e
      subst e;replace h:=du h;obtain ⟨⟨c,fs⟩,bC,h⟩:=h;cases h;exact .ahc (I.pat ae) az (I.seq ar) aH (I.seq bC)
   case binds=>
    intro d l ws p bS h;replace h:=du h;obtain ⟨⟨w,ba⟩,ae,h⟩:=h;have aL:=mj ae;obtain ⟨rfl,aD⟩:=aL;replace h:=du h;obtain ⟨bt,ag,h⟩:=h;have aL:=lh ag;obtain ⟨e,aP,he⟩:=aL
    try dsimp only at aP
    subst aP;replace h:=du h;obtain ⟨db,ar,h⟩:=h;have aL:=lh ar;obtain ⟨f,aP,aE⟩:=aL;subst aP;replace h:=du h;obtain ⟨⟨b,dj⟩,aT,h⟩:=h
    try dsimp only at h
    split at h
    . rename_i al;replace al:=hi al;obtain ⟨v,r,rfl,al⟩:=al;exact .Wz aD he aE (I.fn aT) al (I.binds h)
    . cases h;exact .Wy aD he aE (I.fn aT)
   case pair=>
    intro d ws p bS h;replace h:=du h;obtain ⟨⟨a,ba⟩,ae,h⟩:=h
    try dsimp only at h
    split at h
    . rename_i al;replace al:=hi al;obtain ⟨w,r,rfl,al⟩:=al;replace h:=du h;obtain ⟨⟨b,bt⟩,ag,h⟩:=h;cases h;exact .ajg (I.ja ae) al (I.pair ag)
    . cases h;exact .ajf (I.ja ae)
   case ja=>
    intro d ws p bS h;replace h:=du h;obtain ⟨⟨a,ba⟩,ae,h⟩:=h
    try dsimp only at h
    split at h
    . rename_i s al;replace al:=aiA al;obtain ⟨al,hm⟩:=al;replace al:=hi al;obtain ⟨w,r,rfl,al⟩:=al;replace h:=du h;obtain ⟨⟨b,bt⟩,ag,h⟩:=h;cases h;exact .Zx (I.hF ae) al hm (I.hF ag)
    . cases h;exact .Zw (I.hF ae)
   case hF=>
    intro d ws p bS h;replace h:=du h;obtain ⟨⟨a,ba⟩,ae,h⟩:=h;exact .hF (I.hG ae) (I.lL h)
   case hG=>
    intro d ws p bS h;replace h:=du h;obtain ⟨⟨a,ba⟩,ae,h⟩:=h;exact .hG (I.pre ae) (I.lM h)
   case lL=>
    intro d a ws p bS h;replace h:ur (aU ab n) d a ws=_:=h;unfold ur at h
    split at h
    . rename_i s al;replace al:=aiE al;obtain ⟨al,hm⟩:=al;replace al:=hi al;obtain ⟨w,r,rfl,al⟩:=al;replace h:=du h;obtain ⟨⟨b,bt⟩,ag,h⟩:=h;exact .aiM al hm (I.hG ag) (I.lL h)
    . cases h;exact .aiL
   case lM=>
    intro d a ws p bS h;replace h:uu (aU ab n) d a ws=_:=h;unfold uu at h
    split at h
    . rename_i s al;replace al:=aiH al;obtain ⟨al,hm⟩:=al;replace al:=hi al;obtain ⟨w,r,rfl,al⟩:=al;replace h:=du h;obtain ⟨⟨b,bt⟩,ag,h⟩:=h;exact .aiO al hm (I.pre ag) (I.lM h)
    . cases h;exact .aiN
   case pre=>
    intro d ws p bS h;replace h:=D2 h
    try dsimp only at h
    split at h
    . rename_i al;replace al:=hi al;obtain ⟨w,r,rfl,al⟩:=al;replace h:=po h;obtain ⟨⟨a,ba⟩,ae,h⟩:=h;cases h;exact .neg al (I.pre ae)
    split at h
    . rename_i al;replace al:=hi al;obtain ⟨w,r,rfl,al⟩:=al;replace h:=po h;obtain ⟨⟨a,ba⟩,ae,h⟩:=h;cases h;exact .get al (I.pre ae)
    exact .aj' (I.app h)
   case app=>
    intro d ws p bS h;replace h:sc ab (aU ab n) d ws=_:=h;unfold sc at h
    try dsimp only at h
    split at h
    . rename_i al;replace al:=hi al;obtain ⟨w,r,rfl,al⟩:=al;replace h:=po h;obtain ⟨⟨a,ba⟩,ae,h⟩:=h;cases h;exact .raise al (I.atom ae)
    split at h
    . replace h:=du h;obtain ⟨⟨w,r⟩,ae,h⟩:=h;have aL:=mj ae;obtain ⟨rfl,aD⟩:=aL
      try dsimp only at h
      split at h
      . replace h:=du h;obtain ⟨⟨b,bt⟩,ag,h⟩:=h;cases h;exact .ZB aD (I.atom ag)
      . cases h;exact .ZA aD
    replace h:=du h;obtain ⟨⟨a,ba⟩,ae,h⟩:=h;exact .app (I.atom ae) (I.args h)
   case args=>
    intro d a ws p bS h;replace h:tm (aU ab n) d a ws=_:=h;unfold tm at h
    split at h
    . replace h:=du h;obtain ⟨⟨b,bt⟩,ag,h⟩:=h;exact .V3 (I.atom ag) (I.args h)
    . cases h;exact .V2
   case atom=>
    intro d ws p bS h;replace h:tr ab (aU ab n) d ws=_:=h;unfold tr at h
    try dsimp only at h
    split at h
    . replace h:=po h;obtain ⟨⟨w,r⟩,ae,h⟩:=h;have aL:=mj ae;obtain ⟨rfl,aD⟩:=aL;cases h;exact .VT aD
    split at h
    . replace h:=po h;obtain ⟨⟨w,r⟩,ae,h⟩:=h;have aL:=mj ae;obtain ⟨rfl,aD⟩:=aL;cases h;exact .We aD
    split at h
    . replace h:=po h;obtain ⟨⟨w,r⟩,ae,h⟩:=h;have aL:=mj ae;obtain ⟨rfl,aD⟩:=aL;cases h;exact .Wm aD
    split at h
    . replace h:=po h;obtain ⟨⟨w,r⟩,ae,h⟩:=h;have aL:=mj ae;obtain ⟨rfl,aD⟩:=aL;cases h;exact .Vy aD
    split at h
    . rename_i al;replace al:=hi al;obtain ⟨w,r,rfl,al⟩:=al;cases h;exact .Wk al
    split at h
    . rename_i al;replace al:=hi al;obtain ⟨w,r,rfl,al⟩:=al;cases h;exact .VQ al
    split at h
    . rename_i al;replace al:=hi al;obtain ⟨w,r,rfl,al⟩:=al;replace h:=du h;obtain ⟨⟨a,ba⟩,ae,h⟩:=h;replace h:=du h;obtain ⟨bt,ag,h⟩:=h;have aL:=lh ag;obtain ⟨t,e,az⟩:=aL
      try dsimp only at e
      subst e;cases h;exact .Vw al (I.seq ae) az
    replace h:=du h;obtain ⟨ba,ae,h⟩:=h;have aL:=lh ae;obtain ⟨w,rfl,al⟩:=aL
    split at h
    . rename_i ax;replace ax:=hi ax;obtain ⟨c,r,rfl,ax⟩:=ax;cases h;exact .Wl al ax
    . replace h:=du h;obtain ⟨⟨b,bt⟩,ag,h⟩:=h;replace h:=du h;obtain ⟨db,ar,h⟩:=h;have aL:=lh ar;obtain ⟨c,e,ax⟩:=aL
      try dsimp only at e
      subst e;cases h;exact .VU al (I.seq ag) ax
section
variable {ab n:Nat} {ws bS:List aq} {p:aN} {l eD:List aN}
theorem HB {k:Int} (h:ko ab (aU ab n) k ws=.ok (p,bS)):bD (.ctor k) [] ws [p] bS:=by
 have I:=H8 ab n;unfold ko at h;replace h:=du h;obtain ⟨⟨w,ba⟩,ae,h⟩:=h;have aL:=mj ae;obtain ⟨rfl,aD⟩:=aL
 try dsimp only at h
 split at h
 . rename_i al;replace al:=hi al;obtain ⟨v,r,rfl,al⟩:=al;replace h:=du h;obtain ⟨⟨b,bt⟩,ag,h⟩:=h;cases h;exact .ZW aD al (I.ty ag)
 . cases h;exact .ZV aD
theorem Sj:∀(m:Nat) {l eD:List aN} {ws bS:List aq},kS ab m l ws=.ok (eD,bS)->bD .kS l ws eD bS
 | 0,_,_,_,_,h=>by cases h
 | m+1,l,eD,ws,bS,h=>by
   simp only [kS] at h
   split at h
   . rename_i al;replace al:=hi al;obtain ⟨v,r,rfl,al⟩:=al;replace h:=du h;obtain ⟨_,ae,h⟩:=h;replace h:=du h;obtain ⟨⟨w,ba⟩,ag,h⟩:=h;have aL:=mj ag;obtain ⟨e,aD⟩:=aL
     try dsimp only [List.tail] at e
     subst e;exact .ajA al (Ps ae) aD (Sj m h)
   . cases h;exact .ajz
theorem ajx {m:Nat} (h:pv ab m ws=.ok (l,bS)):bD .params [] ws l bS:=by
 unfold pv at h
 split at h
 . replace h:=po h;obtain ⟨⟨w,r⟩,ae,h⟩:=h;have aL:=mj ae;obtain ⟨rfl,aD⟩:=aL;cases h;exact .aju aD
 split at h
 . rename_i al;replace al:=hi al;obtain ⟨v,r,rfl,al⟩:=al;replace h:=du h;obtain ⟨⟨w,ba⟩,ae,h⟩:=h;have aL:=mj ae;obtain ⟨e,aD⟩:=aL
   try dsimp only [List.tail] at e
   subst e;replace h:=du h;obtain ⟨⟨iR,bt⟩,ag,h⟩:=h;replace h:=du h;obtain ⟨db,ar,h⟩:=h;have aL:=lh ar;obtain ⟨c,e,ax⟩:=aL
   try dsimp only at e
   subst e;cases h;exact .ajB al aD (Sj m ag) ax
 . cases h;exact .ajt
theorem OO:∀(m:Nat) {l eD:List aN} {ws bS:List aq},oY ab (aU ab n) m l ws=.ok (eD,bS)->bD .ctors l ws eD bS
 | 0,_,_,_,_,h=>by cases h
 | m+1,l,eD,ws,bS,h=>by
   simp only [oY] at h
   split at h
   . rename_i al;replace al:=hi al;obtain ⟨v,r,rfl,al⟩:=al;replace h:=du h;obtain ⟨⟨c,ba⟩,ag,h⟩:=h;exact .ZZ al (HB ag) (OO m h)
   . cases h;exact .ZY
theorem HD {m:Nat} (h:kK ab (aU ab n) m ws=.ok (p,bS)):bD .decl [] ws [p] bS:=by
 have I:=H8 ab n;unfold kK at h
 try dsimp only at h
 split at h
 . rename_i al;replace al:=hi al;obtain ⟨w,r,rfl,al⟩:=al;replace h:=du h;obtain ⟨⟨l,ba⟩,ae,h⟩:=h;replace h:=du h;obtain ⟨⟨v,bt⟩,ag,h⟩:=h;have aL:=mj ag;obtain ⟨e,aD⟩:=aL
   try dsimp only at e
   subst e;replace h:=du h;obtain ⟨db,ar,h⟩:=h;have aL:=lh ar;obtain ⟨c,e,ax⟩:=aL
   try dsimp only at e
   subst e;replace h:=du h;obtain ⟨⟨t,dj⟩,aT,h⟩:=h;replace h:=du h;obtain ⟨⟨q,fs⟩,bC,h⟩:=h;cases h;exact .aaH al (ajx ae) aD ax (HB aT) (OO m bC)
 split at h
 . rename_i al;replace al:=hi al;obtain ⟨w,r,rfl,al⟩:=al;replace h:=du h;obtain ⟨⟨t,dj⟩,aT,h⟩:=h;cases h;exact .OZ al (HB aT)
 replace h:=du h;obtain ⟨ba,ae,h⟩:=h;have aL:=lh ae;obtain ⟨w,rfl,al⟩:=aL
 split at h
 . rename_i eP;replace eP:=hi eP;obtain ⟨v,r,rfl,eP⟩:=eP;replace h:=du h;obtain ⟨⟨l,bt⟩,ag,h⟩:=h;cases h;exact .aaE al eP (I.binds ag)
 . replace h:=du h;obtain ⟨⟨a,bt⟩,ag,h⟩:=h;replace h:=du h;obtain ⟨db,ar,h⟩:=h;have aL:=lh ar;obtain ⟨c,e,ax⟩:=aL
   try dsimp only at e
   subst e;replace h:=du h;obtain ⟨⟨b,dj⟩,aT,h⟩:=h;cases h;exact .aav al (I.pat ag) ax (I.seq aT)
end
theorem H9 {aK:L6} {acc l:List aN} {ws bS:List aq} (h:bD aK acc ws l bS):h8 l+l.length+2 * bS.length<=2 * ws.length+h8 acc+acc.length:=by
 have app:∀a b:List aN,h8 (a++b)=h8 a+h8 b:=fun a b=>by
  induction a with
  | nil=>simp [h8]
  | cons x a b6=>rw [apm,h8,h8,b6];omega
 have ak':∀t:aN,t.size=h8 t.l+1:=fun t=>by cases t;simp only [aN.size,aN.l];omega
 induction h
 case OZ ws ba c w aD ax b6=>
  have:=ak' c;simp only [h8,aN.size,ao9,aph] at *;omega
 all_goals (simp only [h8,aN.size,two,p8,h9,app,apb,ao9,aph] at *;omega)
def mo (w:aq):Prop:=∃r n,gg r=.ok (w.kind,w.num,w.text,n)/\n<=r.length
theorem ahT {r:List UInt8} {q:Int × Int × List UInt8 × Nat} (h:qW r=.ok q):q.1=1/\(-1073741824<=q.2.1/\q.2.1<=1073741823)/\q.2.2.1=[]/\q.2.2.2<=r.length:=by
 unfold qW at h;simp only at h
 split at h
 . cases h
 . cases h;refine ⟨rfl,?_,rfl,(List.takeWhile_prefix _).length_le⟩;simp only
   split<;>omega
theorem Lf:∀(f:Nat) {r:List UInt8} {q:List UInt8 × Nat},r8 f r=some q->q.2<=r.length
 | 0,_,_,h=>by cases h
 | f+1,[],_,h=>by cases h
 | f+1,c::r,q,h=>by
   simp only [r8] at h
   split at h
   . cases h;simp
   split at h
   . split at h
     . cases h
     . rename_i b n he;cases az:r8 f (r.drop n) with
       | none=>rw [az] at h;cases h
       | some gi=>
         rw [az] at h;have:=Lf f az;cases h;rw [apr] at this;have aF:n<=r.length:=by
          unfold kL at he
          split at he
          . cases he
          . rename_i eX bq
            repeat' split at he
            all_goals (cases he;try simp only [ao9];try omega)
         simp only [ao9];omega
   split at h
   . cases h
   . cases az:r8 f r with
     | none=>rw [az] at h;cases h
     | some gi=>
       rw [az] at h;have:=Lf f az;cases h;simp only [ao9];omega
theorem alM {r:List UInt8} {q:Int × Int × List UInt8 × Nat} (h:mP r=.ok q):q.1=2/\q.2.1=0/\q.2.2.1.length<=4096/\q.2.2.2<=r.length+1:=by
 unfold mP at h
 split at h
 . cases h
 . rename_i b n ai
   split at h
   . cases h
   . cases h;exact ⟨rfl,rfl,by simp only;omega,by have:=Lf _ ai;simp only;omega⟩
theorem afL {t:List UInt8} (h:nk t=true):t.length<=9:=by
 unfold nk at h;have:∀t ∈ nn,t.length<=9:=by decide
 exact this t (by simpa using h)
theorem JS {k:Int} {r:List UInt8} {q:Int × Int × List UInt8 × Nat} (h:jx k r=.ok q):(q.1=7\/q.1=6\/q.1=k)/\q.2.1=0/\q.2.2.1.length<=64/\q.2.2.2<=r.length:=by
 unfold jx at h;simp only at h;have aH:=(List.takeWhile_prefix d' (l:=r)).length_le
 split at h
 . rename_i q;cases h;exact ⟨.inl rfl,rfl,by simp only [q.2];simp,aH⟩
 split at h
 . rename_i q;cases h;exact ⟨.inr (.inl rfl),rfl,by have:=afL q.2;simp only;omega,aH⟩
 split at h
 . cases h
 . cases h;exact ⟨.inr (.inr rfl),rfl,by simp only;omega,aH⟩
theorem alm {r:List UInt8} {q:Int × Int × List UInt8 × Nat} (h:pA r=.ok q):q.1=7/\q.2.1=0/\q.2.2.1.length<=2/\q.2.2.2<=r.length:=by
 unfold pA at h
 split at h
 . rename_i t az;cases h;have ae:=List.mem_of_find?_eq_some az;have ag:=List.find?_some az;have:∀t ∈ gG,t.length<=2:=by decide
   exact ⟨rfl,rfl,this t ae,(apN.1 ag).length_le⟩
 . cases h
theorem RP {r:List UInt8} {q:Int × Int × List UInt8 × Nat} (h:gg r=.ok q):(1<=q.1/\q.1<=7)/\(q.1=1->-1073741824<=q.2.1/\q.2.1<=1073741823)/\q.2.2.1.length<=4096/\q.2.2.2<=r.length:=by
 match r,h with
 | c::r,h=>
   simp only [gg] at h
   split at h
   . obtain ⟨a,b,c,d⟩:=ahT h;exact ⟨by omega,fun _=>b,by rw [c];simp,d⟩
   split at h
   . obtain ⟨a,b,c,d⟩:=alM h;exact ⟨by omega,fun z=>by omega,c,d⟩
   split at h
   . obtain ⟨a,b,c,d⟩:=JS h;exact ⟨by omega,fun z=>by omega,by omega,d⟩
   split at h
   . obtain ⟨a,b,c,d⟩:=JS h;exact ⟨by omega,fun z=>by omega,by omega,d⟩
   split at h
   . cases aF:jx 5 r with
     | error e=>rw [aF] at h;cases h
     | ok gi=>rw [aF] at h;cases h;obtain ⟨a,b,c,d⟩:=JS aF;exact ⟨by simp only;omega,fun z=>by simp only at z;omega,by simp only;omega,by simp only [ao9];omega⟩
   . obtain ⟨a,b,c,d⟩:=alm h;exact ⟨by omega,fun z=>by omega,by omega,d⟩
theorem ahJ {c:UInt8} {r:List UInt8} {e:Int} (h:gg (c::r)=.error e):1<=e:=by
 simp only [gg] at h
 split at h
 . unfold qW at h;simp only at h;split at h<;>cases h;decide
 split at h
 . unfold mP at h
   split at h
   . cases h;decide
   . split at h<;>cases h;decide
 have vI:∀{k r},jx k r=.error e->1<=e:=fun {k r} h=>by
  unfold jx at h;simp only at h
  split at h
  . cases h
  split at h
  . cases h
  split at h<;>cases h;decide
 split at h
 . exact vI h
 split at h
 . exact vI h
 split at h
 . cases aF:jx 5 r with
   | error fk=>rw [aF] at h;cases h;exact vI aF
   | ok gi=>rw [aF] at h;cases h
 . unfold pA at h
   split at h<;>cases h;decide
theorem ZF {w:aq} {r:Except (Int × Nat) (List aq)} {ws:List aq} (h:oX w r=.ok ws):∃v,r=.ok v/\ws=w::v:=by
 cases r with
 | error e=>cases h
 | ok v=>cases h;exact ⟨v,rfl,rfl⟩
theorem Fi:∀{r:List UInt8} {d:Int} {n:Nat},ht r d=some n->n<=r.length
 | [],d,n,h=>by simp [ht] at h
 | [_],d,n,h=>by simp [ht] at h
 | x::y::r,d,n,h=>by
   rw [ht] at h
   split at h
   . cases aI:ht r (d+1) with
     | none=>rw [aI] at h;cases h
     | some m=>rw [aI] at h;have:=Fi aI;cases h;simp only [ao9];omega
   . split at h
     . split at h
       . cases h;simp
       . cases aI:ht r (d-1) with
         | none=>rw [aI] at h;cases h
         | some m=>rw [aI] at h;have:=Fi aI;cases h;simp only [ao9];omega
     . cases aI:ht (y::r) d with
       | none=>rw [aI] at h;cases h
       | some m=>rw [aI] at h;have:=Fi aI;cases h;simp only [ao9] at *;omega
theorem E7:∀(f:Nat) (r:List UInt8) (p:Nat) {ws:List aq},gd f r p=.ok ws->ws.length<=r.length/\(∀w ∈ ws,p<=w.pos/\w.pos<p+r.length/\mo w)/\ws.Pairwise fun a b=>a.pos<b.pos
 | 0,r,p,ws,h=>by cases h;simp
 | f+1,[],p,ws,h=>by cases h;simp
 | f+1,c::r,p,ws,h=>by
   simp only [gd] at h
   split at h
   . obtain ⟨a,b,d⟩:=E7 f _ _ h;exact ⟨by simp only [ao9];omega,fun w hw=>by obtain ⟨bW,df,ic⟩:=b w hw;exact ⟨by omega,by simp only [ao9];omega,ic⟩,d⟩
   split at h
   . split at h
     . cases h
     . rename_i n aF;have ae:=Fi aF;obtain ⟨a,b,d⟩:=E7 f _ _ h;rw [apr] at a b;exact ⟨by omega,fun w hw=>by obtain ⟨bW,df,ic⟩:=b w hw;exact ⟨by omega,by omega,ic⟩,d⟩
   . split at h
     . cases h
     . rename_i q aI;have ae:=CJ aI;have ag:=(RP aI).2.2.2;obtain ⟨v,b0,rfl⟩:=ZF h;obtain ⟨a,b,d⟩:=E7 f _ _ b0;rw [apr] at a b;refine ⟨by simp only [ao9] at *;omega,?_,?_⟩
       . intro w hw;rcases apy.1 hw with rfl | hw
         . exact ⟨ao1 _,by simp,⟨c::r,q.2.2.2,aI,ag⟩⟩
         . obtain ⟨bW,df,ic⟩:=b w hw;exact ⟨by omega,by omega,ic⟩
       . exact List.Pairwise.cons (fun w hw=>by obtain ⟨bW,_⟩:=b w hw;simp only;omega) d
theorem E6:∀(f:Nat) (r:List UInt8) (p:Nat) {e:Int × Nat},gd f r p=.error e->1<=e.1
 | 0,r,p,e,h=>by cases h
 | f+1,[],p,e,h=>by cases h
 | f+1,c::r,p,e,h=>by
   simp only [gd] at h
   split at h
   . exact E6 f _ _ h
   split at h
   . split at h
     . cases h;exact (by decide:(1:Int)<=253)
     . exact E6 f _ _ h
   . split at h
     . rename_i fk he;cases h;exact ahJ he
     . cases aH:gd f ((c::r).drop _) _ with
       | ok v=>rw [aH] at h;cases h
       | error fk=>rw [aH] at h;cases h;exact E6 f _ _ aH
theorem Rr {s:List UInt8} {ws:List aq} (h:iS s=.ok ws):s.length<=65536/\ws.length<=s.length/\(∀w ∈ ws,w.pos<s.length/\mo w)/\ws.Pairwise fun a b=>a.pos<b.pos:=by
 unfold iS at h
 split at h
 . cases h
 split at h
 . cases h
 . obtain ⟨a,b,c⟩:=E7 _ _ _ h;exact ⟨by omega,a,fun w hw=>by obtain ⟨bW,df,ic⟩:=b w hw;exact ⟨by omega,ic⟩,c⟩
theorem JE {s:List UInt8} {e:Int × Nat} (h:iS s=.error e):1<=e.1:=by
 unfold iS at h
 split at h
 . cases h;exact (by decide:(1:Int)<=3)
 split at h
 . cases h;exact (by decide:(1:Int)<=250)
 . exact E6 _ _ _ h
theorem FI {w:aq} (h:mo w):(1<=w.kind/\w.kind<=7)/\(w.kind=1->-1073741824<=w.num/\w.num<=1073741823)/\w.text.length<=4096:=by obtain ⟨r,n,h,_⟩:=h;obtain ⟨a,b,c,_⟩:=RP h;exact ⟨a,b,c⟩
theorem Sk (s:List UInt8):lo s≠.error b7:=ajE s fun e h q=>by have:=JE h;rw [q] at this;revert this;decide
theorem OS {ws bS:List aq} {p:aN} (h:bD .decl [] ws [p] bS):∃w r,ws=w::r/\p.a=w.pos:=by cases h<;>exact ⟨_,_,rfl,rfl⟩
theorem OT {ws bS:List aq} {p:aN} (h:bD .decl [] ws [p] bS):p.size<=2 * ws.length:=by have:=H9 h;simp only [h8,aph,ao9] at this;omega
def eU (p:Nat) (t:List UInt8):aq:=⟨7,0,p,t⟩
def me:Nat->Nat->List aq
 | 0,_=>[]
 | m+1,p=>eU p e9::me m (p+1)
def kn:Nat->Nat->List aq
 | 0,_=>[]
 | m+1,p=>eU p ej::kn m (p+1)
theorem pz (s t:List UInt8) (p:Nat) (ws:List aq):bb s (eU p t::ws)=decide (t=s):=by unfold bb eU;simp only [aqn,Bool.true_or,aqk]
theorem zG (k:Int) (t:List UInt8) (p:Nat) (ws:List aq):cJ k (eU p t::ws)=decide (7=k):=rfl
theorem Hw:∀(m q:Nat),kn (m+1) q=kn m q++[eU (q+m) ej]
 | 0,q=>by simp [kn]
 | m+1,q=>by rw [kn,Hw m (q+1)];simp only [kn,apm];rw [show q+1+m=q + (m+1) from by omega]
def ap (l:List aq):Except (Int × Nat) (List aq)->Except (Int × Nat) (List aq)
 | .ok ws=>.ok (l++ws)
 | .error e=>.error e
theorem Mn (w:aq) (l:List aq) (r:Except (Int × Nat) (List aq)):oX w (ap l r)=ap (w::l) r:=by cases r<;>rfl
theorem Rs {f p:Nat} {c:UInt8} {r:List UInt8} (ax:c≠42):gd (f+1) (40::c::r) p=oX (eU p e9) (gd f (c::r) (p+1)):=by
 have h:([40,42]:List UInt8).isPrefixOf (40::c::r)=false:=by simp only [List.isPrefixOf,beq_self_eq_true,aqk,apY];exact ap9.2 fun q=>ax q.symm
 simp only [gd,h];rfl
theorem ag1 {f p:Nat} {r:List UInt8}:gd (f+1) (41::r) p=oX (eU p ej) (gd f r (p+1)):=rfl
theorem JH {f:Nat} {c:UInt8} {r:List UInt8} (ax:c≠42):∀(m p:Nat),gd (m+f) (List.replicate m 40++c::r) p=ap (me m p) (gd f (c::r) (p+m))
 | 0,p=>by rw [apH];show gd f (c::r) p=_;rw [ap_];cases gd f (c::r) p<;>rfl
 | 1,p=>by rw [show 1+f=f+1 from by omega];show gd (f+1) (40::c::r) p=_;rw [Rs ax];cases gd f (c::r) (p+1)<;>rfl
 | m+2,p=>by have b6:=JH ax (f:=f) (r:=r) (m+1) (p+1);rw [show m+2+f=(m+1+f)+1 from by omega];show gd ((m+1+f)+1) (40::40::(List.replicate m 40++c::r)) p=_;rw [Rs (by decide)];have aei:gd (m+1+f) (40::(List.replicate m 40++c::r)) (p+1)=ap (me (m+1) (p+1)) (gd f (c::r) (p+1 + (m+1))):=b6;rw [aei,Mn,show p+1 + (m+1)=p + (m+2) from by omega];rfl
theorem JG {f:Nat} {r:List UInt8}:∀(m p:Nat),gd (m+f) (List.replicate m 41++r) p=ap (kn m p) (gd f r (p+m))
 | 0,p=>by rw [apH];show gd f r p=_;rw [ap_];cases gd f r p<;>rfl
 | m+1,p=>by rw [show m+1+f=(m+f)+1 from by omega];show gd ((m+f)+1) (41::(List.replicate m 41++r)) p=_;rw [ag1,JG m (p+1),Mn,show p+1+m=p + (m+1) from by omega];rfl
def oC (m:Nat):List UInt8:=[108,101,116,32]++(List.replicate m 40++95::(List.replicate m 41++[32,61,32,49,32,59,59]))
def oD (m:Nat):List UInt8:=[101,120,99,101,112,116,105,111,110,32,69,32,111,102,32]++(List.replicate m 40++105::110::116::(List.replicate m 41++[32,59,59]))
def oF (m:Nat):List aq:=⟨6,0,0,pk⟩::(me m 4++(eU (4+m) iW::(kn m (4+m+1)++[eU (4+m+1+m+1) gQ,⟨1,1,4+m+1+m+3,[]⟩,eU (4+m+1+m+5) j0])))
def oG (m:Nat):List aq:=⟨6,0,0,sM⟩::⟨4,0,10,[69]⟩::⟨6,0,12,qM⟩::(me m 15++(⟨3,0,15+m,[105,110,116]⟩::(kn m (15+m+3)++[eU (15+m+3+m+1) j0])))
theorem ag0 {f p m:Nat}:gd (f+1) (95::(List.replicate m 41++[32,61,32,49,32,59,59])) p=oX (eU p iW) (gd f (List.replicate m 41++[32,61,32,49,32,59,59]) (p+1)):=by cases m<;>rfl
theorem ag3 {f p m:Nat}:gd (f+1) (105::110::116::(List.replicate m 41++[32,59,59])) p=oX ⟨3,0,p,[105,110,116]⟩ (gd f (List.replicate m 41++[32,59,59]) (p+3)):=by cases m<;>rfl
theorem agW (m:Nat) (f:Nat):gd (2 + (m + (1 + (m + (7+f))))) (oC m) 0=.ok (oF m):=by
 have ae:gd (2 + (m + (1 + (m + (7+f))))) (oC m) 0=oX ⟨6,0,0,pk⟩ (gd (m + (1 + (m + (7+f)))) (List.replicate m 40++95::(List.replicate m 41++[32,61,32,49,32,59,59])) 4):=by rw [show 2 + (m + (1 + (m + (7+f))))=(m + (1 + (m + (7+f))))+2 from by omega];rfl
 have ar:∀p,gd (7+f) [32,61,32,49,32,59,59] p=.ok [eU (p+1) gQ,⟨1,1,p+3,[]⟩,eU (p+5) j0]:=fun p=>by rw [show 7+f=f+7 from by omega];rfl
 rw [ae,JH (by decide),show 1 + (m + (7+f))=(m + (7+f))+1 from by omega,ag0,JG,ar];rfl
theorem agX (m:Nat) (f:Nat):gd (6 + (m + (1 + (m + (3+f))))) (oD m) 0=.ok (oG m):=by
 have ae:gd (6 + (m + (1 + (m + (3+f))))) (oD m) 0=oX ⟨6,0,0,sM⟩ (oX ⟨4,0,10,[69]⟩ (oX ⟨6,0,12,qM⟩ (gd (m + (1 + (m + (3+f)))) (List.replicate m 40++105::110::116::(List.replicate m 41++[32,59,59])) 15))):=by rw [show 6 + (m + (1 + (m + (3+f))))=(m + (1 + (m + (3+f))))+6 from by omega];rfl
 have ar:∀p,gd (3+f) [32,59,59] p=.ok [eU (p+1) j0]:=fun p=>by rw [show 3+f=f+3 from by omega];rfl
 rw [ae,JH (by decide),show 1 + (m + (3+f))=(m + (3+f))+1 from by omega,ag3,JG,ar];rfl
section
variable {ab:Nat}
theorem HK {d:Nat} {ws:List aq} {r:bH (aN × List aq)}:jb ab d ws r=if 1000<=d then .error (271,bG ab ws) else r:=rfl
theorem zT (s:List UInt8) (p:Nat) (ws:List aq):ec ab s (eU p s::ws)=.ok ws:=by unfold ec;rw [pz,decide_eq_true rfl];rfl
theorem Sl (x:List aq) (au:bb hh x=false):∀(m d n p q r:Nat),3 * m+3<=n->
 ∃e:Nat,(aU ab n).pat d (me m p++eU q iW::(kn m r++x))=if d+m<1000 then .ok (.mk 10 0 q [] [],x) else .error (271,e)
 | m,d,0,p,q,r,aF=>by omega
 | m,d,1,p,q,r,aF=>by omega
 | m,d,2,p,q,r,aF=>by omega
 | 0,d,n+3,p,q,r,aF=>by
   refine ⟨q,?_⟩;show jb ab d (eU q iW::x) (ox ab (aU ab (n+1)) (d+1) (eU q iW::x) >>= fun a=>if bb hh a.2=true then ((aU ab (n+2)).pat (d+1) a.2.tail >>= fun b=>.ok (two 15 a.1 b.1,b.2)) else .ok (a.1,a.2))=_;have ae:ox ab (aU ab (n+1)) (d+1) (eU q iW::x)=.ok (.mk 10 0 q [] [],x):=by unfold ox;rw [zG,ao_ (by decide)];show p_ ab (aU ab n) (d+1) (eU q iW::x)=_;unfold p_;simp only [pz,aqn,apd,List.tail_cons];rfl
   rw [HK,ae];by_cases a_:d+0<1000
   . rw [ape a_,ao_ (by omega)];show (if bb hh x=true then _ else _)=_;rw [au];rfl
   . rw [ao_ a_,ape (by omega)];rfl
 | m+1,d,n+3,p,q,r,aF=>by
   obtain ⟨e,b6⟩:=Sl (eU (r+m) ej::x) (by simp [pz,hh,ej]) m (d+1) n (p+1) q r (by omega);have ag:me (m+1) p++eU q iW::(kn (m+1) r++x)=eU p e9::(me m (p+1)++eU q iW::(kn m r++(eU (r+m) ej::x))):=by rw [Hw,apK];rfl
   rw [ag];generalize rB:me m (p+1)++eU q iW::(kn m r++(eU (r+m) ej::x))=I at b6;have al:bb ej I=false:=by rw [<-rB];cases m<;>simp [me,pz,ej,e9,iW]
   have ae:ox ab (aU ab (n+1)) (d+1) (eU p e9::I)=((aU ab n).pat (d+1) I >>= fun z=>ec ab ej z.2 >>= fun w=>.ok (z.1,w)):=by unfold ox;rw [zG,ao_ (by decide)];show p_ ab (aU ab n) (d+1) (eU p e9::I)=_;unfold p_;simp only [pz,zG,show (e9=iW)=False from by simp [e9,iW],show (e9=hN)=False from by simp [e9,hN],show (e9=h3)=False from by simp [e9,h3],show (e9=iE)=False from by simp [e9,iE],aqG,ao2,apa,zT,show ((7:Int)=3)=False from by simp,show ((7:Int)=4)=False from by simp,show ((7:Int)=1)=False from by simp];show (if bb ej I=true then _ else _)=_;rw [al];rfl
   refine ⟨if 1000<=d then p else e,?_⟩;show jb ab d (eU p e9::I) (ox ab (aU ab (n+1)) (d+1) (eU p e9::I) >>= fun a=>if bb hh a.2=true then ((aU ab (n+2)).pat (d+1) a.2.tail >>= fun b=>.ok (two 15 a.1 b.1,b.2)) else .ok (a.1,a.2))=_;rw [HK,ae,b6];by_cases a_:d + (m+1)<1000
   . rw [ape a_,ao_ (by omega),ape (by omega)];show ((ec ab ej (eU (r+m) ej::x) >>= fun w=>.ok (aN.mk 10 0 q [] [],w)) >>= _)=_;rw [zT];show (if bb hh x=true then _ else _)=_;rw [au];rfl
   . by_cases aL:1000<=d
     . rw [ao_ a_,ape aL,ape aL];rfl
     . rw [ao_ a_,ao_ aL,ao_ aL,ao_ (by omega)];rfl
theorem TG (x:List aq) (au:bb jY x=false) (xr:bb kW x=false) (xt:bb hh x=false) (xu:cJ 3 x=false):∀(m d n p q r:Nat),4 * m+4<=n->
 ∃e:Nat,(aU ab n).ty d (me m p++⟨3,0,q,[105,110,116]⟩::(kn m r++x))=if d+m<1000 then .ok (.mk 2 0 q [105,110,116] [],x) else .error (271,e)
 | m,d,0,p,q,r,aF=>by omega
 | m,d,1,p,q,r,aF=>by omega
 | m,d,2,p,q,r,aF=>by omega
 | m,d,3,p,q,r,aF=>by omega
 | m,d,n+4,p,q,r,aF=>by
   have vI:∀a:aN,jT a x=(a,x):=fun a=>by
    cases x with
    | nil=>rfl
    | cons w t=>simp only [cJ,apV] at xu;simp only [jT,ao_ xu]
   have top:∀(W:List aq) (res:bH (aN × List aq)),qc ab (aU ab n) (d+1) W=res->(∀a w,res=.ok (a,w)->w=x)->∃e:Nat,(aU ab (n+4)).ty d W=if 1000<=d then .error (271,e) else res:=by
    intro W res ar hw;refine ⟨bG ab W,?_⟩;show jb ab d W (((qc ab (aU ab n) (d+1) W >>= fun a=>.ok (jT a.1 a.2)) >>= fun a=>if bb kW a.2=true then ((aU ab (n+2)).hx (d+1) a.2.tail >>= fun b=>.ok (two 3 a.1 b.1,b.2)) else .ok (a.1,a.2)) >>= fun a=>if bb jY a.2=true then ((aU ab (n+3)).ty (d+1) a.2.tail >>= fun b=>.ok (two 4 a.1 b.1,b.2)) else .ok (a.1,a.2))=_;rw [HK,ar];by_cases aL:1000<=d
    . rw [ape aL,ape aL]
    rw [ao_ aL,ao_ aL];cases res with
    | error e=>rfl
    | ok z=>
      obtain ⟨a,w⟩:=z;obtain rfl:=hw a w rfl;show (((Except.ok (jT a w):bH (aN × List aq)) >>= fun a=>if bb kW a.2=true then ((aU ab (n+2)).hx (d+1) a.2.tail >>= fun b=>.ok (two 3 a.1 b.1,b.2)) else .ok (a.1,a.2)) >>= _)=_;rw [vI];show ((if bb kW w=true then _ else Except.ok (a,w)) >>= _)=_;rw [xr];show (if bb jY w=true then _ else _)=_;rw [au];rfl
   cases m with
   | zero=>
     obtain ⟨e,h⟩:=top (⟨3,0,q,[105,110,116]⟩::x) (.ok (.mk 2 0 q [105,110,116] [],x)) rfl (fun a w h=>by cases h;rfl);refine ⟨e,?_⟩;show (aU ab (n+4)).ty d (⟨3,0,q,[105,110,116]⟩::x)=_;rw [h];by_cases a_:d+0<1000
     . rw [ape a_,ao_ (by omega)]
     . rw [ao_ a_,ape (by omega)]
   | succ m=>
     obtain ⟨e,b6⟩:=TG (eU (r+m) ej::x) (by simp [pz,jY,ej]) (by simp [pz,kW,ej]) (by simp [pz,hh,ej]) (by simp [zG]) m (d+1) n (p+1) q r (by omega);have ag:me (m+1) p++⟨3,0,q,[105,110,116]⟩::(kn (m+1) r++x)=eU p e9::(me m (p+1)++⟨3,0,q,[105,110,116]⟩::(kn m r++(eU (r+m) ej::x))):=by rw [Hw,apK];rfl
     rw [ag];generalize me m (p+1)++⟨3,0,q,[105,110,116]⟩::(kn m r++(eU (r+m) ej::x))=I at b6;have ar:qc ab (aU ab n) (d+1) (eU p e9::I)=if d+1+m<1000 then .ok (.mk 2 0 q [105,110,116] [],x) else .error (271,e):=by
      unfold qc;simp only [zG,show ((7:Int)=5)=False from by simp,show ((7:Int)=3)=False from by simp,aqG,ao2,apa,zT];show ((aU ab n).ty (d+1) I >>= _)=_;rw [b6];by_cases a_:d+1+m<1000
      . rw [ape a_,ape a_];have az:(aU ab n).iX (d+1) [.mk 2 0 q [105,110,116] []] (eU (r+m) ej::x)=.ok ([.mk 2 0 q [105,110,116] []],eU (r+m) ej::x):=by
         cases n with
         | zero=>omega
         | succ n=>
           show nv ab (aU ab n) (d+1) [.mk 2 0 q [105,110,116] []] (eU (r+m) ej::x)=_;unfold nv;rw [ao_ (by simp [pz,hh,ej])]
        show ((aU ab n).iX (d+1) [.mk 2 0 q [105,110,116] []] (eU (r+m) ej::x) >>= _)=_;have z:∀(q:List aN × List aq) (k:List aN × List aq->bH (aN × List aq)),((Except.ok q:bH (List aN × List aq)) >>= k)=k q:=fun _ _=>rfl;rw [az,z];dsimp only;rw [zT];rfl
      . rw [ao_ a_,ao_ a_];rfl
     obtain ⟨bu,h⟩:=top _ _ ar (fun a w h=>by
      split at h
      . cases h;rfl
      . cases h)
     refine ⟨if 1000<=d then bu else e,?_⟩;rw [h];by_cases aL:1000<=d
     . rw [ape aL,ape aL,ao_ (by omega)]
     . rw [ao_ aL,ao_ aL];by_cases a_:d + (m+1)<1000
       . rw [ape a_,ape (by omega)]
       . rw [ao_ a_,ao_ (by omega)]
end
structure qt (s:List UInt8) (p:Nat) (b:aO) (h:ah) (res:qp) (x:V) (af:ah):Prop where
 mod:Mod (fun q=>q=b) h af
 res:∃k n t,x=.agg [.int .i64 k,.int .i64 n,.int .i64 0,.str t]/\match res with
  | .ok q=>k=q.1/\n=q.2.1/\t=q.2.2.1/\af.get b=gR s ((p+q.2.2.2:Nat):Int) 0/\p+q.2.2.2<=s.length
  | .error e=>e≠0/\∃bF:Int,af.get b=gR s bF e
theorem JU {P:Program}:(fu.l2 true 5).run P .nilIface .nilIface=some (.bool false):=rfl
theorem ahE {P:Program} (T:TypeId) (x:V):(fu.l2 true 5).run P (.iface T x) .nilIface=some (.bool true):=rfl
theorem Tu {p:UInt8->Bool} {l:List UInt8}:∀c ∈ l.takeWhile p,p c=true:=fun c ax=>by
 induction l with
 | nil=>simp at ax
 | cons x l b6=>
   simp only [aqd] at ax
   split at ax
   . rename_i au;rcases apy.1 ax with rfl | ax
     . exact au
     . exact b6 ax
   . simp at ax
theorem Lb (p:UInt8->Bool) (s:List UInt8) (a:Nat):((s.drop a).takeWhile p).length<=s.length-a:=by have:=Tw p (s.drop a);rwa [apr] at this
theorem ahU (s:List UInt8) (a0:Nat) (b:aO) (h:ah) (ai:h.get b=gR s a0 0) (aL:a0<s.length) (al:s.length<=100000) (dB:Old h b) (a_:dU s[a0]=true):
 dW Tryz.prog 80 [.ptr b 0] h (qt s a0 b h (qW (s.drop a0))):=by
 refine YP.z rfl (cl ?_);unfold Ot;have dG:(b=an h.next)=False:=xN dB (ao1 _);have dQ:(an h.next=b)=False:=by rw [<-dG];exact propext aqP
 simp only [ai,dG,dQ,↓aa,ad,simprocAttr];have au:Ext h (h.new (.bc [.int .i64 0,.int .i64 0,.int .i64 0,.str []] 0 false)):=(Ext.refl h).new _;refine aX (S4 s a0 0 b 79 n9 _ (by rw [au.get _ dB,ai]) (by omega) al (by decide) (fun c h=>yS c h)) ?_;rintro x ae ⟨rfl,hm,ay⟩;have mZ:(fun c:UInt8=>n9 (c.toNat:Int))=dU:=rfl;rw [mZ] at ay ⊢;have xg:Mod (fun q=>q=b) h ae:=(au.mod _).trans hm;have g1:ae.get (an h.next)=.bc [.int .i64 0,.int .i64 0,.int .i64 0,.str []] 0 false:=by rw [hm.get _ (jJ (by rw [hV];omega)) (by rw [dQ];exact id)];simp only [↓aa,ad,simprocAttr]
 have dY:(s.drop a0).takeWhile dU≠[]:=by rw [drop_cons aL,aqd,a_];simp
 have hlen:=Lb dU s a0;have aG:=ajH ((s.drop a0).takeWhile dU) Tu dY;unfold gR at ay;have rM:qW (s.drop a0)=if 2147483647<fR ((s.drop a0).takeWhile dU) then .error 254 else .ok (1,(if 1073741823 < (fR ((s.drop a0).takeWhile dU):Int) then (fR ((s.drop a0).takeWhile dU):Int)-2147483648 else fR ((s.drop a0).takeWhile dU)),[],((s.drop a0).takeWhile dU).length):=rfl;rw [rM];generalize (s.drop a0).takeWhile dU=t at *;simp only [↓aa,ad,simprocAttr];by_cases o5:fR t<=18446744073709551615
 . refine bQ (ajJ t (fR t) (by omega) (aG.1 o5) ae) ?_;generalize fR t=u at *;by_cases H':(2147483647:Int) < (u:Int)
   . have y9:2147483647<u:=by omega
     simp only [JU,H',g1,ay,dG,dQ,↓aa,ad,simprocAttr];refine ⟨(xg.set (fun _=>rfl) _).set (fun q=>absurd (show dP (an h.next)<h.next from q) (by rw [dk];omega)) _,?_⟩;rw [ape y9];refine ⟨_,_,_,rfl,by decide,((a0+t.length:Nat):Int),?_⟩;simp only [gR,dG,dQ,↓aa,ad,simprocAttr]
   . have y9:¬2147483647<u:=by omega
     have b9:IntKind.i64.wrap (u:Int)=(u:Int):=wrap_i64 (by omega) (by omega);have aQ:IntKind.i64.wrap ((u:Int)-2147483648)=(u:Int)-2147483648:=wrap_i64 (by omega) (by omega);by_cases PX:(1073741823:Int) < (u:Int)
     . simp only [JU,H',y9,PX,g1,ay,dG,dQ,b9,aQ,↓aa,ad,simprocAttr];refine ⟨(xg.set (fun q=>absurd (show dP (an h.next)<h.next from q) (by rw [dk];omega)) _),?_⟩;refine ⟨_,_,_,rfl,rfl,rfl,rfl,?_,by show a0+t.length<=s.length;omega⟩;simp only [gR,ay,dG,dQ,↓aa,ad,simprocAttr]
     . simp only [JU,H',y9,PX,g1,ay,dG,dQ,b9,aQ,↓aa,ad,simprocAttr];refine ⟨(xg.set (fun q=>absurd (show dP (an h.next)<h.next from q) (by rw [dk];omega)) _),?_⟩;refine ⟨_,_,_,rfl,rfl,rfl,rfl,?_,by show a0+t.length<=s.length;omega⟩;simp only [gR,ay,dG,dQ,↓aa,ad,simprocAttr]
 . refine bQ (ajL t (by omega) (aG.2 o5) ae) ?_;have y9:2147483647<fR t:=by omega
   rw [ape y9];simp only [ahE,g1,ay,dG,dQ,↓aa,ad,simprocAttr];refine ⟨(xg.set (fun _=>rfl) _).set (fun q=>absurd (show dP (an h.next)<h.next from q) (by rw [dk];omega)) _,?_⟩;refine ⟨_,_,_,rfl,by decide,((a0+t.length:Nat):Int),?_⟩;simp only [gR,dG,dQ,↓aa,ad,simprocAttr]
theorem TJ (c:UInt8):((c.toNat:Int)).toNat.toUInt8=c:=by rw [ao8];simp
theorem lS (c:UInt8) (n:Nat) (aF:n<256):((c.toNat:Int)=(n:Int))=(c=n.toUInt8):=by
 apply propext;constructor
 . intro q;have:c.toNat=n:=by omega
   rw [<-UInt8.toNat_inj,this];simp;omega
 . intro q;subst q;simp;omega
theorem aa0 (c:UInt8):Lib.indexByte [110,116,34,92] c=if c=110 then 0 else if c=116 then 1 else if c=34 then 2 else if c=92 then 3 else -1:=by
 simp only [Lib.indexByte,aqt];by_cases ae:c=110
 . subst ae;decide
 . by_cases ag:c=116
   . subst ag;decide
   . by_cases ar:c=34
     . subst ar;decide
     . by_cases aT:c=92
       . subst aT;decide
       . have aP:¬(110:UInt8)=c:=fun q=>ae q.symm;have bu:¬(116:UInt8)=c:=fun q=>ag q.symm;have cT:¬(34:UInt8)=c:=fun q=>ar q.symm;have cN:¬(92:UInt8)=c:=fun q=>aT q.symm;simp only [ae,ag,ar,aT,aP,bu,cT,cN,apa];rfl
theorem HE {c:UInt8} (h:dU c=true):Lib.digitVal c=some (c.toNat-48):=by unfold Lib.digitVal;unfold dU n9 at h;simp only [ao7,apf] at h;rw [ape (by omega)]
theorem Wf {a b c:UInt8} (ae:dU a=true) (ag:dU b=true) (ar:dU c=true):Lib.atoi [a,b,c]=some ((fR [a,b,c]:Nat):Int):=by
 have b1:=ae;unfold dU n9 at b1;simp only [ao7,apf] at b1;have fZ:(a == 45)=false:=by rw [ap9];rintro rfl;revert b1;decide
 have lI:(a == 43)=false:=by rw [ap9];rintro rfl;revert b1;decide
 simp [Lib.atoi,fZ,lI,Lib.decNat,Lib.decFrom,HE ae,HE ag,HE ar,fR];omega
theorem aa1 (s:List UInt8) (a0:Nat) (b:aO) (h:ah) (ai:h.get b=gR s a0 0) (aL:a0<s.length) (al:s.length<=100000) (dB:Old h b):
 dW Tryz.prog 131 [.ptr b 0] h fun x af=>Mod (fun q=>q=b) h af/\match kL (s.drop (a0+1)) with
  | some (c,n)=>x=.int .u8 (c.toNat:Int)/\af.get b=gR s ((a0+1+n:Nat):Int) 0/\a0+1+n<=s.length
  | none=>x=.int .u8 0/\af.get b=gR s ((a0+1:Nat):Int) 252:=by
 refine Xj.z rfl (cl ?_);unfold Na;unfold gR at ai ⊢;have b9:IntKind.i64.wrap ((a0:Int)+1)=((a0+1:Nat):Int):=by rw [wrap_i64 (by omega) (by omega)];rfl
 have f0:(0<=((a0+1:Nat):Int))=True:=apk (by omega);have f1:(((a0+1:Nat):Int)<=(s.length:Int))=True:=apk (by omega);have xd:(s.drop (a0+1)).length=s.length - (a0+1):=apr;have z0:((0:Int)<=0)=True:=apk (by omega);have kQ:∀v,bg.Mod (fun q=>q=b) h ((h.set b v)):=fun v=>(Mod.refl (fun q=>q=b) h).set (fun _=>rfl) _;cases c1:s.drop (a0+1) with
 | nil=>
   simp only [ai,b9,f0,f1,ao8,c1,aph,Int.natCast_zero,↓aa,ad,simprocAttr];refine ⟨(kQ _).set (fun _=>rfl) _,?_⟩;simp only [kL,eC,apd,aqp]
 | cons c r=>
   rw [c1] at xd;rw [ao9] at xd;have ek:(c::r=[])=False:=apl (by simp);have f2:((0:Int) < ((r.length+1:Nat):Int))=True:=apk (by omega);simp only [ai,b9,f0,f1,f2,ek,ao8,c1,Int.reduceToNat,z0,↓aa,ad,simprocAttr];refine bQ (QT _ _ _) ?_;rw [TJ,aa0];have aQ:IntKind.i64.wrap (((a0+1:Nat):Int)+1)=((a0+2:Nat):Int):=by rw [wrap_i64 (by omega) (by omega)];omega
   by_cases ch:c=110
   . subst ch;simp only [ai,b9,aQ,f0,f1,f2,ek,ao8,c1,Int.reduceToNat,z0,ao9,aph,Nat.reduceAdd,Int.reduceLT,apE,↓aa,ad,simprocAttr];refine ⟨(kQ _).set (fun _=>rfl) _,rfl,?_⟩;simp only [eC,apd];refine ⟨trivial,by omega⟩
   by_cases c8:c=116
   . subst c8;simp only [ai,b9,aQ,f0,f1,f2,ek,ao8,c1,Int.reduceToNat,z0,ao9,aph,Nat.reduceAdd,Int.reduceLT,apE,ch,↓aa,ad,simprocAttr];refine ⟨(kQ _).set (fun _=>rfl) _,rfl,?_⟩;simp only [eC,apd];refine ⟨trivial,by omega⟩
   by_cases c3:c=34
   . subst c3;simp only [ai,b9,aQ,f0,f1,f2,ek,ao8,c1,Int.reduceToNat,z0,ao9,aph,Nat.reduceAdd,Int.reduceLT,apE,ch,c8,↓aa,ad,simprocAttr];refine ⟨(kQ _).set (fun _=>rfl) _,rfl,?_⟩;simp only [eC,apd];refine ⟨trivial,by omega⟩
   by_cases g_:c=92
   . subst g_;simp only [ai,b9,aQ,f0,f1,f2,ek,ao8,c1,Int.reduceToNat,z0,ao9,aph,Nat.reduceAdd,Int.reduceLT,apE,ch,c8,c3,↓aa,ad,simprocAttr];refine ⟨(kQ _).set (fun _=>rfl) _,rfl,?_⟩;simp only [eC,apd];refine ⟨trivial,by omega⟩
   match r,c1,xd,f2,ek with
   | [],c1,xd,f2,ek=>
     simp only [ai,b9,aQ,f0,f1,f2,ek,ao8,c1,Int.reduceToNat,z0,ao9,aph,Nat.reduceAdd,Int.reduceLT,apE,ch,c8,c3,g_,↓aa,ad,simprocAttr];refine ⟨(kQ _).set (fun _=>rfl) _,?_⟩;simp [kL,ch,c8,c3,g_,eC]
   | [_],c1,xd,f2,ek=>
     simp only [ai,b9,aQ,f0,f1,f2,ek,ao8,c1,Int.reduceToNat,z0,ao9,aph,Nat.reduceAdd,Int.reduceLT,apE,ch,c8,c3,g_,↓aa,ad,simprocAttr];refine ⟨(kQ _).set (fun _=>rfl) _,?_⟩;simp [kL,ch,c8,c3,g_,eC]
   | d1::d2::bq,c1,xd,f2,ek=>
     simp only [ao9] at xd;have g3:((3:Int)<=((bq.length+3:Nat):Int))=True:=apk (by omega);have g2:((2:Int) < ((bq.length+3:Nat):Int))=True:=apk (by omega);have g1:((1:Int) < ((bq.length+3:Nat):Int))=True:=apk (by omega);have g0:((0:Int) < ((bq.length+3:Nat):Int))=True:=apk (by omega);have em:kL (c::d1::d2::bq)=if dU c/\dU d1/\dU d2/\fR [c,d1,d2]<256 then some ((fR [c,d1,d2]).toUInt8,3) else none:=by simp [kL,ch,c8,c3,g_]
     rw [em];simp only [ai,b9,aQ,f0,f1,g0,g1,g2,g3,ek,ao8,c1,Int.reduceToNat,z0,ao9,aph,Nat.reduceAdd,Int.reduceLT,apE,ch,c8,c3,g_,↓aa,ad,simprocAttr];refine bQ (yS _ _) ?_;have dg:∀x:UInt8,n9 (x.toNat:Int)=dU x:=fun _=>rfl;simp only [dg];cases acG:dU c with
     | false=>
       simp only [ai,b9,aQ,f0,f1,g0,g1,g2,g3,ek,ao8,c1,Int.reduceToNat,z0,ao9,aph,Nat.reduceAdd,Int.reduceLT,apE,ch,c8,c3,g_,aqN,ao2,↓aa,ad,simprocAttr];exact (kQ _).set (fun _=>rfl) _
     | true=>
       simp only [ai,b9,aQ,f0,f1,g0,g1,g2,g3,ek,ao8,c1,Int.reduceToNat,z0,ao9,aph,Nat.reduceAdd,Int.reduceLT,apE,ch,c8,c3,g_,↓aa,ad,simprocAttr];refine bQ (yS _ _) ?_;simp only [dg];cases sz:dU d1 with
       | false=>
         simp only [ai,b9,aQ,f0,f1,g0,g1,g2,g3,ek,ao8,c1,Int.reduceToNat,z0,ao9,aph,Nat.reduceAdd,Int.reduceLT,apE,ch,c8,c3,g_,aqN,and_false,ao2,↓aa,ad,simprocAttr];exact (kQ _).set (fun _=>rfl) _
       | true=>
         simp only [ai,b9,aQ,f0,f1,g0,g1,g2,g3,ek,ao8,c1,Int.reduceToNat,z0,ao9,aph,Nat.reduceAdd,Int.reduceLT,apE,ch,c8,c3,g_,↓aa,ad,simprocAttr];refine bQ (yS _ _) ?_;simp only [dg];cases w7:dU d2 with
         | false=>
           simp only [ai,b9,aQ,f0,f1,g0,g1,g2,g3,ek,ao8,c1,Int.reduceToNat,z0,ao9,aph,Nat.reduceAdd,Int.reduceLT,apE,ch,c8,c3,g_,aqN,and_false,ao2,↓aa,ad,simprocAttr];exact (kQ _).set (fun _=>rfl) _
         | true=>
           have z3:((0:Int)<=3)=True:=apk (by omega);simp only [ai,b9,aQ,f0,f1,g0,g1,g2,g3,z3,ek,ao8,c1,Int.reduceToNat,z0,ao9,aph,Nat.reduceAdd,Int.reduceLT,apE,ch,c8,c3,g_,↓aa,ad,simprocAttr];refine bQ (Wg [c,d1,d2] _ (by simp) (Wf acG sz w7) _) ?_;have eI:IntKind.i64.wrap (((a0+1:Nat):Int)+3)=((a0+4:Nat):Int):=by rw [wrap_i64 (by omega) (by omega)];omega
           generalize b0:fR [c,d1,d2]=v;by_cases Jg:(v:Int)<256
           . have gp:IntKind.u8.wrap (v:Int)=((v.toUInt8).toNat:Int):=by
              simp [IntKind.wrap,IntKind.bits,IntKind.signed]
             have Jh:v<256:=by omega
             simp only [ai,b9,aQ,eI,gp,f0,f1,g0,g1,g2,g3,ek,Jg,Jh,ao8,c1,Int.reduceToNat,z0,ao9,aph,Nat.reduceAdd,Int.reduceLT,apE,ch,c8,c3,g_,and_self,aqp,↓aa,ad,simprocAttr];refine ⟨(kQ _).set (fun _=>rfl) _,?_⟩
             first | omega | (refine ⟨?_,by omega⟩;simp [eC]) | skip
           . have Jh:¬v<256:=by omega
             simp only [ai,b9,aQ,eI,f0,f1,g0,g1,g2,g3,ek,Jg,Jh,ao8,c1,Int.reduceToNat,z0,ao9,aph,Nat.reduceAdd,Int.reduceLT,apE,ch,c8,c3,g_,and_false,↓aa,ad,simprocAttr];exact (kQ _).set (fun _=>rfl) _
theorem TK (c:UInt8) (n:Nat) (aF:n<256):((c.toNat:Int) < (n:Int))=(c<n.toUInt8):=by
 apply propext;rw [UInt8.lt_iff_toNat_lt];have:(n.toUInt8).toNat=n:=by simp;omega
 rw [this];omega
theorem al3 (s:List UInt8) (a0:Nat) (b:aO) (h:ah) (ai:h.get b=gR s a0 0) (aL:a0<s.length) (al:s.length<=100000) (dB:Old h b):
 dW Tryz.prog 81 [.ptr b 0] h (qt s a0 b h (mP (s.drop (a0+1)))):=by
 refine YQ.z rfl (cl ?_);unfold Ou;have dG:(b=an h.next)=False:=xN dB (ao1 _);have dQ:(an h.next=b)=False:=by rw [<-dG];exact propext aqP
 have b9:IntKind.i64.wrap ((a0:Int)+1)=((a0+1:Nat):Int):=by rw [wrap_i64 (by omega) (by omega)];rfl
 unfold gR at ai;simp +contextual only [ai,dG,dQ,b9,↓aa,ad,simprocAttr];have rW:∀{v:V} {af:ah} {n:Nat} {us:List V},dK (h.next+1) af 1 v n us->∀q,v.bn q->¬(fun q=>q=b) q:=by
  intro v af n us dR q aI he;have ae:=dR.base aI;rw [show q=b from he] at ae;have ag:dP b<h.next:=dB
  omega
 have WD:∀{v:V} {af:ah} {n:Nat} {us:List V},dK (h.next+1) af 1 v n us->∀i,i<h.next+1->¬v.bn (an i):=by intro v af n us dR i aM aI;have ae:=dR.base aI;rw [dk] at ae;omega
 refine gf (fun r af=>r 0=.ptr b 0/\r 2=.ptr (an h.next) 0/\∃(a:Nat) (e:Int) (cb:List UInt8) (v:V),r 3=v/\af.get b=.bc [.str s,.int .i64 a,.int .i64 e] 0 false/\a<=s.length/\a0+1<=a/\cb.length<=a/\
  af.get (an h.next)=.bc [.int .i64 0,.int .i64 0,.int .i64 0,.str []] 0 false/\Mod (fun q=>q=b) h af/\h.next+1<=af.next/\dK (h.next+1) af 1 v cb.length (ho cb)/\
  ((e=0/\nu (s.drop (a0+1))=(nu (s.drop a)).map fun q=>(cb++q.1,q.2 + (a - (a0+1))))\/(e=252/\nu (s.drop (a0+1))=none)))
  (fun r af=>(s.length - ((hc (af.get b) 1).getD .bad).toN) + (252 - ((hc (af.get b) 2).getD .bad).toN)) ?_ ?_
 . refine ⟨by simp only [dG,dQ,↓aa,ad,simprocAttr],by simp only [dG,dQ,↓aa,ad,simprocAttr],a0+1,0,[],.cS,by simp only [dG,dQ,↓aa,ad,simprocAttr],by simp only [dG,dQ,↓aa,ad,simprocAttr],by omega,by omega,by simp,by simp only [dG,dQ,↓aa,ad,simprocAttr],?_,?_,⟨rfl,rfl⟩,.inl ⟨rfl,?_⟩⟩
   . exact (((Ext.refl h).new _).mod (fun q=>q=b)).self _
   . rw [iT,hV];exact ao1 _
   . rw [aqs];cases nu (s.drop (a0+1))<;>rfl
 . rintro r af ⟨aW,bf,a,e,cb,v,bU,ay,dr,gv,xA,bN,hm,j9,dR,br⟩;have Qt:Old af b:=hm.cr dB;have fin:∀(ag:ah) (bF:Int),nu (s.drop (a0+1))=none->Mod (fun q=>q=b) h ag->ag.get b=.bc [.str s,.int .i64 bF,.int .i64 252] 0 false->
    qt s a0 b h (mP (s.drop (a0+1))) (.agg [.int .i64 0,.int .i64 0,.int .i64 0,.str []]) (ag.set (an h.next) (.bc [.int .i64 0,.int .i64 0,.int .i64 0,.str []] 0 false)):=by
    intro ag bF aF ff l5;unfold mP;rw [aF];refine ⟨ff.set (fun q=>absurd (show dP (an h.next)<h.next from q) (by rw [dk];omega)) _,_,_,_,rfl,by decide,bF,?_⟩;rw [eC,ao_ (by rw [dQ];exact id),l5];rfl
   have step:∀(ag:ah),Mod (fun q=>q=b) h ag->af.next<=ag.next->dK (h.next+1) ag 1 v cb.length (ho cb)->∀(c:UInt8),∃v3 ar,l0 1 v (.slice (an ag.next) 0 1 1) (ag.new (.bc [.int .u8 (c.toNat:Int)] 0 false))=.val v3 ar/\dK (h.next+1) ar 1 v3 (cb++[c]).length (ho (cb++[c]))/\Mod (fun q=>q=b) h ar/\h.next+1<=ar.next/\ar.get b=ag.get b/\ar.get (an h.next)=ag.get (an h.next):=by
    intro ag ff adt hA c;obtain ⟨v3,ar,ao,av,aC,bs,ca⟩:=A3 (cs:=[.int .u8 (c.toNat:Int)]) (by omega) hA (by omega) (by unfold top;omega) rfl rfl;refine ⟨v3,ar,ao,by rw [apb,DJ];exact av,ff.Tz aC (fun q aI=>ao6 (Nat.le_succ _) (hA.base aI)),by omega,?_,?_⟩
    . exact aC.get _ (ff.cr dB) (fun aI=>rW hA _ aI rfl)
    . exact aC.get _ (jJ (by omega)) (WD hA _ (by omega))
   rcases br with ⟨rfl,br⟩ | ⟨rfl,br⟩
   . by_cases fF:(s.length:Int)<=(a:Int)
     . have b1:a=s.length:=by omega
       rw [b1,aqw,Ty] at br;simp +contextual only [aW,bf,bU,ay,fF,bN,dG,dQ,↓aa,ad,simprocAttr];exact fin _ _ br (hm.set (fun _=>rfl) _) (by rw [eC,ape rfl])
     . have a1:a<s.length:=by omega
       rw [drop_cons a1,Tx] at br;have f0:(0<=(a:Int))=True:=apk (by omega);have f1:((a:Int) < (s.length:Int))=True:=apk (by omega);have aQ:IntKind.i64.wrap ((a:Int)+1)=((a+1:Nat):Int):=by rw [wrap_i64 (by omega) (by omega)];rfl
       have ig:(((s[a]).toNat:Int)=34)=(s[a]=34):=lS _ 34 (by omega);have o0:(((s[a]).toNat:Int)=92)=(s[a]=92):=lS _ 92 (by omega);have Br:(((s[a]).toNat:Int)=127)=(s[a]=127):=lS _ 127 (by omega);have Cq:(((s[a]).toNat:Int)<32)=(s[a]<32):=TK _ 32 (by omega);by_cases ch:s[a]=34
       . rw [ape ch] at br;replace ch:(s[a]=34)=True:=apk ch;simp only [apZ,apo] at br;by_cases o5:(4096:Int) < (cb.length:Int)
         . have hA:∀k dZ,dK (h.next+1) ((af.set b k).set b dZ) 1 v cb.length (ho cb):=fun k dZ=>dR.mod (((Mod.refl (fun q=>q=b) af).set (fun _=>rfl) _).set (fun _=>rfl) _) (rW dR);simp +contextual only [aW,bf,bU,ay,fF,bN,dG,dQ,f0,f1,aQ,ig,ch,dR.v.len,o5,sn (hA _ _),ao3 a1,ao8,↓aa,ad,simprocAttr];refine ⟨((hm.set (fun _=>rfl) _).set (fun _=>rfl) _).set (fun q=>absurd (show dP (an h.next)<h.next from q) (by rw [dk];omega)) _,_,_,_,rfl,?_⟩;unfold mP;rw [br];simp only;rw [ape (by omega)];refine ⟨by decide,((a+1:Nat):Int),?_⟩;simp only [gR,dG,dQ,↓aa,ad,simprocAttr]
         . have hA:∀k,dK (h.next+1) (af.set b k) 1 v cb.length (ho cb):=fun k=>dR.mod ((Mod.refl (fun q=>q=b) af).set (fun _=>rfl) _) (rW dR);simp +contextual only [aW,bf,bU,ay,fF,bN,dG,dQ,f0,f1,aQ,ig,ch,dR.v.len,o5,sn (hA _),ao3 a1,ao8,↓aa,ad,simprocAttr];refine ⟨(hm.set (fun _=>rfl) _).set (fun q=>absurd (show dP (an h.next)<h.next from q) (by rw [dk];omega)) _,_,_,_,rfl,?_⟩;unfold mP;rw [br];simp only;rw [ao_ (by omega)];refine ⟨rfl,rfl,rfl,?_,?_⟩
           . simp only [gR,dG,dQ,↓aa,ad,simprocAttr];rw [show a0 + (1 + (a - (a0+1))+1)=a+1 from by omega]
           . simp only;omega
       rw [ao_ ch] at br;by_cases c8:s[a]=92
       . rw [ape c8] at br;replace c8:(s[a]=92)=True:=apk c8;simp +contextual only [aW,bf,bU,ay,fF,bN,dG,dQ,f0,f1,aQ,ig,o0,ch,c8,ao3 a1,ao8,↓aa,ad,simprocAttr];refine aX (aa1 s a b af ay a1 al Qt) ?_;rintro x ag ⟨ff,au⟩;have hA:=dR.mod ff (rW dR);have oj:ag.get (an h.next)=.bc [.int .i64 0,.int .i64 0,.int .i64 0,.str []] 0 false:=by
          rw [ff.get _ (jJ (by omega)) (by rw [dQ];exact id),bN]
         have sW:=ff.next
         obtain ⟨c,ax,tV⟩:∃c:UInt8,x=.int .u8 (c.toNat:Int)/\((∃n,kL (s.drop (a+1))=some (c,n)/\ag.get b=gR s ((a+1+n:Nat):Int) 0/\a+1+n<=s.length)\/(kL (s.drop (a+1))=none/\ag.get b=gR s ((a+1:Nat):Int) 252)):=by
          cases pS:kL (s.drop (a+1)) with
          | none=>rw [pS] at au;exact ⟨0,au.1,.inr ⟨rfl,au.2⟩⟩
          | some q=>rw [pS] at au;exact ⟨q.1,au.1,.inl ⟨q.2,rfl,au.2⟩⟩
         subst ax;obtain ⟨v3,ar,ao,av,aC,bs,ca,cD⟩:=step ag (hm.trans ff) sW hA c;have SF:dK (h.next+1) ar 1 v3 (cb.length+1) (ho (cb++[c])):=by rw [apb] at av;exact av
         have vu:ar.get (an h.next)=.bc [.int .i64 0,.int .i64 0,.int .i64 0,.str []] 0 false:=by rw [cD,oj]
         unfold gR at tV;rcases tV with ⟨n,pS,l5,hle⟩ | ⟨pS,l5⟩
         . simp +contextual only [ao,aW,bf,ay,l5,ca,dG,dQ,↓aa,ad,simprocAttr];rw [pS] at br;simp only at br;refine ⟨⟨a+1+n,0,cb++[c],rfl,hle,by omega,by simp;omega,vu,aC,bs,av,.inl ⟨rfl,?_⟩⟩,by omega⟩;rw [br,ap0,aqe];congr 1;funext q;simp only [Function.comp,apK,aqz,apX,aqp];omega
         . simp +contextual only [ao,aW,bf,ay,l5,ca,dG,dQ,↓aa,ad,simprocAttr];rw [pS] at br;exact ⟨⟨a+1,252,cb++[c],rfl,by omega,by omega,by simp;omega,vu,aC,bs,av,.inr ⟨rfl,br⟩⟩,by omega⟩
       rw [ao_ c8] at br;by_cases c3:s[a]<32\/s[a]=127
       . rw [ape c3] at br;have tv:(decide (s[a]<32)||decide (s[a]=127))=true:=by simpa using c3
         simp +contextual only [aW,bf,bU,ay,fF,bN,dG,dQ,f0,f1,aQ,ig,o0,Br,Cq,ch,c8,tv,ao3 a1,ao8,↓aa,ad,simprocAttr];exact ⟨⟨a,252,cb,rfl,dr,gv,xA,hm.self _,j9,dR.mod ((Mod.refl (fun q=>q=b) af).self _) (rW dR),.inr ⟨rfl,br⟩⟩,by omega⟩
       . rw [ao_ c3] at br;have tv:(decide (s[a]<32)||decide (s[a]=127))=false:=by simpa using c3
         obtain ⟨v3,ar,ao,av,aC,bs,ca,cD⟩:=step (af.set b (.bc [.str s,.int .i64 ((a+1:Nat):Int),.int .i64 0] 0 false)) (hm.self _) (by rw [iT];exact ao1 _) (dR.mod ((Mod.refl (fun q=>q=b) af).self _) (rW dR)) s[a];simp only [iT,eC,dG,dQ,apd,apa] at ao ca cD;simp +contextual only [ao,aW,bf,bU,ay,fF,bN,dG,dQ,f0,f1,aQ,ig,o0,Br,Cq,ch,c8,tv,ca,ao3 a1,ao8,↓aa,ad,simprocAttr];refine ⟨⟨a+1,0,cb++[s[a]],rfl,by omega,by omega,by simp;omega,by rw [cD,bN],aC,bs,av,.inl ⟨rfl,?_⟩⟩,by omega⟩;rw [br,aqe];congr 1;funext q;simp only [Function.comp,apK,aqz,apX,aqp];omega
   . simp +contextual only [aW,bf,bU,ay,bN,dG,dQ,↓aa,ad,simprocAttr];exact fin _ _ br hm ay
def Jz:List UInt8:=[32,97,110,100,32,98,101,103,105,110,32,101,108,115,101,32,101,110,100,32,101,120,99,101,112,116,105,111,110,32,102,97,108,115,101,32,102,117,110,32,105,102,32,105,110,32,108,101,116,32,109,97,116,99,104,32,109,111,100,32,111,102,32,114,97,105,115,101,32,114,101,99,32,116,104,101,110,32,116,114,117,101,32,116,114,121,32,116,121,112,101,32,119,105,116,104,32]
def vd:List (List UInt8)->List UInt8
 | []=>[32]
 | w::L=>32::(w++vd L)
theorem abt:vd nn=Jz:=by decide
theorem abr (L:List (List UInt8)):∃r,vd L=32::r:=by cases L<;>exact ⟨_,rfl⟩
theorem index_ge (sub:List UInt8):∀l:List UInt8,-1<=Lib.index l sub
 | []=>by simp only [Lib.index];split<;>decide
 | b::l=>by
   have:=index_ge sub l;simp only [Lib.index]
   split
   . decide
   . split<;>omega
theorem QV (sub:List UInt8) (b:UInt8) (l:List UInt8):(0<=Lib.index (b::l) sub)↔(sub.isPrefixOf (b::l)=true\/0<=Lib.index l sub):=by
 have:=index_ge sub l;simp only [Lib.index]
 split
 . rename_i h;simp [h]
 . rename_i h
   split
   . rename_i ag;have:Lib.index l sub=-1:=by simpa using ag
     simp [h,this]
   . rename_i ag;have ar:¬Lib.index l sub=-1:=by simpa using ag
     simp only [h,ao2,false_or];omega
theorem QX (x:List UInt8) (r:List UInt8):∀w:List UInt8,(32:UInt8) ∉ w->((0<=Lib.index (w++r) (32::x))↔0<=Lib.index r (32::x))
 | [],_=>Iff.rfl
 | b::w,h=>by
   rw [apm,QV,QX x r w (fun q=>h (apQ _ q))];have ai:((32:UInt8) == b)=false:=by rw [ap9];rintro rfl;exact h (ap6 ..)
   simp [List.isPrefixOf,ai]
theorem Sv (r:List UInt8):∀(t w:List UInt8),(32:UInt8) ∉ t->(32:UInt8) ∉ w->((t++[32]).isPrefixOf (w++32::r)=true↔t=w)
 | [],[],_,_=>by simp [List.isPrefixOf]
 | [],b::w,_,h=>by
   have ai:((32:UInt8) == b)=false:=by rw [ap9];rintro rfl;exact h (ap6 ..)
   simp [List.isPrefixOf,ai]
 | a::t,[],h,_=>by
   have ai:(a == (32:UInt8))=false:=by rw [ap9];rintro rfl;exact h (ap6 ..)
   simp [List.isPrefixOf,ai]
 | a::t,b::w,h,af=>by have b6:=Sv r t w (fun q=>h (apQ _ q)) (fun q=>af (apQ _ q));simp only [apm,List.isPrefixOf,ao7,aqt,b6,aqK]
theorem QW (t:List UInt8) (az:(32:UInt8) ∉ t):∀L:List (List UInt8),(∀w ∈ L,(32:UInt8) ∉ w)->((0<=Lib.index (vd L) (32::(t++[32])))↔t ∈ L)
 | [],_=>by cases t<;>simp [vd,Lib.index,List.isPrefixOf]
 | w::L,h=>by
   have b6:=QW t az L (fun x au=>h x (apQ _ au));have hw:=h w (ap6 ..);obtain ⟨r,U⟩:=abr L;simp only [vd];rw [QV,QX _ _ _ hw,b6,apy];have:(32::(t++[32])).isPrefixOf (32::(w++vd L))=(t++[32]).isPrefixOf (w++vd L):=by simp [List.isPrefixOf]
   rw [this,U,Sv r t w az hw]
theorem ZH (t:List UInt8) (az:(32:UInt8) ∉ t):Lib.contains Jz (32::(t++[32]))=nk t:=by have:=QW t az nn (by decide);rw [abt] at this;unfold Lib.contains nk;rw [apR,apf,this];simp
theorem ahd {l:List UInt8}:(32:UInt8) ∉ l.takeWhile d':=fun h=>by have:=Tu _ h;revert this;decide
theorem Fa (s:List UInt8) (a0:Nat) (k:Int) (b:aO) (h:ah) (ai:h.get b=gR s a0 0) (aL:a0<=s.length) (al:s.length<=100000) (dB:Old h b):
 dW Tryz.prog 83 [.ptr b 0,.int .i64 k] h (qt s a0 b h (jx k (s.drop a0))):=by
 refine YS.z rfl (cl ?_);unfold Ow;have dG:(b=an h.next)=False:=xN dB (ao1 _);have dQ:(an h.next=b)=False:=by rw [<-dG];exact propext aqP
 simp only [ai,dG,dQ,↓aa,ad,simprocAttr];have au:Ext h (h.new (.bc [.int .i64 0,.int .i64 0,.int .i64 0,.str []] 0 false)):=(Ext.refl h).new _;refine aX (S4 s a0 0 b 132 xE _ (by rw [au.get _ dB,ai]) aL al (by decide) (fun c h=>agU c h)) ?_;rintro x ae ⟨rfl,hm,ay⟩;have mZ:(fun c:UInt8=>xE (c.toNat:Int))=d':=rfl;rw [mZ] at ay ⊢;have xg:Mod (fun q=>q=b) h ae:=(au.mod _).trans hm;have g1:ae.get (an h.next)=.bc [.int .i64 0,.int .i64 0,.int .i64 0,.str []] 0 false:=by rw [hm.get _ (jJ (by rw [hV];omega)) (by rw [dQ];exact id)];simp only [↓aa,ad,simprocAttr]
 have hlen:=Lb d' s a0;have ab3:(32:UInt8) ∉ (s.drop a0).takeWhile d':=ahd;unfold gR at ay;have rM:jx k (s.drop a0)=if k=3/\(s.drop a0).takeWhile d'=[95] then .ok (7,0,(s.drop a0).takeWhile d',((s.drop a0).takeWhile d').length) else if k=3/\nk ((s.drop a0).takeWhile d') then .ok (6,0,(s.drop a0).takeWhile d',((s.drop a0).takeWhile d').length) else if 64 < ((s.drop a0).takeWhile d').length then .error 255 else .ok (k,0,(s.drop a0).takeWhile d',((s.drop a0).takeWhile d').length):=rfl;rw [rM];generalize (s.drop a0).takeWhile d'=t at *;have Fk:∀(dL:Int),qt s a0 b h (.ok (dL,0,t,t.length)) (.agg [.int .i64 dL,.int .i64 0,.int .i64 0,.str t]) (ae.set (an h.next) (.bc [.int .i64 dL,.int .i64 0,.int .i64 0,.str t] 0 false)):=by intro dL;refine ⟨xg.fresh (ao1 _) _,_,_,_,rfl,rfl,rfl,rfl,?_,by show a0+t.length<=s.length;omega⟩;rw [eC,ao_ (by rw [dQ];exact id),ay];rfl
 have tail:(64<t.length->qt s a0 b h (.error 255) (.agg [.int .i64 k,.int .i64 0,.int .i64 0,.str t]) ((ae.set b (.bc [.str s,.int .i64 ((a0+t.length:Nat):Int),.int .i64 255] 0 false)).set (an h.next) (.bc [.int .i64 k,.int .i64 0,.int .i64 0,.str t] 0 false))):=by intro aH;refine ⟨(xg.self _).fresh (ao1 _) _,_,_,_,rfl,by decide,((a0+t.length:Nat):Int),?_⟩;simp only [gR,dG,dQ,↓aa,ad,simprocAttr]
 by_cases aD:k=3
 . subst aD;by_cases hu:t=[95]
   . simp only [g1,ay,dG,dQ,hu,aqp,↓aa,ad,simprocAttr];subst hu;exact Fk 7
   . have t1:(1+t.length<=top)=True:=apk (by unfold top;omega);have t2:(t.length+1+1<=top)=True:=apk (by unfold top;omega);simp only [top] at t1 t2;simp only [g1,ay,dG,dQ,hu,aqp,apb,t1,t2,↓aa,ad,simprocAttr];refine bQ (ZG Jz (32::(t++[32])) (by decide) _) ?_;rw [ZH t ab3];cases tO:nk t with
     | true=>
       simp only [g1,ay,dG,dQ,hu,aqp,and_false,tO,apb,t1,t2,↓aa,ad,simprocAttr];exact Fk 6
     | false=>
       by_cases aH:64<t.length
       . have j7:(64:Int) < (t.length:Int):=by omega
         simp only [g1,ay,dG,dQ,hu,aH,j7,aqp,and_false,tO,apb,t1,t2,ao2,↓aa,ad,simprocAttr];exact tail aH
       . have j7:¬(64:Int) < (t.length:Int):=by omega
         simp only [g1,ay,dG,dQ,hu,aH,j7,aqp,and_false,tO,apb,t1,t2,ao2,↓aa,ad,simprocAttr];exact Fk 3
 . by_cases aH:64<t.length
   . have j7:(64:Int) < (t.length:Int):=by omega
     simp only [g1,ay,dG,dQ,aD,aH,j7,aqN,↓aa,ad,simprocAttr];exact tail aH
   . have j7:¬(64:Int) < (t.length:Int):=by omega
     simp only [g1,ay,dG,dQ,aD,aH,j7,aqN,↓aa,ad,simprocAttr];exact Fk k
def Al:List V:=gG.map V.str
theorem alq (h:ah):dW Tryz.prog 85 [] h fun x af=>x=.slice (an h.next) 0 17 17/\af=h.new (.bc Al 0 false):=by refine YU.z rfl (cl ?_);unfold Oy;simp +contextual only [↓aa,ad,simprocAttr];rfl
theorem alo {i:Nat} (aM:i<17):Al[i]? =some (.str (gG[i]'aM)):=by unfold Al;rw [apM,ao3 (show i<gG.length from aM)];rfl
theorem PF (p:List UInt8->Bool) {i:Nat} (aM:i<17):(gG.drop i).find? p=if p (gG[i]'aM) then some (gG[i]'aM) else (gG.drop (i+1)).find? p:=by rw [apB (show i<gG.length from aM),List.find?_cons];cases p gG[i]<;>rfl
theorem qt.store {s:List UInt8} {p:Nat} {b:aO} {h:ah} {z dZ:c'} {res:qp} {x:V} {ae:ah} (w:qt s p b (h.new z) res x ae) (dB:Old h b):qt s p b h res x (ae.set (an h.next) dZ):=by
 have dQ:¬(an h.next=b):=by
  intro q;have:dP b<h.next:=dB
  rw [<-q,dk] at this;omega
 obtain ⟨hm,k,n,t,au,U⟩:=w;refine ⟨((((Ext.refl h).new z).mod _).trans hm).fresh (ao1 _) _,k,n,t,au,?_⟩;cases res with
 | ok q=>simpa only [eC,ao_ dQ] using U
 | error e=>simpa only [eC,ao_ dQ] using U
theorem ahO (s:List UInt8) (a0:Nat) (b:aO) (h:ah) (ai:h.get b=gR s a0 0) (aL:a0<s.length) (al:s.length<=100000) (dB:Old h b):
 dW Tryz.prog 36 [.ptr b 0] h (qt s a0 b h (gg (s.drop a0))):=by
 refine Yf.z rfl (cl ?_);unfold NY;have dG:(b=an h.next)=False:=xN dB (ao1 _);have dQ:(an h.next=b)=False:=by rw [<-dG];exact propext aqP
 have jP:=ai;unfold gR at ai;have f0:(0<=(a0:Int))=True:=apk (by omega);have f1:((a0:Int) < (s.length:Int))=True:=apk (by omega);have au:Ext h (h.new (.bc [.int .i64 0,.int .i64 0,.int .i64 0,.str []] 0 false)):=(Ext.refl h).new _;have zk:Old (h.new (.bc [.int .i64 0,.int .i64 0,.int .i64 0,.str []] 0 false)) b:=au.cr dB;have BM:(h.new (.bc [.int .i64 0,.int .i64 0,.int .i64 0,.str []] 0 false)).get b=gR s a0 0:=by rw [au.get _ dB,jP]
 have y8:∀{res:qp} {x:V} {ae:ah},qt s a0 b (h.new (.bc [.int .i64 0,.int .i64 0,.int .i64 0,.str []] 0 false)) res x ae->ae.get (an h.next)=.bc [.int .i64 0,.int .i64 0,.int .i64 0,.str []] 0 false:=by intro res x ae w;rw [w.mod.get _ (jJ (by rw [hV];omega)) (by rw [dQ];exact id)];simp only [↓aa,ad,simprocAttr]
 have a_:=drop_cons aL;rw [a_];have dg:n9 ((s[a0]).toNat:Int)=dU s[a0]:=rfl;have ig:(((s[a0]).toNat:Int)=34)=(s[a0]=34):=lS _ 34 (by omega);have rl:(((s[a0]).toNat:Int)=95)=(s[a0]=95):=lS _ 95 (by omega);have sr:(((s[a0]).toNat:Int)=39)=(s[a0]=39):=lS _ 39 (by omega);simp +contextual only [ai,dG,dQ,f0,f1,ao3 aL,ao8,↓aa,ad,simprocAttr];refine bQ (yS _ _) ?_;rw [dg];cases ae:dU s[a0] with
 | true=>
   have ab:gg (s[a0]::s.drop (a0+1))=qW (s.drop a0):=by rw [a_];simp only [gg,ae,apd]
   rw [ab];simp +contextual only [ai,dG,dQ,f0,f1,ao3 aL,ao8,↓aa,ad,simprocAttr];refine aX (ahU s a0 b _ BM aL al zk ae) ?_;rintro x aG w;have g1:=y8 w;obtain ⟨k,n,t,rfl,_⟩:=w.res;simp +contextual only [g1,ai,dG,dQ,f0,f1,↓aa,ad,simprocAttr];exact w.store dB
 | false=>
   by_cases ag:s[a0]=34
   . have ab:gg (s[a0]::s.drop (a0+1))=mP (s.drop (a0+1)):=by simp only [gg];rw [ao_ (by rw [ae];exact apu),ape ag]
     rw [ab];replace ag:=apk ag;simp +contextual only [ai,dG,dQ,f0,f1,ig,ag,ao3 aL,ao8,↓aa,ad,simprocAttr];refine aX (al3 s a0 b _ BM aL al zk) ?_;rintro x aG w;have g1:=y8 w;obtain ⟨k,n,t,rfl,_⟩:=w.res;simp +contextual only [g1,ai,dG,dQ,f0,f1,↓aa,ad,simprocAttr];exact w.store dB
   simp +contextual only [ai,dG,dQ,f0,f1,ig,ag,ao3 aL,ao8,↓aa,ad,simprocAttr];refine bQ (F1 _ _) ?_;by_cases ar:(lq ((s[a0]).toNat:Int)||decide (s[a0]=95))=true
   . have ab:gg (s[a0]::s.drop (a0+1))=jx 3 (s.drop a0):=by rw [a_];simp only [gg,ae,ag,ar,ao2,apa,apd]
     rw [ab];have fin:rj Tryz.prog 83 [.ptr b 0,.int .i64 3] (some 33) none [] [] (fun _=>.bad) h (fun _ _ _=>True)->True:=fun _=>trivial;cases dC:lq ((s[a0]).toNat:Int) with
     | true=>
       simp +contextual only [ai,dG,dQ,f0,f1,ig,ag,dC,ao3 aL,ao8,↓aa,ad,simprocAttr];refine aX (Fa s a0 3 b _ BM (by omega) al zk) ?_;rintro x aG w;have g1:=y8 w;obtain ⟨k,n,t,rfl,_⟩:=w.res;simp +contextual only [g1,ai,dG,dQ,f0,f1,↓aa,ad,simprocAttr];exact w.store dB
     | false=>
       rw [dC,Bool.false_or,apf] at ar;replace ar:=apk ar;simp +contextual only [ai,dG,dQ,f0,f1,ig,rl,ag,ar,dC,ao3 aL,ao8,↓aa,ad,simprocAttr];refine aX (Fa s a0 3 b _ BM (by omega) al zk) ?_;rintro x aG w;have g1:=y8 w;obtain ⟨k,n,t,rfl,_⟩:=w.res;simp +contextual only [g1,ai,dG,dQ,f0,f1,↓aa,ad,simprocAttr];exact w.store dB
   . have Ei:=ar;rw [Bool.not_eq_true,Bool.or_eq_false_iff,apV] at Ei;obtain ⟨ab4,ab5⟩:=Ei;simp +contextual only [ai,dG,dQ,f0,f1,ig,rl,ag,ab4,ab5,ao3 aL,ao8,↓aa,ad,simprocAttr];refine bQ (PU _ _) ?_;cases aT:k7 ((s[a0]).toNat:Int) with
     | true=>
       have ab:gg (s[a0]::s.drop (a0+1))=jx 4 (s.drop a0):=by rw [a_];simp only [gg,ae,ag,ar,aT,ao2,apa,apd]
       rw [ab];simp +contextual only [ai,dG,dQ,f0,f1,ao3 aL,ao8,↓aa,ad,simprocAttr];refine aX (Fa s a0 4 b _ BM (by omega) al zk) ?_;rintro x aG w;have g1:=y8 w;obtain ⟨k,n,t,rfl,_⟩:=w.res;simp +contextual only [g1,ai,dG,dQ,f0,f1,↓aa,ad,simprocAttr];exact w.store dB
     | false=>
       have b9:IntKind.i64.wrap ((a0:Int)+1)=((a0+1:Nat):Int):=by rw [wrap_i64 (by omega) (by omega)];rfl
       have f2:(0<=((a0+1:Nat):Int))=True:=apk (by omega);by_cases bC:s[a0]=39/\o9 (s.drop (a0+1))
       . have ab:gg (s[a0]::s.drop (a0+1))=(jx 5 (s.drop (a0+1))).map fun q=>(q.1,q.2.1,q.2.2.1,q.2.2.2+1):=by simp only [gg];rw [ao_ (by rw [ae];exact apu),ao_ ag,ao_ ar,ao_ (by rw [aT];exact apu),ape bC]
         rw [ab];obtain ⟨Ej,Ek⟩:=bC;replace Ej:=apk Ej;have a1:a0+1<s.length:=by
          by_cases q:a0+1<s.length
          . exact q
          . rw [apI (by omega)] at Ek;cases Ek
         rw [drop_cons a1] at Ek;have f3:(((a0+1:Nat):Int) < (s.length:Int))=True:=apk (by omega);simp +contextual (maxSteps:=1000000) only [ai,dG,dQ,f0,f1,f2,f3,b9,ig,rl,sr,ag,Ej,ao3 aL,ao3 a1,ao8,↓aa,ad,simprocAttr];refine bQ (F1 _ _) ?_;rw [show lq ((s[a0+1]).toNat:Int)=true from Ek];simp +contextual (maxSteps:=1000000) only [ai,dG,dQ,f0,f1,f2,f3,b9,ig,rl,sr,ag,Ej,ao3 aL,ao3 a1,ao8,↓aa,ad,simprocAttr];have Qr:Mod (fun q=>q=b) (h.new (.bc [.int .i64 0,.int .i64 0,.int .i64 0,.str []] 0 false)) ((h.new (.bc [.int .i64 0,.int .i64 0,.int .i64 0,.str []] 0 false)).set b (.bc [.str s,.int .i64 ((a0+1:Nat):Int),.int .i64 0] 0 false)):=(Mod.refl _ _).self _;refine aX (Fa s (a0+1) 5 b _ (by rw [eC,ape rfl];rfl) (by omega) al (Qr.cr zk)) ?_;rintro x aG w;have w':qt s a0 b (h.new (.bc [.int .i64 0,.int .i64 0,.int .i64 0,.str []] 0 false)) ((jx 5 (s.drop (a0+1))).map fun q=>(q.1,q.2.1,q.2.2.1,q.2.2.2+1)) x aG:=by
          obtain ⟨amO,k,n,t,am3,wr⟩:=w;refine ⟨Qr.trans amO,k,n,t,am3,?_⟩;cases aF:jx 5 (s.drop (a0+1)) with
          | error e=>rw [aF] at wr;exact wr
          | ok q=>
            rw [aF] at wr;obtain ⟨cL,bf,bU,cU,b4⟩:=wr;refine ⟨cL,bf,bU,?_,?_⟩
            . rw [cU];show gR s ((a0+1+q.2.2.2:Nat):Int) 0=gR s ((a0 + (q.2.2.2+1):Nat):Int) 0;rw [show a0+1+q.2.2.2=a0 + (q.2.2.2+1) from by omega]
            . show a0 + (q.2.2.2+1)<=s.length;omega
         have g1:=y8 w';obtain ⟨k,n,t,rfl,_⟩:=w'.res;simp +contextual only [g1,ai,dG,dQ,f0,f1,↓aa,ad,simprocAttr];exact w'.store dB
       . have ab:gg (s[a0]::s.drop (a0+1))=pA (s.drop a0):=by rw [a_];simp only [gg];rw [ao_ (by rw [ae];exact apu),ao_ ag,ao_ ar,ao_ (by rw [aT];exact apu),ao_ bC]
         rw [ab];have acz:((s[a0]=39)=False)\/(((s[a0]=39)=True)/\¬a0+1<s.length)\/(((s[a0]=39)=True)/\∃a1:a0+1<s.length,lq ((s[a0+1]).toNat:Int)=false):=by
          by_cases q:s[a0]=39
          . by_cases a1:a0+1<s.length
            . refine .inr (.inr ⟨apk q,a1,?_⟩);cases aI:lq ((s[a0+1]).toNat:Int) with
              | false=>rfl
              | true=>exact absurd ⟨q,by rw [drop_cons a1];exact aI⟩ bC
            . exact .inr (.inl ⟨apk q,a1⟩)
          . exact .inl (apl q)
         have two:∀t ∈ gG,t.length<=2:=by decide
         have sg:((17:Nat):Int)=17:=rfl;rcases acz with ao | ⟨ao,av⟩ | ⟨ao,a1,av⟩
         case' neg.inl=>
          simp +contextual (maxSteps:=1000000) only [ai,dG,dQ,f0,f1,f2,b9,ig,rl,sr,ag,ao,ao3 aL,ao8,↓aa,ad,simprocAttr]
         case' neg.inr.inl=>
          have f3:(((a0+1:Nat):Int) < (s.length:Int))=False:=apl (by omega);simp +contextual (maxSteps:=1000000) only [ai,dG,dQ,f0,f1,f2,f3,b9,ig,rl,sr,ag,ao,ao3 aL,ao8,↓aa,ad,simprocAttr]
         case' neg.inr.inr=>
          have f3:(((a0+1:Nat):Int) < (s.length:Int))=True:=apk (by omega);simp +contextual (maxSteps:=1000000) only [ai,dG,dQ,f0,f1,f2,f3,b9,ig,rl,sr,ag,ao,ao3 aL,ao3 a1,ao8,↓aa,ad,simprocAttr];refine bQ (F1 _ _) ?_;rw [av];simp +contextual (maxSteps:=1000000) only [ai,dG,dQ,f0,f1,f2,f3,b9,ig,rl,sr,ag,ao,ao3 aL,ao3 a1,ao8,↓aa,ad,simprocAttr]
         all_goals
          refine aX (alq _) ?_;rintro x aG ⟨rfl,rfl⟩;simp +contextual only [↓aa,ad,simprocAttr]
          refine gf (fun r af=>r 0=.ptr b 0/\r 2=.ptr (an h.next) 0/\r 77=.slice (an (h.next+1)) 0 17 17/\r 78=.int .i64 17/\∃i:Nat,i<=17/\r 79=.int .i64 i/\af=(h.new (.bc [.int .i64 0,.int .i64 0,.int .i64 0,.str []] 0 false)).new (.bc Al 0 false)/\
           gG.find? (·.isPrefixOf (s.drop a0))=(gG.drop i).find? (·.isPrefixOf (s.drop a0))) (fun r af=>17 - (r 79).toN) ?_ ?_
          . exact ⟨by simp only [↓aa,ad,simprocAttr],by simp only [↓aa,ad,simprocAttr],by simp only [↓aa,ad,simprocAttr],by simp only [sg,↓aa,ad,simprocAttr],0,by omega,by simp only [↓aa,ad,simprocAttr]<;>rfl,rfl,rfl⟩
          . rintro r af ⟨aW,bf,FE,FF,i,aM,FG,rfl,oc⟩;have Qt:Old ((h.new (.bc [.int .i64 0,.int .i64 0,.int .i64 0,.str []] 0 false)).new (.bc Al 0 false)) b:=(au.new _).cr dB;have mA:((h.new (.bc [.int .i64 0,.int .i64 0,.int .i64 0,.str []] 0 false)).new (.bc Al 0 false)).get b=.bc [.str s,.int .i64 a0,.int .i64 0] 0 false:=by rw [(au.new _).get _ dB,ai]
            have sT:(b=an (h.next+1))=False:=xN dB (by omega);have u4:(an (h.next+1)=b)=False:=by rw [<-sT];exact propext aqP
            by_cases kN:i<17
            . have g0:((i:Int)<17)=True:=apk (by omega);have g1:(0<=(i:Int))=True:=apk (by omega);rw [PF _ kN] at oc;have hlen:=two _ (ap8 (h:=(show i<gG.length from kN)));simp +contextual only [sg,aW,bf,FE,FF,FG,g0,g1,dG,dQ,sT,u4,ao8,aqO,alo kN,↓aa,ad,simprocAttr];refine bQ (Ij s _ (a0:Int) [.int .i64 0] b 0 false _ mA (by omega) (by omega)) ?_;rw [ao8];cases lC:(gG[i]'kN).isPrefixOf (s.drop a0) with
              | true=>
                rw [lC,ape rfl] at oc;have nI:(gG[i]'kN).length<=s.length-a0:=by rw [apN] at lC;have:=lC.length_le;rwa [apr] at this
                have eI:IntKind.i64.wrap ((a0:Int) + ((gG[i]'kN).length:Int))=((a0 + (gG[i]'kN).length:Nat):Int):=by rw [wrap_i64 (by omega) (by omega)];rfl
                simp +contextual only [sg,aW,bf,FE,FF,FG,g0,g1,eI,dG,dQ,sT,u4,ai,↓aa,ad,simprocAttr];unfold pA;rw [oc];refine ⟨(((au.new _).mod _).self _).fresh (ao1 _) _,_,_,_,rfl,rfl,rfl,rfl,?_,by show a0 + (gG[i]'kN).length<=s.length;omega⟩;simp only [gR,dG,dQ,↓aa,ad,simprocAttr]
              | false=>
                rw [lC,ao_ apu] at oc;have eI:IntKind.i64.wrap ((i:Int)+1)=((i+1:Nat):Int):=by rw [wrap_i64 (by omega) (by omega)];rfl
                simp +contextual only [sg,aW,bf,FE,FF,FG,g0,g1,eI,dG,dQ,sT,u4,ai,↓aa,ad,simprocAttr];exact ⟨⟨i+1,by omega,rfl,oc⟩,by omega⟩
            . obtain rfl:i=17:=by omega
              have fb:gG.find? (·.isPrefixOf (s.drop a0))=none:=by rw [oc];rfl
              have g0:((17:Int)<17)=False:=apl (by omega);simp +contextual only [sg,aW,bf,FE,FF,FG,g0,mA,dG,dQ,sT,u4,ai,↓aa,ad,simprocAttr];unfold pA;rw [fb];refine ⟨(((au.new _).mod _).self _).fresh (ao1 _) _,_,_,_,rfl,by decide,(a0:Int),?_⟩;simp only [gR,dG,dQ,↓aa,ad,simprocAttr]
theorem H5 (s:List UInt8) (i:Nat):(ByteArray.mk ⟨s⟩).get! i=(s[i]?).getD 0:=by show (Array.mk s)[i]! =_;simp;rfl
theorem aai (s:List UInt8) (a:Nat):Lib.decodeGo ⟨⟨s.drop a⟩⟩=if a<s.length then decodeL s a else (65533,0):=by
 unfold Lib.decodeGo decodeL;have bN:(ByteArray.mk ⟨s.drop a⟩).size=s.length-a:=by show (s.drop a).length=_;rw [apr]
 have oj:(ByteArray.mk ⟨s⟩).size=s.length:=rfl;by_cases b1:a<s.length
 . rw [ape b1,ao_ (by rw [bN];omega),Lib.decode_at,Lib.decode_at,bN,oj];simp only [H5,ap5,ap_,aqM,apH]
 . rw [ao_ b1,ape (by rw [bN];omega)]
theorem ahM {h:ah} {b:aO} {s:List UInt8} {a:Nat} (ay:h.get b=.iter s a):
 xO (.ptr b 0) h=if a<s.length then .val (.tuple [.bool true,.int .i64 a,.int .i32 (decodeL s a).1]) (h.set b (.iter s (a + (decodeL s a).2))) else .val (.tuple [.bool false]) h:=by
 unfold xO;simp only [V.lK,ay];rw [show Nat.beq 0 0=true from rfl];simp only [apc];by_cases b1:a<s.length
 . rw [ape b1,show Nat.blt a s.length=true from by rw [apG];exact b1];rfl
 . rw [ao_ b1,show Nat.blt a s.length=false from by rw [<-Bool.not_eq_true,apG];exact b1];rfl
def aeB (s:List UInt8):c'->Nat
 | .iter _ a=>s.length-a
 | _=>0
theorem aag (s:List UInt8) (a:Nat):1<=(decodeL s a).2:=by
 unfold decodeL;rw [Lib.decode_at];unfold Lib.decodeN
 repeat' split
 all_goals simp
theorem akS (s:List UInt8) (al:s.length<=100000) (h:ah):dW Tryz.prog 32 [.str s] h fun x af=>x=.int .i64 (qa s:Nat)/\Ext h af:=by
 refine Yb.z rfl (cl ?_);unfold NV;simp only [↓aa,ad,simprocAttr];refine gf (fun r af=>r 0=.str s/\r 8=.ptr (an h.next) 0/\Ext h af/\∃a,af.get (an h.next)=.iter s a/\qa s=r3 s a) (fun r af=>aeB s (af.get (an h.next))) ?_ ?_
 . exact ⟨by simp only [↓aa,ad,simprocAttr],by simp only [↓aa,ad,simprocAttr],(Ext.refl h).new _,0,by simp only [↓aa,ad,simprocAttr],rfl⟩
 . rintro r af ⟨aW,hd,au,a,ay,b1⟩;have j9:=ahM ay;by_cases a1:a<s.length
   . rw [ape a1] at j9;have aG:=aag s a;by_cases ax:(decodeL s a).1=65533
     . have rF:(((decodeL s a).1:Int)=65533)=True:=apk (by omega);have f0:(0<=(a:Int))=True:=apk (by omega);have f1:((a:Int)<=(s.length:Int))=True:=apk (by omega);simp only [aW,hd,j9,rF,f0,f1,ao8,↓aa,ad,simprocAttr];refine bQ (aah _ _) ?_;rw [aai,ape a1];by_cases hw:(decodeL s a).2=1
       . have Ce:(((decodeL s a).2:Int)=1)=True:=apk (by omega);have tI:kp s a=0:=by unfold kp;rw [ape (Prod.ext ax hw)]
         rw [SZ a1 tI] at b1;simp only [aW,hd,j9,rF,Ce,f0,f1,ao8,↓aa,ad,simprocAttr];rw [b1];exact ⟨rfl,au.set (ao1 _) _⟩
       . have Ce:(((decodeL s a).2:Int)=1)=False:=apl (by omega);have tI:kp s a=(decodeL s a).2:=by unfold kp;rw [ao_ (fun q=>hw (congrArg Prod.snd q))]
         rw [FN a1 (by rw [tI];omega),tI] at b1;simp only [aW,hd,j9,rF,Ce,f0,f1,ao8,↓aa,ad,simprocAttr];refine ⟨⟨au.set (ao1 _) _,_,rfl,b1⟩,?_⟩;rw [ay];show s.length - (a + (decodeL s a).2)<s.length-a;omega
     . have rF:(((decodeL s a).1:Int)=65533)=False:=apl (by omega);have tI:kp s a=(decodeL s a).2:=by unfold kp;rw [ao_ (fun q=>ax (congrArg Prod.fst q))]
       rw [FN a1 (by rw [tI];omega),tI] at b1;simp only [aW,hd,j9,rF,ao8,↓aa,ad,simprocAttr];refine ⟨⟨au.set (ao1 _) _,_,rfl,b1⟩,?_⟩;rw [ay];show s.length - (a + (decodeL s a).2)<s.length-a;omega
   . rw [ao_ a1] at j9;rw [KS (by omega)] at b1;simp only [aW,hd,j9,ao8,↓aa,ad,simprocAttr];rw [b1];exact ⟨rfl,au⟩
end
section
open Go bg
set_option maxRecDepth 100000
theorem V4 {s:List UInt8} (h:∀c ∈ s,c.toNat<128):qa s=s.length:=by
 have ax:∀a,a<s.length->kp s a=1:=by
  intro a b1;have a_:decodeL s a=((s[a]).toNat,1):=by unfold decodeL;rw [Lib.decode_at];simp only [H5,ao3 b1,aqr];unfold Lib.decodeN;rw [ape (h _ (ap8 b1))]
  unfold kp;rw [a_,ao_ (by have:=h _ (ap8 b1);simp only [apX,and_true];omega)]
 have:∀n a,s.length-a=n->a<=s.length->r3 s a=s.length:=by
  intro n
  induction n with
  | zero=>intro a ae ag;exact KS (by omega)
  | succ n b6=>
    intro a ae ag;have a1:a<s.length:=by omega
    rw [FN a1 (by rw [ax a a1];decide),ax a a1];exact b6 _ (by omega) (by omega)
 exact this s.length 0 (by omega) (by omega)
theorem Rq {s:List UInt8} (h:∀c ∈ s,c.toNat<128):iS s=if 65536<s.length then .error (3,0) else l' s 0:=by unfold iS;rw [V4 h,ao_ (aqJ _)]
theorem Kb:∀(m p:Nat),(me m p).length=m
 | 0,p=>rfl
 | m+1,p=>by rw [me,ao9,Kb]
theorem TE (m:Nat):(oC m).length=2 * m+12:=by simp only [oC,apb,ao9,aph,aqf];omega
theorem TF (m:Nat):(oD m).length=2 * m+21:=by simp only [oD,apb,ao9,aph,aqf];omega
theorem agY {m:Nat} (hm:m<=1010):iS (oC m)=.ok (oF m):=by
 rw [Rq (fun c h=>by
  simp only [oC,aqL,apy,List.mem_replicate,List.not_mem_nil,or_false] at h
  rcases h with (h | h | h | h) | h | h | h | h | h | h | h | h | h | h<;>first | (rw [h];decide) | (rw [h.2];decide)),ao_ (by rw [TE];omega)]
 unfold l';rw [TE,show 2 * m+12=2 + (m + (1 + (m + (7+2)))) from by omega];exact agW m 2
theorem agZ {m:Nat} (hm:m<=1010):iS (oD m)=.ok (oG m):=by
 rw [Rq (fun c h=>by
  simp only [oD,aqL,apy,List.mem_replicate,List.not_mem_nil,or_false] at h
  rcases h with (h | h | h | h | h | h | h | h | h | h | h | h | h | h | h) | h | h | h | h | h | h | h | h<;>first | (rw [h];decide) | (rw [h.2];decide)),ao_ (by rw [TF];omega)]
 unfold l';rw [TF,show 2 * m+21=6 + (m + (1 + (m + (3+11)))) from by omega];exact agX m 11
theorem ald (ab n q p:Nat):(aU ab (n+40)).seq 0 [⟨1,1,q,[]⟩,eU p j0]=.ok (.mk 20 1 q [] [],[eU p j0]):=by kernel_rfl
theorem aab (ab n k m:Nat) (aF:3 * m+50<=n):∃e:Nat,kK ab (aU ab n) k (oF m)=if m<1000 then .ok (.mk 52 0 0 [] [.mk 10 0 (4+m:Nat) [] [],.mk 20 1 (4+m+1+m+3:Nat) [] []],[eU (4+m+1+m+5) j0]) else .error (271,e):=by
 obtain ⟨e,b6⟩:=Sl (ab:=ab) [eU (4+m+1+m+1) gQ,⟨1,1,4+m+1+m+3,[]⟩,eU (4+m+1+m+5) j0] (by simp [pz,hh,gQ]) m 0 n 4 (4+m) (4+m+1) (by omega);refine ⟨e,?_⟩;unfold oF;generalize rB:me m 4++(eU (4+m) iW::(kn m (4+m+1)++[eU (4+m+1+m+1) gQ,⟨1,1,4+m+1+m+3,[]⟩,eU (4+m+1+m+5) j0]))=I at b6;have U:bb oo I=false:=by rw [<-rB];cases m<;>simp [me,pz,e9,iW,oo]
 have ae:kK ab (aU ab n) k (⟨6,0,0,pk⟩::I)=if bb oo I=true then ((aU ab n).binds 0 [] I.tail >>= fun z=>.ok (.mk 53 0 0 [] z.1,z.2)) else ((aU ab n).pat 0 I >>= fun z=>ec ab gQ z.2 >>= fun w=>(aU ab n).seq 0 w >>= fun b=>.ok (.mk 52 0 0 [] [z.1,b.1],b.2)):=rfl;rw [ae,U,ao_ (by decide),b6,apH];by_cases hm:m<1000
 . rw [ape hm,ape hm];show (ec ab gQ (eU (4+m+1+m+1) gQ::[⟨1,1,4+m+1+m+3,[]⟩,eU (4+m+1+m+5) j0]) >>= fun w=>(aU ab n).seq 0 w >>= fun b=>Except.ok (aN.mk 52 0 0 [] [aN.mk 10 0 (4+m:Nat) [] [],b.1],b.2))=_;rw [zT];show ((aU ab n).seq 0 [⟨1,1,4+m+1+m+3,[]⟩,eU (4+m+1+m+5) j0] >>= fun b=>Except.ok (aN.mk 52 0 0 [] [aN.mk 10 0 (4+m:Nat) [] [],b.1],b.2))=_;rw [show n=(n-40)+40 from by omega,ald];rfl
 . rw [ao_ hm,ao_ hm];rfl
theorem aac (ab n k m:Nat) (aF:4 * m+50<=n):∃e:Nat,kK ab (aU ab n) k (oG m)=if m<1000 then .ok (.mk 51 0 0 [69] [.mk 2 0 (15+m:Nat) [105,110,116] []],[eU (15+m+3+m+1) j0]) else .error (271,e):=by
 obtain ⟨e,b6⟩:=TG (ab:=ab) [eU (15+m+3+m+1) j0] (by simp [pz,jY,j0]) (by simp [pz,kW,j0]) (by simp [pz,hh,j0]) (by simp [zG]) m 0 n 15 (15+m) (15+m+3) (by omega);refine ⟨e,?_⟩;unfold oG;generalize me m 15++(⟨3,0,15+m,[105,110,116]⟩::(kn m (15+m+3)++[eU (15+m+3+m+1) j0]))=I at b6;have ae:kK ab (aU ab n) k (⟨6,0,0,sM⟩::⟨4,0,10,[69]⟩::⟨6,0,12,qM⟩::I)=((aU ab n).ty 0 I >>= fun z=>.ok (.mk 51 0 0 [69] [z.1],z.2)):=by have ag:ko ab (aU ab n) 51 (⟨4,0,10,[69]⟩::⟨6,0,12,qM⟩::I)=((aU ab n).ty 0 I >>= fun z=>.ok (.mk 51 0 (10:Nat) [69] [z.1],z.2)):=rfl;have ar:kK ab (aU ab n) k (⟨6,0,0,sM⟩::⟨4,0,10,[69]⟩::⟨6,0,12,qM⟩::I)=(ko ab (aU ab n) 51 (⟨4,0,10,[69]⟩::⟨6,0,12,qM⟩::I) >>= fun c=>.ok (.mk c.1.k c.1.n 0 c.1.s c.1.l,c.2)):=rfl;rw [ar,ag];cases (aU ab n).ty 0 I<;>rfl
 rw [ae,b6,apH];by_cases hm:m<1000
 . rw [ape hm,ape hm];rfl
 . rw [ao_ hm,ao_ hm];rfl
theorem OU {ab n:Nat} {p:aN} {q:Nat} (a_:p.deep<=200):∀{k:Nat} {ws:List aq},ws≠[]->kK ab (aU ab n) (k+1) ws=.ok (p,[eU q j0])->mr ab (aU ab n) (k+2) [] ws=.ok [p]:=by intro k ws hw h;rw [mr,ao_ hw,h];show (if 200<p.deep then _ else (ec ab j0 [eU q j0] >>= fun w=>mr ab (aU ab n) (k+1) [p] w))=_;rw [ao_ (by omega),zT];rfl
theorem OV {ab n:Nat} {e:Int × Nat}:∀{k:Nat} {ws:List aq},ws≠[]->kK ab (aU ab n) (k+1) ws=.error e->mr ab (aU ab n) (k+2) [] ws=.error e:=by intro k ws hw h;rw [mr,ao_ hw,h];rfl
theorem am1 (m:Nat):(oF m).length=2 * m+5:=by
 have:=Kb m 4;have ag:∀(m q:Nat),(kn m q).length=m:=fun m=>by
  induction m with
  | zero=>intro q;rfl
  | succ m b6=>intro q;rw [kn,ao9,b6]
 simp only [oF,apb,ao9,aph,this,ag];omega
theorem am2 (m:Nat):(oG m).length=2 * m+5:=by
 have:=Kb m 15;have ag:∀(m q:Nat),(kn m q).length=m:=fun m=>by
  induction m with
  | zero=>intro q;rfl
  | succ m b6=>intro q;rw [kn,ao9,b6]
 simp only [oG,apb,ao9,aph,this,ag];omega
theorem ajF {m:Nat} (hm:m<=1010):∃p,∃e:Nat,lo (oC m)=if m<1000 then .ok [p] else .error (271,e):=by
 obtain ⟨e,h⟩:=aab (oC m).length (ha (oF m)) (ha (oF m)-1) m (by unfold ha;rw [am1];omega);unfold lo;rw [agY hm];dsimp only;have aF:oF m≠[]:=by unfold oF;simp
 have aD:ha (oF m)=(ha (oF m)-2)+2:=by unfold ha;omega
 have zg:ha (oF m)-1=(ha (oF m)-2)+1:=by unfold ha;omega
 rw [zg] at h;generalize ha (oF m)-2=k at h aD;by_cases a1:m<1000
 . rw [ape a1] at h;simp only [a1,apd];have z:=OU (by simp only [aN.deep,kC];omega) aF h;rw [<-aD] at z;exact ⟨_,0,z⟩
 . rw [ao_ a1] at h;simp only [a1,apa];refine ⟨.mk 0 0 0 [] [],e,?_⟩
   conv=>lhs;arg 3;rw [aD]
   exact OV aF h
theorem ajG {m:Nat} (hm:m<=1010):∃p,∃e:Nat,lo (oD m)=if m<1000 then .ok [p] else .error (271,e):=by
 obtain ⟨e,h⟩:=aac (oD m).length (ha (oG m)) (ha (oG m)-1) m (by unfold ha;rw [am2];omega);unfold lo;rw [agZ hm];dsimp only;have aF:oG m≠[]:=by unfold oG;simp
 have aD:ha (oG m)=(ha (oG m)-2)+2:=by unfold ha;omega
 have zg:ha (oG m)-1=(ha (oG m)-2)+1:=by unfold ha;omega
 rw [zg] at h;generalize ha (oG m)-2=k at h aD;by_cases a1:m<1000
 . rw [ape a1] at h;simp only [a1,apd];have z:=OU (by simp only [aN.deep,kC];omega) aF h;rw [<-aD] at z;exact ⟨_,0,z⟩
 . rw [ao_ a1] at h;simp only [a1,apa];refine ⟨.mk 0 0 0 [] [],e,?_⟩
   conv=>lhs;arg 3;rw [aD]
   exact OV aF h
end
section
open Go bg
def aq.enc (w:aq):List V:=[.int .i64 w.kind,.int .i64 w.num,.int .i64 w.pos,.str w.text]
def gZ:List aq->List V
 | []=>[]
 | w::ws=>w.enc++gZ ws
theorem Lt:∀a b:List aq,gZ (a++b)=gZ a++gZ b
 | [],b=>rfl
 | w::a,b=>by simp only [gZ,apm,Lt a b,apK]
theorem Lu:∀a:List aq,(gZ a).length=a.length * 4
 | []=>rfl
 | w::a=>by simp only [gZ,apb,Lu a,ao9,aq.enc,aph];omega
def Aa (ws:List aq):Except (Int × Nat) (List aq)->Except (Int × Nat) (List aq)
 | .ok aQ=>.ok (ws++aQ)
 | .error e=>.error e
theorem Kx (ws:List aq) (w:aq) (r:Except (Int × Nat) (List aq)):Aa ws (oX w r)=Aa (ws++[w]) r:=by
 cases r with
 | ok aQ=>simp [Aa,oX]
 | error e=>rfl
theorem Sw (r:Except (Int × Nat) (List aq)):Aa [] r=r:=by cases r<;>rfl
def Gz (s:List UInt8) (h:ah) (x:V) (af:ah):Prop:=Ext h af/\match iS s with
 | .ok ws=>∃v,x=.tuple [v,.agg [.int .i64 0,.int .i64 0]]/\dK h.next af 4 v ws.length (gZ ws)
 | .error e=>x=.tuple [.cS,.agg [.int .i64 e.1,.int .i64 e.2]]
theorem MA (c:UInt8):(0<=Lib.indexByte [9,10,13,32] c)=(blank c=true):=by
 have aL:∀d:UInt8,(d == c)=decide (c=d):=fun d=>by
  by_cases q:c=d
  . subst q;simp
  . have gi:¬d=c:=fun e=>q e.symm;simp [q,gi]
 simp only [Lib.indexByte,aL,blank];by_cases ae:c=9
 . subst ae;decide
 . by_cases ag:c=10
   . subst ag;decide
   . by_cases ar:c=13
     . subst ar;decide
     . by_cases aT:c=32
       . subst aT;decide
       . simp [ae,ag,ar,aT]
theorem ag2 (s:List UInt8) (h:ah):dW Tryz.prog 13 [.str s] h (Gz s h):=by
 refine Xl.z rfl (cl ?_);unfold M';by_cases pc:(65536:Int) < (s.length:Int)
 . simp only [pc,↓aa,ad,simprocAttr];refine ⟨((Ext.refl h).new _).set (ao1 _) _,?_⟩;unfold iS;rw [ape (by omega)];rfl
 simp only [pc,↓aa,ad,simprocAttr];refine aX (akS s (by omega) _) ?_;rintro x ae ⟨rfl,kv⟩;have au:Ext h (h.new (.bc [.int .i64 0,.int .i64 0] 0 false)):=(Ext.refl h).new _;have xr:=au.trans kv;have g1:ae.get (an h.next)=.bc [.int .i64 0,.int .i64 0] 0 false:=by rw [kv.get _ (jJ (by rw [hV];omega))];simp only [↓aa,ad,simprocAttr]
 have Fj:h.next+1<=ae.next:=kv.next
 have jS:(an ae.next=an h.next)=False:=by rw [lN];exact apl (by omega)
 have fZ:(an h.next=an ae.next)=False:=by rw [lN];exact apl (by omega)
 have p5:(ae.next=h.next)=False:=apl (by omega);have p6:(h.next=ae.next)=False:=apl (by omega);have hlen:¬65536<s.length:=by omega
 by_cases U:qa s<s.length
 . have qF:((qa s:Int) < (s.length:Int))=True:=apk (by omega);simp only [qF,g1,jS,fZ,p5,p6,↓aa,ad,simprocAttr];refine ⟨xr.set (ao1 _) _,?_⟩;unfold iS;rw [ao_ hlen,ape U]
 have qF:((qa s:Int) < (s.length:Int))=False:=apl (by omega);have l7:iS s=l' s 0:=by unfold iS;rw [ao_ hlen,ao_ U]
 simp only [qF,g1,jS,fZ,p5,p6,↓aa,ad,simprocAttr];have xt:Ext h (ae.new (.bc [.str s,.int .i64 0,.int .i64 0] 0 false)):=xr.new _
 refine gf (fun r af=>r 0=.str s/\r 3=.ptr (an h.next) 0/\r 5=.ptr (an ae.next) 0/\∃(a:Nat) (ws:List aq) (v:V),r 6=v/\af.get (an ae.next)=.bc [.str s,.int .i64 a,.int .i64 0] 0 false/\a<=s.length/\ws.length<=a/\
  af.get (an h.next)=.bc [.int .i64 0,.int .i64 0] 0 false/\Ext h af/\ae.next+1<=af.next/\dK (ae.next+1) af 4 v ws.length (gZ ws)/\iS s=Aa ws (l' (s.drop a) a))
  (fun r af=>s.length - ((hc (af.get (an ae.next)) 1).getD .bad).toN) ?_ ?_
 . refine ⟨by simp only [↓aa,ad,simprocAttr],by simp only [↓aa,ad,simprocAttr],by simp only [↓aa,ad,simprocAttr],0,[],.cS,by simp only [↓aa,ad,simprocAttr],by simp only [↓aa,ad,simprocAttr]<;>rfl,by omega,by simp,by simp only [g1,jS,p5,fZ,p6,↓aa,ad,simprocAttr],xt,?_,⟨rfl,rfl⟩,?_⟩
   . rw [hV];exact ao1 _
   . rw [l7,apT,Sw]
 . rintro r af ⟨aW,bU,b4,a,ws,v,ea,ay,dr,kw,bN,t',j9,dR,br⟩;have dB:Old af (an ae.next):=jJ (by omega);by_cases fF:(s.length:Int)<=(a:Int)
   . have b1:a=s.length:=by omega
     have ady:iS s=.ok ws:=by rw [br,b1,aqw];show Except.ok (ws++[])=_;rw [apo]
     simp only [aW,bU,b4,ea,ay,bN,fF,jS,fZ,p5,p6,↓aa,ad,simprocAttr];refine ⟨t'.set (ao1 _) _,?_⟩;rw [ady];refine ⟨v,rfl,?_⟩;have:=dR.mod ((Mod.refl (fun q=>q=an h.next) af).self (.bc [.int .i64 0,.int .i64 0] 0 false)) (fun q aI e=>by have ag:=dR.base aI;rw [show q=an h.next from e,dk] at ag;omega);exact this.mono (by omega)
   . have a1:a<s.length:=by omega
     rw [drop_cons a1,JF,<-drop_cons a1] at br;have f0:(0<=(a:Int))=True:=apk (by omega);have f1:((a:Int) < (s.length:Int))=True:=apk (by omega);have b9:IntKind.i64.wrap ((a:Int)+1)=((a+1:Nat):Int):=by rw [wrap_i64 (by omega) (by omega)];rfl
     simp only [aW,bU,b4,ea,ay,bN,fF,jS,fZ,p5,p6,f0,f1,ao3 a1,ao8,↓aa,ad,simprocAttr];refine bQ (QT _ _ _) ?_;rw [TJ];by_cases rE:blank s[a]=true
     . have tH:(0<=Lib.indexByte [9,10,13,32] s[a])=True:=by rw [MA,rE];exact eq_self _
       rw [ape rE] at br;simp only [tH,b9,aW,bU,b4,ea,ay,bN,fF,jS,fZ,p5,p6,f0,f1,ao3 a1,ao8,↓aa,ad,simprocAttr];refine ⟨⟨a+1,ws,rfl,by omega,by omega,t'.set (by omega) _,j9,?_,br⟩,by omega⟩;exact dR.mod ((Mod.refl (fun q=>q=an ae.next) af).self _) (fun q aI e=>by have ag:=dR.base aI;rw [show q=an ae.next from e,dk] at ag;omega)
     . have tH:(0<=Lib.indexByte [9,10,13,32] s[a])=False:=by rw [MA];exact apl rE
       rw [ao_ rE] at br;simp only [tH,b9,aW,bU,b4,ea,ay,bN,fF,jS,fZ,p5,p6,f0,f1,ao3 a1,ao8,↓aa,ad,simprocAttr];have rP:=Ij s [40,42] (a:Int) [.int .i64 0] (an ae.next) 0 false af ay (by omega) (by omega);rw [ao8] at rP;refine bQ rP ?_;cases lC:([40,42]:List UInt8).isPrefixOf (s.drop a) with
       | true=>
         rw [lC,ape rfl] at br;simp only [b9,aW,bU,b4,ea,ay,bN,fF,jS,fZ,p5,p6,f0,f1,ao3 a1,ao8,↓aa,ad,simprocAttr];refine aX (ahS s a 0 (an ae.next) af ay dr (by omega) dB) ?_;rintro x ag ⟨rfl,hm,aF⟩;have oj:ag.get (an h.next)=.bc [.int .i64 0,.int .i64 0] 0 false:=by rw [hm.get _ (jJ (by omega)) (by rw [fZ];exact id),bN]
         have xu:Ext h ag:=t'.lg hm (fun b ai=>by rw [show b=an ae.next from ai,dk];omega);have sW:=hm.next
         have hA:=dR.mod hm (fun q aI e=>by have ag:=dR.base aI;rw [show q=an ae.next from e,dk] at ag;omega);cases xh:ht (s.drop a) 0 with
         | some n=>
           rw [xh] at aF br;obtain ⟨g2,hle⟩:=aF;have tT:=CL xh;unfold gR at g2;simp only [b9,aW,bU,b4,ea,g2,ay,oj,fF,jS,fZ,p5,p6,f0,f1,ao3 a1,ao8,↓aa,ad,simprocAttr];refine ⟨⟨a+n,ws,rfl,hle,by omega,xu,by omega,hA,?_⟩,by omega⟩;rw [br];simp only [ap0]
         | none=>
           rw [xh] at aF br;unfold gR at aF;simp only [b9,aW,bU,b4,ea,aF,ay,oj,fF,jS,fZ,p5,p6,f0,f1,ao3 a1,ao8,↓aa,ad,simprocAttr];refine ⟨xu.set (ao1 _) _,?_⟩;rw [br];rfl
       | false=>
         rw [lC,ao_ apu] at br;simp only [b9,aW,bU,b4,ea,ay,bN,fF,jS,fZ,p5,p6,f0,f1,ao3 a1,ao8,↓aa,ad,simprocAttr];refine aX (ahO s a (an ae.next) af ay a1 (by omega) dB) ?_;rintro x ag w;obtain ⟨hm,k,n,t,rfl,a8⟩:=w;have oj:ag.get (an h.next)=.bc [.int .i64 0,.int .i64 0] 0 false:=by rw [hm.get _ (jJ (by omega)) (by rw [fZ];exact id),bN]
         have xu:Ext h ag:=t'.lg hm (fun b ai=>by rw [show b=an ae.next from ai,dk];omega);have sW:=hm.next
         have hA:=dR.mod hm (fun q aI e=>by have ag:=dR.base aI;rw [show q=an ae.next from e,dk] at ag;omega);have m0:(an ag.next=an h.next)=False:=by rw [lN];exact apl (by omega)
         have m1:(an ag.next=an ae.next)=False:=by rw [lN];exact apl (by omega)
         have RA:(ag.next=h.next)=False:=apl (by omega);have RB:(ag.next=ae.next)=False:=apl (by omega);have ES:Ext ag (((ag.new (.bc [.int .i64 0,.int .i64 0,.int .i64 0,.str []] 0 false)).set (an ag.next) (.bc [.int .i64 k,.int .i64 n,.int .i64 0,.str t] 0 false)).set (an ag.next) (.bc [.int .i64 k,.int .i64 n,.int .i64 a,.str t] 0 false)):=(((Ext.refl ag).new _).set (ao1 _) _).set (ao1 _) _;obtain ⟨v3,ar,ao,av,aC,bs,ca⟩:=A3 (cs:=[.int .i64 k,.int .i64 n,.int .i64 a,.str t]) (by omega) (hA.ext ES) (by simp only [iT,hV];omega) (by unfold top;omega) rfl rfl;simp only [iT,hV] at ao bs;have QN:Ext h ar:=(xu.trans ES).lg aC (fun b ai=>ao6 (by omega) (hA.base ai));have vu:ar.get (an h.next)=.bc [.int .i64 0,.int .i64 0] 0 false:=by rw [aC.get _ (jJ (by simp only [iT,hV];omega)) (fun aI=>by have:=hA.base aI;rw [dk] at this;omega),ES.get _ (jJ (by omega)),oj]
         have kt:ar.get (an ae.next)=ag.get (an ae.next):=by rw [aC.get _ (jJ (by simp only [iT,hV];omega)) (fun aI=>by have:=hA.base aI;rw [dk] at this;omega),ES.get _ (jJ (by omega))]
         cases j9:gg (s.drop a) with
         | ok q=>
           have tT:=CJ j9;rw [j9] at a8 br;obtain ⟨rfl,rfl,rfl,g2,hle⟩:=a8;unfold gR at g2;rw [g2] at kt;simp only [ao,m0,m1,RA,RB,b9,aW,bU,b4,ea,g2,kt,ay,oj,fF,jS,fZ,p5,p6,f0,f1,ao3 a1,ao8,↓aa,ad,simprocAttr];refine ⟨⟨a+q.2.2.2,ws++[⟨q.1,q.2.1,a,q.2.2.1⟩],rfl,hle,by simp;omega,vu,QN,by omega,?_,?_⟩,by omega⟩
           . rw [apb,Lt];exact av
           . rw [br,Kx];simp only [ap0]
         | error e=>
           rw [j9] at a8 br;obtain ⟨he,bF,g2⟩:=a8;unfold gR at g2;rw [g2] at kt;simp only [he,ao,m0,m1,RA,RB,b9,aW,bU,b4,ea,g2,kt,vu,ay,oj,fF,jS,fZ,p5,p6,f0,f1,ao3 a1,ao8,↓aa,ad,simprocAttr];refine ⟨QN.set (ao1 _) _,?_⟩;rw [br];rfl
def e4 (s:List UInt8) (at' cO e:Int) (out:V):c':=.bc [.str s,.int .i64 at',.int .i64 cO,.int .i64 e,out] 0 false
theorem akG (s:List UInt8) (a0:Nat) (cO:Int) (ek:Int) (out:V) (b:aO) (h:ah) (ai:h.get b=e4 s a0 cO ek out) (aL:a0<=s.length) (al:s.length<=100000) (dB:Old h b):
 dW Tryz.prog 110 [.ptr b 0] h fun x af=>x=.tuple []/\Mod (fun x=>x=b) h af/\(match ht (s.drop a0) 0 with
  | some n=>af.get b=e4 s ((a0+n:Nat):Int) cO ek out/\a0+n<=s.length
  | none=>af.get b=e4 s (s.length:Int) cO 253 out):=by
 refine W3.z rfl (cl ?_);unfold MT;unfold e4 at ai ⊢;simp +contextual only [ai,↓aa,ad,simprocAttr]
 refine gf (fun r af=>∃(a:Nat) (d:Int),a0<=a/\a<=s.length/\r 0=.ptr b 0/\r 2=.int .i64 d/\af.get b=.bc [.str s,.int .i64 a,.int .i64 cO,.int .i64 ek,out] 0 false/\Mod (fun x=>x=b) h af/\-(a:Int)<=d/\d<=a/\
  ht (s.drop a0) 0=(ht (s.drop a) d).map (· + (a-a0))) (fun r af=>s.length - ((hc (af.get b) 1).getD .bad).toN) ?_ ?_
 . refine ⟨a0,0,ao1 _,aL,?_⟩;simp only [↓aa,ad,simprocAttr];refine ⟨ai,Mod.refl _ _,by omega,by omega,?_⟩;rw [aqs];cases ht (s.drop a0) 0<;>rfl
 . rintro r af ⟨a,d,gv,dr,aW,bf,ay,hm,d0,d1,br⟩;by_cases fF:¬((a:Int) < (s.length:Int))
   . have b1:a=s.length:=by omega
     have aF:ht (s.drop a) d=none:=by rw [b1,aqw];rfl
     rw [aF] at br;simp +contextual only [aW,bf,ay,fF,↓aa,ad,simprocAttr];rw [br];refine ⟨hm.set (fun _=>rfl) _,?_⟩;simp only [b1,Option.map_none,eC,apd]
   . replace fF:((a:Int) < (s.length:Int)):=by omega
     have dY:s.drop a≠[]:=by intro q;rw [List.drop_eq_nil_iff] at q;omega
     have rP:∀p:List UInt8,p.length<=100000->e' Tryz.prog 109 [.ptr b 0,.str p] af (.bool (p.isPrefixOf (s.drop a))) af:=fun p aG=>by have:=K9 s p (a:Int) [.int .i64 cO,.int .i64 ek,out] b 0 false af ay (by omega) (by omega) al aG;simpa using this
     have ka:=RS (s.drop a) d dY;simp +contextual only [aW,bf,ay,fF,↓aa,ad,simprocAttr];refine bQ (rP _ (by decide)) ?_;cases j':([40,42]:List UInt8).isPrefixOf (s.drop a) with
     | true=>
       have ag:=Fz j';rw [apr] at ag;rw [j',ape rfl] at ka;have b9:IntKind.i64.wrap (d+1)=d+1:=wrap_i64 (by omega) (by omega);have aQ:IntKind.i64.wrap ((a:Int)+2)=((a+2:Nat):Int):=by rw [wrap_i64 (by omega) (by omega)];rfl
       simp +contextual only [aW,bf,ay,b9,aQ,↓aa,ad,simprocAttr];refine ⟨⟨a+2,d+1,by omega,by omega,rfl,rfl,hm.set (fun _=>rfl) _,by omega,by omega,?_⟩,by omega⟩;rw [br,ka,ap0,aqe];congr 1;funext q;simp only [Function.comp];omega
     | false=>
       rw [j',ao_ (by decide)] at ka;simp +contextual only [aW,bf,ay,↓aa,ad,simprocAttr];refine bQ (rP _ (by decide)) ?_;cases h7:([42,41]:List UInt8).isPrefixOf (s.drop a) with
       | true=>
         have ag:=Fz h7;rw [apr] at ag;rw [h7,ape rfl] at ka;have b9:IntKind.i64.wrap (d-1)=d-1:=wrap_i64 (by omega) (by omega);have aQ:IntKind.i64.wrap ((a:Int)+2)=((a+2:Nat):Int):=by rw [wrap_i64 (by omega) (by omega)];rfl
         by_cases a_:d-1=0
         . rw [ape a_] at ka;obtain rfl:d=1:=by omega
           have aB:IntKind.i64.wrap 0=0:=rfl;simp +contextual only [aW,bf,ay,aB,aQ,↓aa,ad,simprocAttr];rw [br,ka];refine ⟨hm.set (fun _=>rfl) _,?_⟩;simp only [apZ,eC,apd];refine ⟨?_,by omega⟩;rw [show a0 + (2 + (a-a0))=a+2 from by omega]
         . rw [ao_ a_] at ka;simp +contextual only [aW,bf,ay,b9,aQ,a_,↓aa,ad,simprocAttr];refine ⟨⟨a+2,d-1,by omega,by omega,rfl,rfl,hm.set (fun _=>rfl) _,by omega,by omega,?_⟩,by omega⟩;rw [br,ka,ap0,aqe];congr 1;funext q;simp only [Function.comp];omega
       | false=>
         rw [h7,ao_ (by decide)] at ka;have aQ:IntKind.i64.wrap ((a:Int)+1)=((a+1:Nat):Int):=by rw [wrap_i64 (by omega) (by omega)];rfl
         simp +contextual only [aW,bf,ay,aQ,↓aa,ad,simprocAttr];refine ⟨⟨a+1,d,by omega,by omega,rfl,rfl,hm.set (fun _=>rfl) _,by omega,by omega,?_⟩,by omega⟩;rw [br,ka,ap0,aqe];congr 1;funext q;simp only [Function.comp];omega
def ky (c:Int):Int × Int:=if c<128 then (1,0) else if gT c 192 223 then (2,128) else if gT c 224 239 then (3,2048) else if gT c 240 247 then (4,65536) else (0,0)
theorem ag9 (c:Int) (h:ah):e' Tryz.prog 152 [.int .u8 c] h (.tuple [.int .i64 (ky c).1,.int .i64 (ky c).2]) h:=by
 refine jj (Xs.z rfl (cl ?_));unfold Nj;unfold ky;by_cases ae:c<128
 . simp +contextual only [ae,↓aa,ad,simprocAttr]
 simp +contextual only [ae,↓aa,ad,simprocAttr];refine bQ (oE _ _ _ _) ?_;cases ag:gT c 192 223 with
 | true=>simp +contextual only [↓aa,ad,simprocAttr]
 | false=>
   simp +contextual only [ao2,↓aa,ad,simprocAttr];refine bQ (oE _ _ _ _) ?_;cases ar:gT c 224 239 with
   | true=>simp +contextual only [↓aa,ad,simprocAttr]
   | false=>
     simp +contextual only [ao2,↓aa,ad,simprocAttr];refine bQ (oE _ _ _ _) ?_;cases aT:gT c 240 247 with
     | true=>simp +contextual only [↓aa,ad,simprocAttr]
     | false=>simp +contextual only [ao2,↓aa,ad,simprocAttr]
def sk (s:List UInt8) (a:Nat):Nat->Nat->Int->Option Int
 | 0,_,x=>some x
 | k+1,i,x=>if gT ((s[a+i]?.getD 0).toNat:Int) 128 191 then sk s a k (i+1) (64 * x + ((s[a+i]?.getD 0).toNat:Int)-128) else none
def wI (n least:Int):Option Int->Int
 | none=>0
 | some x=>if x<least\/1114111<x\/(55296<=x/\x<=57343) then 0 else n
def Bh (s:List UInt8) (a:Nat):Int:=
 let c:=((s[a]?.getD 0).toNat:Int)
 let n:=(ky c).1
 if n=0\/(s.length:Int)<a+n then 0 else if n=1 then 1 else wI n (ky c).2 (sk s a (n-1).toNat 1 (c.tmod (2 ^ (7-n).toNat)))
def so (d:Nat × Nat):Nat:=if d=(65533,1) then 0 else d.2
theorem Z7 (x:Nat):so (x,2)=2:=by unfold so;rw [ao_ (by simp)]
theorem Z8 (x:Nat):so (x,3)=3:=by unfold so;rw [ao_ (by simp)]
theorem Z9 (x:Nat):so (x,4)=4:=by unfold so;rw [ao_ (by simp)]
theorem Z6 (x:Nat) (h:x<128):so (x,1)=1:=by unfold so;rw [ao_ (by simp;omega)]
theorem OF (s:List UInt8) (a:Nat) (b1:a<s.length):Bh s a=kp s a:=by
 have ai:∀i:Nat,((s[i]?).getD 0).toNat<256:=fun i=>UInt8.toNat_lt _;have tI:kp s a=so (decodeL s a):=rfl;rw [tI];unfold decodeL;rw [Lib.decode_at];have oj:(ByteArray.mk ⟨s⟩).size=s.length:=rfl;simp only [oj,H5];have a':=ai a;have bW:=ai (a+1);have df:=ai (a+2);have ic:=ai (a+3);have bu:a + (1+1)=a+2:=rfl;have cT:a + (1+1+1)=a+3:=rfl;have fZ:((2:Int)-1).toNat=1:=rfl;have lI:((3:Int)-1).toNat=2:=rfl;have n3:((4:Int)-1).toNat=3:=rfl;have m2:((7:Int)-2).toNat=5:=rfl;have m3:((7:Int)-3).toNat=4:=rfl;have m4:((7:Int)-4).toNat=3:=rfl;generalize gN:s.length=L at b1 ⊢;have case:∀cG dp fz h_:Nat,(s[a]?.getD 0).toNat=cG->(s[a+1]?.getD 0).toNat=dp->(s[a+2]?.getD 0).toNat=fz->(s[a+3]?.getD 0).toNat=h_->Bh s a=so (Lib.decodeN (L-a) cG dp fz h_):=by
  intro cG dp fz h_ aL ae ag ar;rw [aL] at a';rw [ae] at bW;rw [ag] at df;rw [ar] at ic;unfold Bh ky;simp only [aL,gN];by_cases ch:cG<128
  . have Bd:(cG:Int)<128:=by omega
    simp only [Bd,apd];unfold Lib.decodeN;rw [ao_ (by omega),ape ch,Z6 _ ch];rfl
  have Bd:¬(cG:Int)<128:=by omega
  simp only [Bd,apa];by_cases c8:gT (cG:Int) 192 223=true
  . simp only [c8,apd,fZ,m2,sk,ae];simp only [gT,ao7,apf] at c8 ⊢;have em:(cG:Int).tmod (2 ^ 5)=((cG % 32:Nat):Int):=Int.ofNat_tmod _ _ |>.symm;rw [em];unfold Lib.decodeN;rw [ao_ ch];by_cases g1:(L:Int)<a+2
    . rw [ape (Or.inr g1),ao_ (by omega),ao_ (by omega),ao_ (by omega)];rfl
    . rw [ao_ (by omega),ao_ (by omega)];by_cases g2:(128:Int)<=dp/\(dp:Int)<=191
      . rw [ape g2,ape (by omega)];simp only [wI];by_cases g3:cG % 32 * 64+dp % 64>=128
        . rw [ape g3,ao_ (by omega),Z7];rfl
        . rw [ao_ g3,ape (by omega)];rfl
      . rw [ao_ g2,ao_ (by omega),ao_ (by omega),ao_ (by omega)];rfl
  simp only [c8,ao2,apa];by_cases c3:gT (cG:Int) 224 239=true
  . simp only [c3,apd,lI,m3,sk,ae,bu,ag];simp only [gT,ao7,apf] at c8 c3 ⊢;have em:(cG:Int).tmod (2 ^ 4)=((cG % 16:Nat):Int):=Int.ofNat_tmod _ _ |>.symm;rw [em];have a_:Lib.decodeN (L-a) cG dp fz h_=if (1<L-a/\dp / 64=2)/\2<L-a/\fz / 64=2 then (if cG % 16 * 4096+dp % 64 * 64+fz % 64>=2048/\(cG % 16 * 4096+dp % 64 * 64+fz % 64<55296\/(57344<=cG % 16 * 4096+dp % 64 * 64+fz % 64/\cG % 16 * 4096+dp % 64 * 64+fz % 64<=1114111)) then (cG % 16 * 4096+dp % 64 * 64+fz % 64,3) else (65533,1)) else (65533,1):=by
     unfold Lib.decodeN;rw [ao_ ch,ao_ (by omega)];by_cases my:(1<L-a/\dp / 64=2)/\2<L-a/\fz / 64=2
     . rw [ape ⟨by omega,my⟩,ape my]
     . rw [ao_ (fun q=>my q.2),ao_ (by omega),ao_ my]
    rw [a_];by_cases g1:(L:Int)<a+3
    . rw [ape (Or.inr g1),ao_ (by omega)];rfl
    . rw [ao_ (show ¬((3:Int)=0\/(L:Int)<a+3) from by omega),ao_ (show ¬(3:Int)=1 from by omega)];by_cases g2:(128:Int)<=dp/\(dp:Int)<=191
      . rw [ape g2];by_cases g4:(128:Int)<=fz/\(fz:Int)<=191
        . rw [ape g4,ape (show (1<L-a/\dp / 64=2)/\2<L-a/\fz / 64=2 from by omega)];simp only [wI];by_cases g3:cG % 16 * 4096+dp % 64 * 64+fz % 64>=2048/\(cG % 16 * 4096+dp % 64 * 64+fz % 64<55296\/(57344<=cG % 16 * 4096+dp % 64 * 64+fz % 64/\cG % 16 * 4096+dp % 64 * 64+fz % 64<=1114111))
          . rw [ape g3,ao_ (by omega),Z8];rfl
          . rw [ao_ g3,ape (by omega)];rfl
        . rw [ao_ g4,ao_ (show ¬((1<L-a/\dp / 64=2)/\2<L-a/\fz / 64=2) from by omega)];rfl
      . rw [ao_ g2,ao_ (show ¬((1<L-a/\dp / 64=2)/\2<L-a/\fz / 64=2) from by omega)];rfl
  simp only [c3,ao2,apa];by_cases g_:gT (cG:Int) 240 247=true
  . simp only [g_,apd,n3,m4,sk,ae,bu,ag,cT,ar];simp only [gT,ao7,apf] at c8 c3 g_ ⊢;have em:(cG:Int).tmod (2 ^ 3)=((cG % 8:Nat):Int):=Int.ofNat_tmod _ _ |>.symm;rw [em];have a_:Lib.decodeN (L-a) cG dp fz h_=if (1<L-a/\dp / 64=2)/\(2<L-a/\fz / 64=2)/\3<L-a/\h_ / 64=2 then (if cG % 8 * 262144+dp % 64 * 4096+fz % 64 * 64+h_ % 64>=65536/\(cG % 8 * 262144+dp % 64 * 4096+fz % 64 * 64+h_ % 64<55296\/(57344<=cG % 8 * 262144+dp % 64 * 4096+fz % 64 * 64+h_ % 64/\cG % 8 * 262144+dp % 64 * 4096+fz % 64 * 64+h_ % 64<=1114111)) then (cG % 8 * 262144+dp % 64 * 4096+fz % 64 * 64+h_ % 64,4) else (65533,1)) else (65533,1):=by
     unfold Lib.decodeN;rw [ao_ ch,ao_ (by omega),ao_ (by omega)];by_cases my:(1<L-a/\dp / 64=2)/\(2<L-a/\fz / 64=2)/\3<L-a/\h_ / 64=2
     . rw [ape ⟨by omega,my⟩,ape my]
     . rw [ao_ (fun q=>my q.2),ao_ my]
    rw [a_];by_cases g1:(L:Int)<a+4
    . rw [ape (Or.inr g1),ao_ (by omega)];rfl
    . rw [ao_ (show ¬((4:Int)=0\/(L:Int)<a+4) from by omega),ao_ (show ¬(4:Int)=1 from by omega)];by_cases g2:(128:Int)<=dp/\(dp:Int)<=191
      . rw [ape g2];by_cases g4:(128:Int)<=fz/\(fz:Int)<=191
        . rw [ape g4];by_cases g5:(128:Int)<=h_/\(h_:Int)<=191
          . rw [ape g5,ape (show (1<L-a/\dp / 64=2)/\(2<L-a/\fz / 64=2)/\3<L-a/\h_ / 64=2 from by omega)];simp only [wI];by_cases g3:cG % 8 * 262144+dp % 64 * 4096+fz % 64 * 64+h_ % 64>=65536/\(cG % 8 * 262144+dp % 64 * 4096+fz % 64 * 64+h_ % 64<55296\/(57344<=cG % 8 * 262144+dp % 64 * 4096+fz % 64 * 64+h_ % 64/\cG % 8 * 262144+dp % 64 * 4096+fz % 64 * 64+h_ % 64<=1114111))
            . rw [ape g3,ao_ (by omega),Z9];rfl
            . rw [ao_ g3,ape (by omega)];rfl
          . rw [ao_ g5,ao_ (show ¬((1<L-a/\dp / 64=2)/\(2<L-a/\fz / 64=2)/\3<L-a/\h_ / 64=2) from by omega)];rfl
        . rw [ao_ g4,ao_ (show ¬((1<L-a/\dp / 64=2)/\(2<L-a/\fz / 64=2)/\3<L-a/\h_ / 64=2) from by omega)];rfl
      . rw [ao_ g2,ao_ (show ¬((1<L-a/\dp / 64=2)/\(2<L-a/\fz / 64=2)/\3<L-a/\h_ / 64=2) from by omega)];rfl
  simp only [g_,ao2,apa];simp only [gT,ao7,apf] at c8 c3 g_;rw [ape (Or.inl trivial)];unfold Lib.decodeN;rw [ao_ ch,ao_ (by omega),ao_ (by omega),ao_ (by omega)];rfl
 exact case _ _ _ _ rfl rfl rfl rfl
theorem Zq (s:List UInt8) (a:Nat) (b1:a<s.length) (al:s.length<=100000) (h:ah):e' Tryz.prog 108 [.str s,.int .i64 a] h (.int .i64 (kp s a)) h:=by
 rw [<-OF s a b1];refine jj (W0.z rfl (cl ?_));unfold MQ;have f0:(0<=(a:Int))=True:=apk (by omega);have f1:((a:Int) < (s.length:Int))=True:=apk (by omega);simp +contextual only [f0,f1,ao8,↓aa,ad,simprocAttr];refine bQ (ag9 _ _) ?_;have aF:(ky ((s[a]?.getD 0).toNat:Int)).1=0\/(ky ((s[a]?.getD 0).toNat:Int)).1=1\/(ky ((s[a]?.getD 0).toNat:Int)).1=2\/(ky ((s[a]?.getD 0).toNat:Int)).1=3\/(ky ((s[a]?.getD 0).toNat:Int)).1=4:=by
  unfold ky
  repeat' split
  all_goals simp
 have hle:0<=(ky ((s[a]?.getD 0).toNat:Int)).2:=by
  unfold ky
  repeat' split
  all_goals simp
 have acD:Bh s a=if (ky ((s[a]?.getD 0).toNat:Int)).1=0\/(s.length:Int)<a + (ky ((s[a]?.getD 0).toNat:Int)).1 then 0 else if (ky ((s[a]?.getD 0).toNat:Int)).1=1 then 1 else wI (ky ((s[a]?.getD 0).toNat:Int)).1 (ky ((s[a]?.getD 0).toNat:Int)).2 (sk s a ((ky ((s[a]?.getD 0).toNat:Int)).1-1).toNat 1 (((s[a]?.getD 0).toNat:Int).tmod (2 ^ (7 - (ky ((s[a]?.getD 0).toNat:Int)).1).toNat))):=rfl;rw [acD];have an0:(s[a]?.getD 0).toNat<256:=UInt8.toNat_lt _;generalize (ky ((s[a]?.getD 0).toNat:Int)).2=least at *;generalize cP:(ky ((s[a]?.getD 0).toNat:Int)).1=n at *;generalize pQ:(s[a]?.getD 0).toNat=c at *;have wn:IntKind.i64.wrap ((a:Int)+n)=(a:Int)+n:=wrap_i64 (by omega) (by omega);have F9:IntKind.i64.wrap (c:Int)=(c:Int):=wrap_i64 (by omega) (by omega);by_cases aL:n=0
 . rw [ape (Or.inl aL)];simp +contextual only [wn,aL,↓aa,ad,simprocAttr]
 by_cases pc:(s.length:Int) < (a:Int)+n
 . rw [ape (Or.inr pc)];simp +contextual only [wn,aL,pc,↓aa,ad,simprocAttr]
 rw [ao_ (by omega)];by_cases ae:n=1
 . rw [ape ae];subst ae;simp +contextual only [wn,aL,pc,↓aa,ad,simprocAttr]
 rw [ao_ ae];obtain ⟨k,nt,r2,aD,zi,xo,adE,tT,adW⟩:∃(k:Nat) (nt r2:Int),2<=k/\n=k/\IntKind.i64.wrap (7-n)=nt/\((fu.shl).run Tryz.prog (.int .i64 1) (.int .i64 nt)=some (.int .i64 r2))/\(r2≠0/\r2<=32/\1<=r2)/\(2:Int) ^ (7-n).toNat=r2:=by
  rcases aF with q | q | q | q | q
  . exact absurd q aL
  . exact absurd q ae
  . subst q;exact ⟨2,5,32,by omega,rfl,rfl,rfl,by decide,rfl⟩
  . subst q;exact ⟨3,4,16,by omega,rfl,rfl,rfl,by decide,rfl⟩
  . subst q;exact ⟨4,3,8,by omega,rfl,rfl,rfl,by decide,rfl⟩
 rw [adW];have EM:(fu.int .rem).run Tryz.prog (.int .i64 (c:Int)) (.int .i64 r2)=some (.int .i64 ((c:Int).tmod r2)):=Q5 .i64 _ _ tT.1;have vo:k<=4:=by omega
 have jP:0<=(c:Int).tmod r2:=Int.tmod_nonneg _ (by omega);have jQ:(c:Int).tmod r2<64:=Int.lt_of_lt_of_le (Int.tmod_lt_of_pos _ (by omega)) (by omega);generalize (c:Int).tmod r2=cG at *;simp +contextual only [wn,F9,aL,ae,pc,xo,adE,EM,f0,f1,pQ,ao8,↓aa,ad,simprocAttr];refine gf (fun r af=>af=h/\r 0=.str s/\r 1=.int .i64 a/\r 5=.int .i64 n/\r 6=.int .i64 least/\∃(i:Nat) (x:Int),r 8=.int .i64 i/\r 7=.int .i64 x/\1<=i/\i<=k/\0<=x/\((i=1/\x<64)\/(i=2/\x<4096)\/(i=3/\x<262144)\/(i=4/\x<16777216))/\sk s a (n-1).toNat 1 cG=sk s a (k-i) i x) (fun r af=>k - (r 8).toN) ?_ ?_
 . refine ⟨rfl,by simp only [↓aa,ad,simprocAttr],by simp only [↓aa,ad,simprocAttr],by simp only [↓aa,ad,simprocAttr],by simp only [↓aa,ad,simprocAttr],1,cG,by simp only [↓aa,ad,simprocAttr]<;>rfl,by simp only [↓aa,ad,simprocAttr],by omega,by omega,jP,.inl ⟨rfl,jQ⟩,?_⟩;rw [show (n-1).toNat=k-1 from by omega]
 . rintro r af ⟨rfl,aW,cL,b4,ea,i,x,hd,e3,i1,aog,aoQ,aoV,br⟩;by_cases aM:i<k
   . have g0:((i:Int)<n)=True:=apk (by omega);have g1:(0<=(a:Int) + (i:Int))=True:=apk (by omega);have g2:((a:Int) + (i:Int) < (s.length:Int))=True:=apk (by omega);have lr:IntKind.i64.wrap ((a:Int) + (i:Int))=(a:Int) + (i:Int):=wrap_i64 (by omega) (by omega);have aS:((a:Int) + (i:Int)).toNat=a+i:=by omega
     rw [show k-i=k - (i+1)+1 from by omega] at br;simp only [sk] at br;simp +contextual only [aW,cL,b4,ea,hd,e3,g0,g1,g2,lr,aS,↓aa,ad,simprocAttr];refine bQ (oE _ _ _ _) ?_;have an1:(s[a+i]?.getD 0).toNat<256:=UInt8.toNat_lt _;cases Jl:gT ((s[a+i]?.getD 0).toNat:Int) 128 191 with
     | true=>
       rw [Jl,ape rfl] at br;simp only [gT,ao7,apf] at Jl;generalize w8:(s[a+i]?.getD 0).toNat=d at *;have v1:IntKind.i64.wrap (64 * x)=64 * x:=wrap_i64 (by omega) (by omega);have v2:IntKind.i64.wrap (d:Int)=d:=wrap_i64 (by omega) (by omega);have v3:IntKind.i64.wrap (64 * x+d)=64 * x+d:=wrap_i64 (by omega) (by omega);have v4:IntKind.i64.wrap (64 * x+d-128)=64 * x+d-128:=wrap_i64 (by omega) (by omega);have v5:IntKind.i64.wrap ((i:Int)+1)=((i+1:Nat):Int):=by rw [wrap_i64 (by omega) (by omega)];rfl
       simp +contextual only [aW,cL,b4,ea,hd,e3,g0,g1,g2,lr,aS,w8,v1,v2,v3,v4,v5,↓aa,ad,simprocAttr];exact ⟨⟨i+1,64 * x+d-128,rfl,rfl,by omega,by omega,by omega,by omega,br⟩,by omega⟩
     | false=>
       rw [Jl,ao_ apu] at br;rw [br];simp +contextual only [aW,cL,b4,ea,hd,e3,g0,g1,g2,lr,aS,↓aa,ad,simprocAttr];rfl
   . obtain rfl:i=k:=by omega
     have g0:((i:Int)<n)=False:=apl (by omega);rw [aqs] at br;rw [br];simp only [sk,wI];by_cases ao:x<least
     . rw [ape (Or.inl ao)];simp +contextual only [aW,cL,b4,ea,hd,e3,g0,ao,↓aa,ad,simprocAttr]
     . by_cases av:1114111<x
       . rw [ape (Or.inr (Or.inl av))];simp +contextual only [aW,cL,b4,ea,hd,e3,g0,ao,av,↓aa,ad,simprocAttr]
       . by_cases aC:55296<=x
         . by_cases bs:x<=57343
           . rw [ape (Or.inr (Or.inr ⟨aC,bs⟩))];simp +contextual only [aW,cL,b4,ea,hd,e3,g0,ao,av,aC,bs,↓aa,ad,simprocAttr]
           . rw [ao_ (by omega)];simp +contextual only [aW,cL,b4,ea,hd,e3,g0,ao,av,aC,bs,↓aa,ad,simprocAttr]
         . rw [ao_ (by omega)];simp +contextual only [aW,cL,b4,ea,hd,e3,g0,ao,av,aC,↓aa,ad,simprocAttr]
theorem Z' (s:List UInt8) (a:Nat) (b1:a<s.length):a+kp s a<=s.length:=by
 have h:=OF s a b1;by_cases bN:kp s a=0
 . omega
 . unfold Bh at h;simp only at h
   split at h
   . omega
   . rename_i q
     split at h
     . omega
     . unfold wI at h
       split at h
       . omega
       . split at h<;>omega
theorem SP (s:List UInt8) (al:s.length<=100000) (h:ah):e' Tryz.prog 58 [.str s] h (.int .i64 (qa s:Nat)) h:=by
 refine jj (Ys.z rfl (cl ?_));unfold N8;simp +contextual only [↓aa,ad,simprocAttr];refine gf (fun r af=>af=h/\r 0=.str s/\∃(a:Nat),r 3=.int .i64 a/\a<=s.length/\qa s=r3 s a) (fun r af=>s.length - (r 3).toN) ?_ ?_
 . exact ⟨rfl,by simp only [↓aa,ad,simprocAttr],0,by simp only [↓aa,ad,simprocAttr]<;>rfl,by omega,rfl⟩
 . rintro r af ⟨rfl,aW,a,bU,b1,br⟩;by_cases a1:a<s.length
   . have g0:((a:Int) < (s.length:Int))=True:=apk (by omega);simp +contextual only [aW,bU,g0,↓aa,ad,simprocAttr];refine bQ (Zq s a a1 al _) ?_;have hle:=Z' s a a1;by_cases bN:kp s a=0
     . rw [SZ a1 bN] at br;rw [br,bN];simp +contextual only [aW,bU,g0,apE,↓aa,ad,simprocAttr]
     . rw [FN a1 bN] at br;have Jo:((kp s a:Int)=0)=False:=apl (by omega);have w:IntKind.i64.wrap ((a:Int) + (kp s a:Int))=((a+kp s a:Nat):Int):=by rw [wrap_i64 (by omega) (by omega)];omega
       simp +contextual only [aW,bU,g0,Jo,w,↓aa,ad,simprocAttr];exact ⟨⟨_,rfl,hle,br⟩,by omega⟩
   . have g0:((a:Int) < (s.length:Int))=False:=apl (by omega);rw [KS (by omega)] at br;rw [br];simp +contextual only [aW,bU,g0,↓aa,ad,simprocAttr];rw [show a=s.length from by omega]
def oB (L:List (List UInt8)):List V:=L.map V.str
theorem Q7 (h:ah):dW Tryz.prog 113 [] h fun x af=>x=.slice (an h.next) 0 20 20/\af=h.new (.bc (oB nn) 0 false):=by refine W6.z rfl (cl ?_);unfold MW;simp +contextual only [↓aa,ad,simprocAttr];rfl
theorem akJ (h:ah):dW Tryz.prog 117 [] h fun x af=>x=.slice (an h.next) 0 17 17/\af=h.new (.bc (oB gG) 0 false):=by refine W'.z rfl (cl ?_);unfold M0;simp +contextual only [↓aa,ad,simprocAttr];rfl
theorem K' {L:List (List UInt8)} {i:Nat} (aM:i<L.length):(oB L)[i]? =some (.str L[i]):=by unfold oB;rw [apM,ao3 aM];rfl
theorem aaF {t:List UInt8} {L:List (List UInt8)} {i:Nat} (aM:i<L.length):(L.drop i).contains t=(decide (L[i]=t)||(L.drop (i+1)).contains t):=by rw [apB aM,List.contains_cons];congr 1;rw [apR];simp;exact aqP
theorem QS (t:List UInt8) (L:List (List UInt8)) (b:aO) (cap:Nat) (h:ah) (gN:L.length<=100000) (ay:h.get b=.bc (oB L) 0 false):
 e' Tryz.prog 112 [.str t,.slice b 0 L.length cap] h (.bool (L.contains t)) h:=by
 refine jj (W5.z rfl (cl ?_));unfold MV;simp +contextual only [↓aa,ad,simprocAttr];refine gf (fun r af=>af=h/\r 0=.str t/\r 1=.slice b 0 L.length cap/\∃i:Nat,r 5=.int .i64 i/\i<=L.length/\L.contains t=(L.drop i).contains t) (fun r af=>L.length - (r 5).toN) ?_ ?_
 . exact ⟨rfl,by simp only [↓aa,ad,simprocAttr],by simp only [↓aa,ad,simprocAttr],0,by simp only [↓aa,ad,simprocAttr]<;>rfl,by omega,rfl⟩
 . rintro r af ⟨rfl,aW,cL,i,b4,aM,br⟩;by_cases a1:i<L.length
   . have g0:((i:Int) < (L.length:Int))=True:=apk (by omega);have g1:(0<=(i:Int))=True:=apk (by omega);rw [aaF a1] at br;by_cases he:L[i]=t
     . simp +contextual only [aW,cL,b4,g0,g1,ay,he,ao8,aqO,K' a1,↓aa,ad,simprocAttr];rw [br];simp [he]
     . have w:IntKind.i64.wrap ((i:Int)+1)=((i+1:Nat):Int):=by rw [wrap_i64 (by omega) (by omega)];rfl
       simp +contextual only [aW,cL,b4,g0,g1,ay,he,w,ao8,aqO,K' a1,↓aa,ad,simprocAttr];refine ⟨⟨i+1,rfl,a1,?_⟩,by omega⟩;rw [br];simp [he]
   . have g0:((i:Int) < (L.length:Int))=False:=apl (by omega);rw [apI (by omega)] at br;rw [br];simp +contextual only [aW,cL,b4,g0,↓aa,ad,simprocAttr];rfl
theorem ahV (n:Int) (h:ah) (aL:0<=n) (ae:n<=2147483648):e' Tryz.prog 115 [.int .i64 n] h (.int .i64 (if 1073741823<n then n-2147483648 else n)) h:=by
 refine jj (W8.z rfl (cl ?_));unfold MY;have w:IntKind.i64.wrap (n-2147483648)=n-2147483648:=wrap_i64 (by omega) (by omega);by_cases aF:1073741823<n
 . simp +contextual only [aF,w,↓aa,ad,simprocAttr]
 . simp +contextual only [aF,w,↓aa,ad,simprocAttr]
abbrev lZ (b:aO) (B:Nat):aO->Prop:=fun q=>q=b\/B<=dP q
theorem oT (s:List UInt8) (a cO:Nat) (e:Int) (k n:Int) (t:List UInt8) (ws:List aq) (v:V) (b:aO) (B:Nat) (h:ah) (ai:h.get b=e4 s a cO e v) (dR:dK B h 4 v ws.length (gZ ws)) (dB:Old h b) (fe:dP b<B) (cj:B<=h.next) (hw:ws.length<=100000):
 dW Tryz.prog 114 [.ptr b 0,.int .i64 k,.int .i64 n,.str t] h fun x af=>Mod (lZ b B) h af/\∃v2,af.get b=e4 s a cO e v2/\dK B af 4 v2 (ws.length+1) (gZ (ws++[⟨k,n,cO,t⟩])):=by
 refine W7.z rfl (cl ?_);unfold MX;unfold e4 at ai ⊢;have dG:(b=an h.next)=False:=xN dB (ao1 _);have dQ:(an h.next=b)=False:=by rw [<-dG];exact propext aqP
 obtain ⟨v3,ar,ao,av,aC,bs,ca⟩:=A3 (cs:=[.int .i64 k,.int .i64 n,.int .i64 cO,.str t]) (by omega) dR cj (by unfold top;omega) rfl rfl;have kt:ar.get b=.bc [.str s,.int .i64 a,.int .i64 cO,.int .i64 e,v] 0 false:=by rw [aC.get _ dB (fun aI=>by have:=dR.base aI;omega),ai]
 obtain ⟨aie,Zt,abH⟩:=av.v.one;simp +contextual only [ai,ao,kt,aie,Zt,abH,dG,dQ,↓aa,ad,simprocAttr];refine ⟨(aC.mono fun q _ aI=>.inr (dR.base aI)).set (fun _=>.inl rfl) _,?_⟩;rw [Lt];refine ⟨v3,rfl,?_⟩;exact av.mod ((Mod.refl (fun q=>q=b) ar).self _) (fun q aI e=>by have:=av.base aI;rw [show q=b from e] at this;omega)
theorem Te (s:List UInt8) (a0:Nat) (PK:Int) (v:V) (b:aO) (h:ah) (ai:h.get b=e4 s a0 PK 0 v) (aL:a0<=s.length) (al:s.length<=100000) (dB:Old h b):
 dW Tryz.prog 59 [.ptr b 0] h fun x af=>Mod (fun q=>q=b) h af/\((∃(a:Nat) (cO:Int),af.get b=e4 s a cO 0 v/\a0<=a/\a<=s.length/\l' (s.drop a0) a0=l' (s.drop a) a/\∀a1:a<s.length,blank s[a]=false/\([40,42]:List UInt8).isPrefixOf (s.drop a)=false)\/
  (∃(cO:Nat),af.get b=e4 s s.length cO 253 v/\l' (s.drop a0) a0=.error (253,cO))):=by
 refine Yt.z rfl (cl ?_);unfold N9;unfold e4 at ai ⊢;simp +contextual only [↓aa,ad,simprocAttr]
 refine gf (fun r af=>r 0=.ptr b 0/\Mod (fun q=>q=b) h af/\((∃(a:Nat) (cO:Int),af.get b=.bc [.str s,.int .i64 a,.int .i64 cO,.int .i64 0,v] 0 false/\a0<=a/\a<=s.length/\l' (s.drop a0) a0=l' (s.drop a) a)\/
  (∃(cO:Nat),af.get b=.bc [.str s,.int .i64 s.length,.int .i64 cO,.int .i64 253,v] 0 false/\l' (s.drop a0) a0=.error (253,cO)))) (fun r af=>s.length - ((hc (af.get b) 1).getD .bad).toN) ?_ ?_
 . exact ⟨by simp only [↓aa,ad,simprocAttr],Mod.refl _ _,.inl ⟨a0,PK,ai,ao1 _,aL,rfl⟩⟩
 . rintro r af ⟨aW,hm,⟨a,cO,ay,gv,dr,br⟩ | ⟨cO,ay,br⟩⟩
   . unfold Hi;by_cases a1:a<s.length
     . have g0:((a:Int) < (s.length:Int))=True:=apk (by omega);have g1:(0<=(a:Int))=True:=apk (by omega);simp +contextual (maxSteps:=1000000) only [aW,ay,g0,g1,ao3 a1,ao8,↓aa,ad,simprocAttr];have l5:∀k,(af.set b k).get b=k:=fun k=>by rw [eC,ape rfl]
       have rP:=K9 s [40,42] (a:Int) [.int .i64 a,.int .i64 0,v] b 0 false (af.set b (.bc [.str s,.int .i64 a,.int .i64 a,.int .i64 0,v] 0 false)) (l5 _) (by omega) (by omega) al (by simp);rw [ao8] at rP;refine bQ rP ?_;have adz:=br;rw [drop_cons a1,JF,<-drop_cons a1] at br;have ff:∀k,bg.Mod (fun q=>q=b) h (af.set b k):=fun k=>hm.self k;cases lC:([40,42]:List UInt8).isPrefixOf (s.drop a) with
       | true=>
         have sF:¬blank s[a]=true:=by have:=lC;rw [drop_cons a1] at this;simp only [List.isPrefixOf,ao7,aqt] at this;rw [<-this.1];decide
         rw [ao_ sF,lC,ape rfl] at br;simp +contextual only [aW,ay,g0,g1,ao3 a1,ao8,↓aa,ad,simprocAttr];refine aX (akG s a a 0 v b _ (by rw [eC,ape rfl];rfl) dr al ((ff _).cr dB)) ?_;rintro x ag ⟨rfl,xf,aF⟩;cases xh:ht (s.drop a) 0 with
         | some n=>
           rw [xh] at aF br;obtain ⟨kt,hle⟩:=aF;have tT:=CL xh;unfold e4 at kt;simp +contextual only [aW,kt,↓aa,ad,simprocAttr];refine ⟨⟨(ff _).trans xf,.inl ⟨a+n,a,rfl,by omega,hle,?_⟩⟩,?_⟩
           . rw [br];simp only [ap0]
           . omega
         | none=>
           rw [xh] at aF br;unfold e4 at aF;simp +contextual only [aW,aF,↓aa,ad,simprocAttr];refine ⟨⟨(ff _).trans xf,.inr ⟨a,rfl,br⟩⟩,?_⟩;omega
       | false=>
         have jD:(((s[a]).toNat:Int)=9)=(s[a]=9):=lS _ 9 (by omega);have u_:(((s[a]).toNat:Int)=10)=(s[a]=10):=lS _ 10 (by omega);have DX:(((s[a]).toNat:Int)=13)=(s[a]=13):=lS _ 13 (by omega);have Pa:(((s[a]).toNat:Int)=32)=(s[a]=32):=lS _ 32 (by omega);have b9:IntKind.i64.wrap ((a:Int)+1)=((a+1:Nat):Int):=by rw [wrap_i64 (by omega) (by omega)];rfl
         cases rE:blank s[a] with
         | true=>
           rw [rE,ape rfl] at br;have tH:=rE;unfold blank at tH;simp +contextual only [aW,ay,g0,g1,jD,u_,DX,Pa,b9,tH,ao3 a1,ao8,↓aa,ad,simprocAttr];refine ⟨⟨(ff _).self _,.inl ⟨a+1,a,rfl,by omega,by omega,br⟩⟩,by omega⟩
         | false=>
           have tH:=rE;unfold blank at tH;simp +contextual only [aW,ay,g0,g1,jD,u_,DX,Pa,b9,tH,ao3 a1,ao8,↓aa,ad,simprocAttr];exact ⟨ff _,.inl ⟨a,a,rfl,gv,dr,adz,fun _=>⟨rE,lC⟩⟩⟩
     . have g0:((a:Int) < (s.length:Int))=False:=apl (by omega);simp +contextual only [aW,ay,g0,↓aa,ad,simprocAttr];exact ⟨hm,.inl ⟨a,cO,rfl,gv,dr,br,fun q=>absurd q a1⟩⟩
   . unfold Hi;have g0:((s.length:Int) < (s.length:Int))=False:=apl (by omega);simp +contextual only [aW,ay,g0,↓aa,ad,simprocAttr];exact ⟨hm,.inr ⟨cO,rfl,br⟩⟩
structure pJ (s:List UInt8) (p:Nat) (b:aO) (B:Nat) (ws:List aq) (h:ah) (res:qp) (af:ah):Prop where
 mod:Mod (lZ b B) h af
 res:∃v2,match res with
  | .ok q=>af.get b=e4 s ((p+q.2.2.2:Nat):Int) p 0 v2/\p+q.2.2.2<=s.length/\dK B af 4 v2 (ws.length+1) (gZ (ws++[⟨q.1,q.2.1,p,q.2.2.1⟩]))
  | .error e=>e≠0/\∃bF:Int,af.get b=e4 s bF p e v2
def Rn (c:Int):Bool:=gT c 97 122||gT c 65 90||gT c 48 57||decide (c=95)||decide (c=39)
theorem Ro (c:UInt8):Rn (c.toNat:Int)=d' c:=by unfold Rn d' xE gT n9 lq k7;generalize (c.toNat:Int)=x;cases decide (97<=x)<;>cases decide (x<=122)<;>cases decide (65<=x)<;>cases decide (x<=90)<;>cases decide (48<=x)<;>cases decide (x<=57)<;>cases decide (x=95)<;>cases decide (x=39)<;>rfl
theorem F7 {p:UInt8->Bool} {s:List UInt8} {a:Nat} (a1:a<s.length):(s.drop a).takeWhile p=if p s[a] then s[a]::(s.drop (a+1)).takeWhile p else []:=by rw [drop_cons a1,aqd]
def ir (p:UInt8->Bool) (s:List UInt8) (a:Nat):Nat:=a + ((s.drop a).takeWhile p).length
theorem KT {p:UInt8->Bool} {s:List UInt8} {a:Nat} (h:s.length<=a):ir p s a=a:=by unfold ir;rw [apI h];rfl
theorem KW {p:UInt8->Bool} {s:List UInt8} {a:Nat} (a1:a<s.length) (aG:p s[a]=false):ir p s a=a:=by unfold ir;rw [F7 a1,aG];rfl
theorem KV {p:UInt8->Bool} {s:List UInt8} {a:Nat} (a1:a<s.length) (aG:p s[a]=true):ir p s a=ir p s (a+1):=by unfold ir;rw [F7 a1,aG];simp only [apd,ao9];omega
theorem FQ (p:UInt8->Bool) (s:List UInt8) (a:Nat):(s.drop a).take (ir p s a-a)=(s.drop a).takeWhile p:=by unfold ir;rw [show a + ((s.drop a).takeWhile p).length-a=((s.drop a).takeWhile p).length from by omega];have h:=List.takeWhile_append_dropWhile (p:=p) (l:=s.drop a);have ag:List.take ((s.drop a).takeWhile p).length ((s.drop a).takeWhile p++(s.drop a).dropWhile p)=(s.drop a).takeWhile p:=List.take_left;rwa [h] at ag
theorem KU (p:UInt8->Bool) (s:List UInt8) (a:Nat) (h:a<=s.length):ir p s a<=s.length:=by unfold ir;have:=Lb p s a;omega
theorem Q6 {t:List UInt8} (h:nk t=true):o9 t=true/\t.length<=9:=by
 have hm:t ∈ nn:=by unfold nk at h;simpa using h
 have:∀t ∈ nn,o9 t=true/\t.length<=9:=by decide
 exact this t hm
def Hk:cc:=match DM with
 | .seq _ t=>t
 | c=>c
theorem Yw:DM=.seq (.block 0 (.loop Hj)) Hk:=rfl
theorem SN (s:List UInt8) (p:Nat) (k:Int) (ws:List aq) (v:V) (b:aO) (B:Nat) (aL h:ah) (hm:Mod (lZ b B) aL h) (ai:h.get b=e4 s (ir d' s p:Nat) p 0 v) (aG:p<s.length) (al:s.length<=100000) (dR:dK B h 4 v ws.length (gZ ws)) (dB:Old h b) (fe:dP b<B) (cj:B<=h.next) (hw:ws.length<=90000)
 (aD:(k=3/\k7 (s[p].toNat:Int)=false)\/(k=4/\k7 (s[p].toNat:Int)=true)) (aH:d' s[p]=true) (r:a6) (aW:r 0=.ptr b 0) (Q:eb->a6->ah->Prop) (b':∀bq af,pJ s p b B ws aL (jx k (s.drop p)) af->Q .normal bq af):
 bK Tryz.prog [.c Hk] .normal r h Q:=by
 unfold Hk DM;unfold e4 at ai;have f0:(0<=(p:Int))=True:=apk (by omega);have vt:=KU d' s p (by omega);have adL:p<=ir d' s p:=by unfold ir;omega
 have f1:((p:Int)<=(ir d' s p:Int))=True:=apk (by omega);have f2:((ir d' s p:Int)<=(s.length:Int))=True:=apk (by omega);simp +contextual only [aW,ai,f0,f1,f2,ao8,FQ,↓aa,ad,simprocAttr];have hlen:ir d' s p=p + ((s.drop p).takeWhile d').length:=rfl;have rM:jx k (s.drop p)=if k=3/\(s.drop p).takeWhile d'=[95] then .ok (7,0,(s.drop p).takeWhile d',((s.drop p).takeWhile d').length) else if k=3/\nk ((s.drop p).takeWhile d') then .ok (6,0,(s.drop p).takeWhile d',((s.drop p).takeWhile d').length) else if 64 < ((s.drop p).takeWhile d').length then .error 255 else .ok (k,0,(s.drop p).takeWhile d',((s.drop p).takeWhile d').length):=rfl;rw [rM] at b';have sJ:((s.drop p).takeWhile d')[0]? =some s[p]:=by rw [F7 aG,aH];rfl
 have adb:1<=((s.drop p).takeWhile d').length:=by rw [F7 aG,aH];simp
 rw [hlen] at ai vt;rw [hlen];generalize (s.drop p).takeWhile d'=t at *;have Qj:k=4->nk t=false/\¬t=[95]:=by
  rintro rfl;have ay:k7 (s[p].toNat:Int)=true:=by
   rcases aD with ⟨q,_⟩ | ⟨_,q⟩
   . omega
   . exact q
  have tW:lq (s[p].toNat:Int)=false:=by unfold k7 at ay;simp only [ao7,apf] at ay;unfold lq;rw [show decide ((97:Int)<=(s[p].toNat:Int))=false from aqy (by omega)];rfl
  refine ⟨?_,?_⟩
  . cases aI:nk t with
    | false=>rfl
    | true=>
      have:=(Q6 aI).1;cases t with
      | nil=>simp at adb
      | cons c r=>
        simp only [apj,ao4] at sJ;rw [o9,sJ,tW] at this;cases this
  . rintro rfl;simp only [apj,ao4] at sJ;rw [<-sJ] at ay;revert ay;decide
 have fin:∀(dL:Int) (ae ag:ah) (v2:V),Mod (lZ b B) aL ae->(Mod (lZ b B) ae ag/\∃v2,ag.get b=e4 s ((p+t.length:Nat):Int) p 0 v2/\dK B ag 4 v2 (ws.length+1) (gZ (ws++[⟨dL,0,p,t⟩])))->pJ s p b B ws aL (.ok (dL,0,t,t.length)) ag:=by rintro dL ae ag _ j8 ⟨ff,v2,ao,av⟩;exact ⟨j8.trans ff,v2,ao,vt,av⟩
 have Py:∀(dL:Int) (ae ag:ah),Mod (lZ b B) aL ae->(Mod (lZ b B) ae ag/\∃v2,ag.get b=e4 s ((p+t.length:Nat):Int) p 255 v2/\dK B ag 4 v2 (ws.length+1) (gZ (ws++[⟨dL,0,p,t⟩])))->pJ s p b B ws aL (.error 255) ag:=by rintro dL ae ag j8 ⟨ff,v2,ao,av⟩;exact ⟨j8.trans ff,v2,by decide,_,ao⟩
 by_cases pc:64<t.length
 . have pT:(64:Int) < (t.length:Int):=by omega
   have zi:nk t=false:=by
    cases aI:nk t with
    | false=>rfl
    | true=>have:=(Q6 aI).2;omega
   have zj:¬t=[95]:=by rintro rfl;simp at pc
   rw [ao_ (fun q=>zj q.2),ao_ (by rw [zi];simp),ape pc] at b';have B3:Mod (lZ b B) aL (h.set b (.bc [.str s,.int .i64 ((p+t.length:Nat):Int),.int .i64 p,.int .i64 255,v] 0 false)):=hm.set (fun _=>.inl rfl) _;have P2:dK B (h.set b (.bc [.str s,.int .i64 ((p+t.length:Nat):Int),.int .i64 p,.int .i64 255,v] 0 false)) 4 v ws.length (gZ ws):=dR.mod ((Mod.refl (fun q=>q=b) h).self _) (fun q aI e=>by have:=dR.base aI;rw [show q=b from e] at this;omega);have BP:(h.set b (.bc [.str s,.int .i64 ((p+t.length:Nat):Int),.int .i64 p,.int .i64 255,v] 0 false)).get b=.bc [.str s,.int .i64 ((p+t.length:Nat):Int),.int .i64 p,.int .i64 255,v] 0 false:=by rw [eC,ape rfl]
   have pd:Old (h.set b (.bc [.str s,.int .i64 ((p+t.length:Nat):Int),.int .i64 p,.int .i64 255,v] 0 false)) b:=dB;have aob:(h.set b (.bc [.str s,.int .i64 ((p+t.length:Nat):Int),.int .i64 p,.int .i64 255,v] 0 false)).next=h.next:=iT _ _ _
   simp +contextual only [aW,ai,pT,↓aa,ad,simprocAttr];generalize pN:h.set b (.bc [.str s,.int .i64 ((p+t.length:Nat):Int),.int .i64 p,.int .i64 255,v] 0 false)=H at *;refine aX (Q7 _) ?_;rintro x ae ⟨rfl,rfl⟩;simp +contextual only [aW,BP,pT,↓aa,ad,simprocAttr];have kv:Ext H (H.new (.bc (oB nn) 0 false)):=(Ext.refl H).new _;refine bQ (QS t nn (an H.next) 20 _ (by decide) (by rw [rA])) ?_;have jQ:(H.new (.bc (oB nn) 0 false)).get b=e4 s ((p+t.length:Nat):Int) p 255 v:=by rw [kv.get _ pd,BP];rfl
   have j8:Mod (lZ b B) aL (H.new (.bc (oB nn) 0 false)):=B3.trans (kv.mod _);have IM:nn.contains t=nk t:=rfl;rw [IM,zi];have g0:((0:Int) < (t.length:Int))=True:=apk (by omega);have z0:((0:Int)<=0)=True:=apk (by omega);simp +contextual only [aW,BP,pT,zj,g0,z0,sJ,Int.reduceToNat,↓aa,ad,simprocAttr];refine bQ (oE _ _ _ _) ?_;rw [show gT (s[p].toNat:Int) 65 90=k7 (s[p].toNat:Int) from rfl];rcases aD with ⟨rfl,ay⟩ | ⟨rfl,ay⟩
   . rw [ay];simp +contextual only [aW,BP,pT,zj,g0,z0,sJ,↓aa,ad,simprocAttr];refine aX (oT s _ p 255 3 0 t ws v b B _ jQ (P2.ext kv) (kv.cr pd) fe (by rw [hV];omega) (by omega)) ?_;rintro x ag aI;simp +contextual only [aW,↓aa,ad,simprocAttr];exact b' _ _ (Py 3 _ _ j8 aI)
   . rw [ay];simp +contextual only [aW,BP,pT,zj,g0,z0,sJ,↓aa,ad,simprocAttr];refine aX (oT s _ p 255 4 0 t ws v b B _ jQ (P2.ext kv) (kv.cr pd) fe (by rw [hV];omega) (by omega)) ?_;rintro x ag aI;simp +contextual only [aW,↓aa,ad,simprocAttr];exact b' _ _ (Py 4 _ _ j8 aI)
 . have pT:¬(64:Int) < (t.length:Int):=by omega
   simp +contextual only [aW,ai,pT,↓aa,ad,simprocAttr];refine aX (Q7 _) ?_;rintro x ae ⟨rfl,rfl⟩;simp +contextual only [aW,ai,pT,↓aa,ad,simprocAttr];have kv:Ext h (h.new (.bc (oB nn) 0 false)):=(Ext.refl h).new _;refine bQ (QS t nn (an h.next) 20 _ (by decide) (by rw [rA])) ?_;have jQ:(h.new (.bc (oB nn) 0 false)).get b=e4 s ((p+t.length:Nat):Int) p 0 v:=by rw [kv.get _ dB,ai];rfl
   have j8:Mod (lZ b B) aL (h.new (.bc (oB nn) 0 false)):=hm.trans (kv.mod _);have IM:nn.contains t=nk t:=rfl;rw [IM];cases tO:nk t with
   | true=>
     have pa:k=3:=by
      rcases aD with ⟨q,_⟩ | ⟨q,_⟩
      . exact q
      . rw [(Qj q).1] at tO;cases tO
     have zj:¬t=[95]:=by rintro rfl;revert tO;decide
     rw [ao_ (fun q=>zj q.2),ape ⟨pa,tO⟩] at b';simp +contextual only [aW,ai,pT,↓aa,ad,simprocAttr];refine aX (oT s _ p 0 6 0 t ws v b B _ jQ (dR.ext kv) (kv.cr dB) fe (by rw [hV];omega) (by omega)) ?_;rintro x ag aI;simp +contextual only [aW,↓aa,ad,simprocAttr];exact b' _ _ (fin 6 _ _ v j8 aI)
   | false=>
     by_cases hu:t=[95]
     . have pa:k=3:=by
        rcases aD with ⟨q,_⟩ | ⟨q,_⟩
        . exact q
        . exact absurd hu (Qj q).2
       rw [ape ⟨pa,hu⟩] at b';have iO:=apk hu;simp +contextual only [aW,ai,pT,iO,↓aa,ad,simprocAttr];refine aX (oT s _ p 0 7 0 t ws v b B _ jQ (dR.ext kv) (kv.cr dB) fe (by rw [hV];omega) (by omega)) ?_;rintro x ag aI;simp +contextual only [aW,↓aa,ad,simprocAttr];exact b' _ _ (fin 7 _ _ v j8 aI)
     . rw [ao_ (fun q=>hu q.2),ao_ (by rw [tO];simp),ao_ pc] at b';have g0:((0:Int) < (t.length:Int))=True:=apk (by omega);have z0:((0:Int)<=0)=True:=apk (by omega);simp +contextual only [aW,ai,pT,hu,g0,z0,sJ,Int.reduceToNat,↓aa,ad,simprocAttr];refine bQ (oE _ _ _ _) ?_;rw [show gT (s[p].toNat:Int) 65 90=k7 (s[p].toNat:Int) from rfl];rcases aD with ⟨rfl,ay⟩ | ⟨rfl,ay⟩
       . rw [ay];simp +contextual only [aW,ai,pT,hu,g0,z0,sJ,↓aa,ad,simprocAttr];refine aX (oT s _ p 0 3 0 t ws v b B _ jQ (dR.ext kv) (kv.cr dB) fe (by rw [hV];omega) (by omega)) ?_;rintro x ag aI;simp +contextual only [aW,↓aa,ad,simprocAttr];exact b' _ _ (fin 3 _ _ v j8 aI)
       . rw [ay];simp +contextual only [aW,ai,pT,hu,g0,z0,sJ,↓aa,ad,simprocAttr];refine aX (oT s _ p 0 4 0 t ws v b B _ jQ (dR.ext kv) (kv.cr dB) fe (by rw [hV];omega) (by omega)) ?_;rintro x ag aI;simp +contextual only [aW,↓aa,ad,simprocAttr];exact b' _ _ (fin 4 _ _ v j8 aI)
theorem KH (s:List UInt8) (p:Nat) (k:Int) (ws:List aq) (v:V) (b:aO) (B:Nat) (h:ah) (ai:h.get b=e4 s p p 0 v) (aG:p<s.length) (al:s.length<=100000) (dR:dK B h 4 v ws.length (gZ ws)) (dB:Old h b) (fe:dP b<B) (cj:B<=h.next) (hw:ws.length<=90000)
 (aD:(k=3/\k7 (s[p].toNat:Int)=false)\/(k=4/\k7 (s[p].toNat:Int)=true)) (aH:d' s[p]=true):
 dW Tryz.prog 61 [.ptr b 0] h fun x af=>pJ s p b B ws h (jx k (s.drop p)) af:=by
 refine Yv.z rfl (cl ?_);rw [Yw];unfold e4 at ai;simp +contextual only [↓aa,ad,simprocAttr];refine gf (fun r af=>r 0=.ptr b 0/\Mod (lZ b B) h af/\dK B af 4 v ws.length (gZ ws)/\∃(a:Nat),af.get b=.bc [.str s,.int .i64 a,.int .i64 p,.int .i64 0,v] 0 false/\p<=a/\a<=s.length/\ir d' s p=ir d' s a) (fun r af=>s.length - ((hc (af.get b) 1).getD .bad).toN) ?_ ?_
 . exact ⟨by simp only [↓aa,ad,simprocAttr],Mod.refl _ _,dR,p,ai,ao1 _,by omega,rfl⟩
 . rintro r af ⟨aW,hm,pO,a,ay,gv,dr,br⟩;unfold Hj;have EK:=hm.next
   by_cases a1:a<s.length
   . have g0:((a:Int) < (s.length:Int))=True:=apk (by omega);have g1:(0<=(a:Int))=True:=apk (by omega);simp +contextual (maxSteps:=1000000) only [aW,ay,g0,g1,ao3 a1,ao8,↓aa,ad,simprocAttr];refine bQ (L0 _ _) ?_;rw [show (gT (s[a].toNat:Int) 97 122||gT (s[a].toNat:Int) 65 90||gT (s[a].toNat:Int) 48 57||decide ((s[a].toNat:Int)=95)||decide ((s[a].toNat:Int)=39))=d' s[a] from Ro _];cases ax:d' s[a] with
     | true=>
       rw [KV a1 ax] at br;have b9:IntKind.i64.wrap ((a:Int)+1)=((a+1:Nat):Int):=by rw [wrap_i64 (by omega) (by omega)];rfl
       simp +contextual (maxSteps:=1000000) only [aW,ay,g0,g1,b9,ao3 a1,ao8,↓aa,ad,simprocAttr];refine ⟨⟨hm.set (fun _=>.inl rfl) _,?_,a+1,rfl,by omega,by omega,br⟩,by omega⟩;exact pO.mod ((Mod.refl (fun q=>q=b) af).self _) (fun q aI e=>by have:=pO.base aI;rw [show q=b from e] at this;omega)
     | false=>
       rw [KW a1 ax] at br;simp +contextual (maxSteps:=1000000) only [aW,ay,g0,g1,ao3 a1,ao8,↓aa,ad,simprocAttr];exact SN s p k ws v b B h af hm (by rw [br];exact ay) aG al pO (hm.cr dB) fe (by omega) hw aD aH _ (by simp only [aW,↓aa,ad,simprocAttr]) _ (fun _ _ U=>⟨trivial,U⟩)
   . have g0:((a:Int) < (s.length:Int))=False:=apl (by omega);rw [KT (a:=a) (by omega)] at br;simp +contextual (maxSteps:=1000000) only [aW,ay,g0,↓aa,ad,simprocAttr];exact SN s p k ws v b B h af hm (by rw [br];exact ay) aG al pO (hm.cr dB) fe (by omega) hw aD aH _ (by simp only [aW,↓aa,ad,simprocAttr]) _ (fun _ _ U=>⟨trivial,U⟩)
end
end Go.Proofs.YtahfljfikfkpnaaGreatDoor
