/- The chapter's functions, walked by the abstract machine: plain lemmas, no condition. Printed by a program from longer texts: names made short. -/
import Derived.Test.YtahfljfikfkpnaaGreatDoorM6
import Derived.Test.YtahfljfikfkpnaaGreatDoorM4
import Derived.Test.YtahfljfikfkpnaaGreatDoorM5
import Derived.WalkSmall
import Derived.Shelf.Strings.Search3
import Derived.Shelf.Strings.OnBuilder
import Derived.Shelf.Strconv.Itoa3
import Derived.MakeChecks
import Derived.Shelf.Vars
import Derived.Lay
import Derived.LaidLaws
import Derived.Lib.LaidTab
import Derived.Lib.LaidU8T
import Derived.Test.YtahfljfikfkpnaaGreatDoorRows
set_option linter.unusedSectionVars false
set_option linter.unusedSimpArgs false
set_option linter.unusedVariables false
set_option maxHeartbeats 64000000
noncomputable section
namespace Go.Proofs.YtahfljfikfkpnaaGreatDoor
section
open Go bg Go.RowKit
theorem Ba {w:World} {p:Addr} {v:Value} (h:w.cell? p=some v):p.block<w.heap.size:=by
 unfold World.cell? at h;by_cases q:p.block<w.heap.size
 . exact q
 . rw [aqo (by omega)] at h;cases h
def yv (w:World) (g:Nat):Prop:=∃aV,w.cell? ⟨g,0,none⟩=some aV/\(aV=.nilIface\/∃al2 q1,aV=.iface al2 q1)
theorem yv.h4 {w w':World} {g:Nat} (h:yv w g) (ai:Below w.heap.size w w'):yv w' g:=by obtain ⟨aV,ae,ag⟩:=h;exact ⟨aV,by rw [ai.cell (Ba ae)];exact ae,ag⟩
structure GA (w:World):Prop where
 TT:Lib.Utf8Tabs 0 1 w
 maxLen:∃m,w.cell? ⟨2,0,none⟩=some (.int .i64 m)
 Pm:yv w 4
 Su:Lib.TabIs Tryz.prog w "internal/strconv.uint64pow10" .u64 Lib.pow10Tab
instance lay:Lay where
 ok w:=GA w
 h4:=by
  intro w w' h ai;refine ⟨?_,?_,h.Pm.h4 ai,?_⟩
  . obtain ⟨ae,ag⟩:=h.TT;refine ⟨fun c ax=>?_,fun i aM=>?_⟩
    . rw [ai.cell (Ba (ae c ax))];exact ae c ax
    . obtain ⟨ao,av⟩:=ag i aM;rw [ai.cell (Ba ao),ai.cell (Ba av)];exact ⟨ao,av⟩
  . obtain ⟨m,q⟩:=h.maxLen;exact ⟨m,by rw [ai.cell (Ba q)];exact q⟩
  . have ay:Tryz.prog.globalNamed "internal/strconv.uint64pow10"=some 5:=by kernel_rfl
    have aH:5<w.heap.size:=by
     have q:=h.Su;unfold Lib.TabIs World.var? at q;rw [ay] at q;by_cases a1:5<w.heap.size
     . exact a1
     . simp only [Option.bind_some] at q;rw [aqo (by omega)] at q;cases q
    exact var?_below ai ay aH h.Su
section
open Go.Shelf
def Tryz.agA:Go.Shelf.Ren:=⟨fun | 144=>133 | 143=>163 | 219=>198 | 217=>77 | 225=>215 | 224=>216 | 267=>217 | 266=>127 | 314=>226 | n=>n,fun | 9=>9 | 4=>4 | 3=>3 | 5=>5 | 46=>131 | 146=>154 | 51=>153 | n=>n,fun | 1=>2 | n=>n⟩
theorem Tryz.agz:Go.Proofs.Lays.n144 Tryz.prog Tryz.agA:={
 mixed:=by kernel_rfl,
 f143:=Tryz.func163.trans (congrArg some (by kernel_rfl)),
 f144:=Tryz.func133.trans (congrArg some (by kernel_rfl)),
 f217:=Tryz.func77.trans (congrArg some (by kernel_rfl)),
 f219:=Tryz.func198.trans (congrArg some (by kernel_rfl)),
 f224:=Tryz.func216.trans (congrArg some (by kernel_rfl)),
 f225:=Tryz.func215.trans (congrArg some (by kernel_rfl)),
 f266:=Tryz.func127.trans (congrArg some (by kernel_rfl)),
 f267:=Tryz.func217.trans (congrArg some (by kernel_rfl)),
 f314:=Tryz.func226.trans (congrArg some (by kernel_rfl)),
 t3:=Tryz.underlying3,
 a3:=Tryz.isAgg3,
 z3:=Tryz.sizeOf3,
 v3:=Tryz.zeroValue3,
 t4:=Tryz.underlying4,
 a4:=Tryz.isAgg4,
 z4:=Tryz.sizeOf4,
 v4:=Tryz.zeroValue4,
 t5:=Tryz.underlying5,
 a5:=Tryz.isAgg5,
 z5:=Tryz.sizeOf5,
 v5:=Tryz.zeroValue5,
 t9:=Tryz.underlying9,
 a9:=Tryz.isAgg9,
 z9:=Tryz.sizeOf9,
 v9:=Tryz.zeroValue9,
 t46:=Tryz.underlying131,
 a46:=Tryz.isAgg131,
 z46:=Tryz.sizeOf131,
 v46:=Tryz.zeroValue131,
 t51:=Tryz.underlying153,
 a51:=Tryz.isAgg153,
 z51:=Tryz.sizeOf153,
 v51:=Tryz.zeroValue153,
 t146:=Tryz.underlying154,
 a146:=Tryz.isAgg154,
 z146:=Tryz.sizeOf154,
 v146:=Tryz.zeroValue154,
 g1:=by kernel_rfl}
theorem ZI (s sub:ByteArray) (m:Int) (w:World) (al:s.size<4294967281) (hm:w.cell? ⟨2,0,none⟩=some (.int .i64 m)):
 Calls Tryz.prog 133 #[.string s,.string sub] w fun e w'=>e=.returned (.bool (Lib.contains s.data.toList sub.data.toList))/\w'=w:=Any.strings_Contains Tryz.agz s sub m w al hm
end
section
open Go.Proofs Go.Sort
end
theorem follows:Tryz.prog.follows .mixedOrders=true:=by kernel_rfl
theorem names:(Tryz.prog.funcs.toList.all fun fn=>!(fn.name == "runtime.NumGoroutine"))=true:=by kernel_rfl
theorem zV:hn Tryz.prog:=by intro f fn h;have:=apA.1 names fn (aqi (i:=f) (by simpa using h));simpa using this
end
section
open Go bg
abbrev cn (d cG:Nat):cI:=⟨some d,.gO (.t cG),none,[cG]⟩
abbrev e1 (d cG:Nat):cI:=⟨some d,.qT (.t cG),none,[cG]⟩
abbrev gI (d cG:Nat):cI:=⟨some d,.la (.t cG),none,[cG]⟩
abbrev ix (d cG:Nat):cI:=⟨some d,.iM 1 (.t cG),none,[cG]⟩
abbrev nZ (d cG dp:Nat):cI:=⟨some d,.gO (.t cG),(some (dp,true)),[cG,dp]⟩
abbrev oJ (d cG dp:Nat):cI:=⟨some d,.la (.t cG),(some (dp,true)),[cG,dp]⟩
abbrev oK (d cG dp:Nat):cI:=⟨some d,.qT (.t cG),(some (dp,true)),[cG,dp]⟩
abbrev pH (d cG:Nat):cI:=⟨some d,.iM 3 (.t cG),none,[cG]⟩
abbrev qk (d cG:Nat) (gv:Nat):cI:=⟨some d,.call gv [(.t cG)],none,[cG]⟩
abbrev tf (d cG:Nat):cI:=⟨some d,.iM 0 (.t cG),none,[cG]⟩
abbrev td (d cG:Nat):cI:=⟨some d,.len .str (.t cG),none,[cG]⟩
abbrev te (d cG dp:Nat):cI:=⟨some d,.pick (.t cG) (.t dp) (.c (.bool false)),none,[cG,dp]⟩
abbrev uY (d cG:Nat):cI:=⟨some d,.bin (.int .add) (.t cG) (.c (.int .i64 1)),none,[cG]⟩
abbrev wo (d cG dp:Nat):cI:=⟨some d,.gO (.t cG),(some (dp,false)),[cG,dp]⟩
abbrev wq (d cG dp:Nat):cI:=⟨some d,.pick (.t cG) (.c (.bool true)) (.t dp),none,[cG,dp]⟩
abbrev yw (d cG dp:Nat):cI:=⟨some d,.bin (.int .lss) (.t cG) (.t dp),none,[cG,dp]⟩
abbrev yx (d cG dp:Nat) (gv:Nat) (dr:Int) (dZ:Int):cI:=⟨some d,.call gv [(.t cG),(.c (.int .i64 dr)),(.c (.int .i64 dZ)),(.t dp)],none,[cG,dp]⟩
abbrev yy (d cG dp:Nat):cI:=⟨some d,.iM 0 (.t cG),(some (dp,true)),[cG,dp]⟩
abbrev yz (d cG dp:Nat):cI:=⟨some d,.iM 1 (.t cG),(some (dp,true)),[cG,dp]⟩
abbrev AM (d cG dp:Nat) (gv:Int):cI:=⟨some d,.bin (.int .eql) (.t cG) (.c (.int .u8 gv)),(some (dp,false)),[cG,dp]⟩
abbrev AN (d:Nat):cI:=⟨some d,.gO (.c .cS),none,[]⟩
abbrev Dn (d cG:Nat) (gv:Int):cI:=⟨some d,.bin (.int .eql) (.t cG) (.c (.int .u8 gv)),none,[cG]⟩
abbrev Dp (d cG dp:Nat):cI:=⟨some d,.sL (.t cG) (.t dp),none,[cG,dp]⟩
abbrev Dq (d cG dp fz:Nat):cI:=⟨some d,.sL (.t cG) (.t dp),(some (fz,true)),[cG,dp,fz]⟩
abbrev Gv (d cG:Nat):cI:=⟨some d,.bin (.int .eql) (.t cG) (.c (.int .i64 0)),none,[cG]⟩
abbrev Gw (d cG:Nat) (gv:Int):cI:=⟨some d,.bin (.int .gtr) (.t cG) (.c (.int .i64 gv)),none,[cG]⟩
set_option maxRecDepth 100000
set_option maxHeartbeats 40000000
noncomputable section
structure cm (f n:Nat) (fn:Func) (c:cc) (dN:List nC):Prop where
 aE:Tryz.prog.funcs[f]? =some fn
 Bj:(fn.body,fn.ntmps,Nat.ble fn.ntmps top,Nat.beq f eA,fQ Tryz.prog fn.ntmps (fn.body.getD .skip),jW Tryz.prog fn.ntmps fn.results.toList,c.plain)=(some (fn.body.getD .skip),n,true,false,c,dN,true)
theorem cm.z {f n:Nat} {fn:Func} {c:cc} {dN:List nC} (Z:cm f n fn c dN) {args:List V} {h:ah} {K:V->ah->Prop} (aH:Nat.ble args.length n=true) (H:gy Tryz.prog c (a6.bc args) h fun e r af=>e.ends/\∃aj,hz r af dN=some aj/\K (oneOf aj) af):dW Tryz.prog f args h K:=by have q:=Z.Bj;simp only [apX] at q;obtain ⟨ae,ag,ar,aT,bC,bA,cd⟩:=q;exact Z4 follows zV Z.aE ae ar aT (by rw [ag];exact aH) bC bA cd H
theorem cm.d {f n:Nat} {fn:Func} {c:cc} {dN:List nC} (Z:cm f n fn c dN) {args:List V} {u:Option V} {h:ah} {K:Option V->ah->Prop} (aH:Nat.ble args.length n=true) (H:gy Tryz.prog c (a6.bc args) h fun e r af=>e.ends/\∃aj,hz r af dN=some aj/\K u af):pE Tryz.prog f args u h K:=by have q:=Z.Bj;simp only [apX] at q;obtain ⟨ae,ag,ar,aT,bC,bA,cd⟩:=q;exact aaa follows zV Z.aE ae ar (by rw [ag];exact aH) bC bA cd H
theorem cm.x {f n:Nat} {fn:Func} {c:cc} {dN:List nC} (Z:cm f n fn c dN) {args:List V} {h:ah} {K X:V->ah->Prop} (aH:Nat.ble args.length n=true) (H:gy Tryz.prog c (a6.bc args) h (yV dN K X)):j2 Tryz.prog f args h K X:=by have q:=Z.Bj;simp only [apX] at q;obtain ⟨ae,ag,ar,aT,bC,bA,cd⟩:=q;exact Z1 follows zV Z.aE ae ar aT (by rw [ag];exact aH) bC bA cd H
structure wi (f n:Nat) (fn:Func) (c:cc) (dN:List nC):Prop where
 aE:Tryz.prog.funcs[f]? =some fn
 Bj:(fn.body,fn.ntmps,Nat.ble fn.ntmps top,Nat.beq f eA,fQ Tryz.prog fn.ntmps (fn.body.getD .skip),jW Tryz.prog fn.ntmps fn.results.toList)=(some (fn.body.getD .skip),n,true,false,c,dN)
theorem wi.x {f n:Nat} {fn:Func} {c:cc} {dN:List nC} (Z:wi f n fn c dN) {args:List V} {h:ah} {K X:V->ah->Prop} (aH:Nat.ble args.length n=true) (H:gy Tryz.prog c (a6.bc args) h (tA Tryz.prog dN K X)):j2 Tryz.prog f args h K X:=by have q:=Z.Bj;simp only [apX] at q;obtain ⟨ae,ag,ar,aT,bC,bA⟩:=q;exact Z2 follows zV Z.aE ae ar aT (by rw [ag];exact aH) bC bA H
theorem ah8 (n:Nat):Int.ofNat n=(n:Int):=rfl
theorem amv (n:Nat) (h:n<2 ^ 8):(⟨⟨⟨n,h⟩⟩⟩:UInt8)=UInt8.ofNat n:=by apply UInt8.toNat_inj.1;simp [UInt8.ofNat,UInt8.toNat];omega
theorem amu (n:Nat):(⟨BitVec.ofNat 8 n⟩:UInt8)=UInt8.ofNat n:=rfl
set_option linter.defProp false in
def cx:=And.intro ah8<|And.intro amv<|And.intro amu @apE
abbrev cA (fn:Func):={c:cc // fQ Tryz.prog fn.ntmps (fn.body.getD .skip)=c}
def g_:cA Tryz.f4:=⟨_,by conv=>lhs;reduce;simp only [cx,simprocAttr]⟩
theorem Yj:cm 4 72 Tryz.f4 g_.1 [.t 4]:=⟨Tryz.func4,by kernel_rfl⟩
def Of:cA Tryz.f7:=⟨_,by conv=>lhs;reduce;simp only [cx,simprocAttr]⟩
theorem YO:cm 7 19 Tryz.f7 Of.1 [.t 0]:=⟨Tryz.func7,by kernel_rfl⟩
def Oq:cA Tryz.f8:=⟨_,by conv=>lhs;reduce;simp only [cx,simprocAttr]⟩
theorem YV:cm 8 16 Tryz.f8 Oq.1 [.t 4]:=⟨Tryz.func8,by kernel_rfl⟩
def MS:cA Tryz.f11:=⟨_,by conv=>lhs;reduce;simp only [cx,simprocAttr]⟩
theorem Xb:cm 11 27 Tryz.f11 MS.1 [.t 4]:=⟨Tryz.func11,by kernel_rfl⟩
def M':cA Tryz.f13:=⟨_,by conv=>lhs;reduce;simp only [cx,simprocAttr]⟩
theorem Xl:cm 13 72 Tryz.f13 M'.1 [.t 2,.eB 3 2]:=⟨Tryz.func13,by kernel_rfl⟩
def Nx:cA Tryz.f20:=⟨_,by conv=>lhs;reduce;simp only [cx,simprocAttr]⟩
theorem XN:cm 20 17 Tryz.f20 Nx.1 [.eB 0 5]:=⟨Tryz.func20,by kernel_rfl⟩
def c21:cA Tryz.f21:=⟨_,by conv=>lhs;reduce;simp only [cx,simprocAttr]⟩
theorem XQ:cm 21 24 Tryz.f21 c21.1 [.t 6]:=⟨Tryz.func21,by kernel_rfl⟩
def oV:cc:=
 .seq (.seq (.cz [cn 23 4,e1 24 23,ix 25 24,gI 26 25,cn 27 0,td 28 27,yw 29 26 28,cn 30 29,nZ 31 4 30,oK 32 31 30,⟨some 33,.iM 3 (.t 32),(some (30,true)),[32,30]⟩,oJ 34 33 30,⟨some 35,.bin (.int .eql) (.t 34) (.c (.int .i64 0)),(some (30,true)),[34,30]⟩,te 36 30 35])
 (.cond (.t 36)
 (.skip)
 (.exit 0)))
 (.seq (.block 1 (.seq (.cz [cn 39 0,cn 40 4,e1 41 40,ix 42 41,gI 43 42,Dp 44 39 43,cn 5 44])
 (.seq (.cz [cn 45 4,cn 46 4,e1 47 46,ix 48 47,gI 49 48,e1 50 45,⟨some 51,.iM 2 (.t 50),none,[50]⟩,⟨none,.st 1 (.t 51) (.t 49),none,[51,49]⟩])
 (.seq (.block 2 (.seq (.cz [cn 55 5,⟨some 56,.call 60 [(.t 55),(.c (.int .u8 97)),(.c (.int .u8 122))],none,[55]⟩,cn 57 56,wo 58 5 57,⟨some 59,.call 60 [(.t 58),(.c (.int .u8 65)),(.c (.int .u8 90))],(some (57,false)),[58,57]⟩,wq 60 57 59,cn 61 60,wo 62 5 61,AM 63 62 61 95,wq 64 61 63,cn 54 64])
 (.cond (.t 54)
 (.cz [cn 65 4,qk 66 65 61])
 (.seq (.cz [cn 68 5,⟨some 69,.call 60 [(.t 68),(.c (.int .u8 48)),(.c (.int .u8 57))],none,[68]⟩,cn 67 69])
 (.cond (.t 67)
 (.cz [cn 70 4,qk 71 70 62])
 (.seq (.cz [cn 73 5,Dn 74 73 39,cn 72 74])
 (.cond (.t 72)
 (.cz [cn 75 4,qk 76 75 63])
 (.seq (.cz [cn 78 5,Dn 79 78 34,cn 77 79])
 (.cond (.t 77)
 (.cz [cn 80 4,qk 81 80 64])
 (.cz [cn 52 4,qk 53 52 65]))))))))))
 (.seq (.cz [cn 82 4,e1 83 82,pH 84 83,gI 85 84,⟨some 86,.bin (.int .neq) (.t 85) (.c (.int .i64 0)),none,[85]⟩])
 (.cond (.t 86)
 (.exit 0)
 (.skip)))))))
 (.cz [cn 37 4,qk 38 37 59]))
def sh:cc:=
 .seq (.cz [AN 2,⟨some 3,.new [(.int .i64 0),(.int .i64 0)],none,[]⟩])
 (.seq (.seq (.cz [cn 6 0,td 7 6,Gw 8 7 65536])
 (.cond (.t 8)
 (.seq (.cz [⟨some 9,.build [(.int .i64 0),(.int .i64 0)] [(0,1,(.c (.int .i64 3)))],none,[]⟩,AN 2,⟨none,.st 2 (.t 3) (.t 9),none,[3,9]⟩])
 (.ret))
 (.skip)))
 (.seq (.seq (.cz [cn 10 0,qk 11 10 58,cn 12 0,td 13 12,yw 14 11 13])
 (.cond (.t 14)
 (.seq (.cz [cn 15 0,qk 16 15 58,⟨some 17,.build [(.int .i64 0),(.int .i64 0)] [(0,1,(.c (.int .i64 250))),(1,1,(.t 16))],none,[16]⟩,AN 2,⟨none,.st 2 (.t 3) (.t 17),none,[3,17]⟩])
 (.ret))
 (.skip)))
 (.seq (.cz [cn 18 0,⟨some 19,.build [(.str []),(.int .i64 0),(.int .i64 0),(.int .i64 0),.cS] [(0,1,(.t 18))],none,[18]⟩,⟨some 20,.box (.t 19),none,[19]⟩,cn 4 20])
 (.seq (.seq (.cz [cn 21 4,qk 22 21 59])
 (.block 0 (.loop oV)))
 (.seq (.seq (.cz [cn 87 4,e1 88 87,pH 89 88,gI 90 89,⟨some 91,.bin (.int .neq) (.t 90) (.c (.int .i64 0)),none,[90]⟩])
 (.cond (.t 91)
 (.seq (.draw [cn 92 4,e1 93 92,pH 94 93,gI 95 94,cn 96 4,e1 97 96,⟨some 98,.iM 2 (.t 97),none,[97]⟩,gI 99 98,⟨some 100,.build [(.int .i64 0),(.int .i64 0)] [(0,1,(.t 95)),(1,1,(.t 99))],none,[95,99]⟩,AN 2,⟨none,.st 2 (.t 3) (.t 100),none,[3,100]⟩] [(3,[10]),(7,[10])] [] [])
 (.ret))
 (.skip)))
 (.seq (.cz [cn 101 4,e1 102 101,⟨some 103,.iM 4 (.t 102),none,[102]⟩,gI 104 103,⟨some 105,.build [(.int .i64 0),(.int .i64 0)] [],none,[]⟩,cn 2 104,⟨none,.st 2 (.t 3) (.t 105),none,[3,105]⟩])
 (.ret)))))))
theorem X6:cm 26 106 Tryz.f26 sh [.t 2,.eB 3 2]:=⟨Tryz.func26,by kernel_rfl⟩
def NU:cA Tryz.f31:=⟨_,by conv=>lhs;reduce;simp only [cx,simprocAttr]⟩
theorem Ya:cm 31 38 Tryz.f31 NU.1 [.t 4]:=⟨Tryz.func31,by kernel_rfl⟩
def NV:cA Tryz.f32:=⟨_,by conv=>lhs;reduce;simp only [cx,simprocAttr]⟩
theorem Yb:cm 32 27 Tryz.f32 NV.1 [.t 2]:=⟨Tryz.func32,by kernel_rfl⟩
def NW:cA Tryz.f33:=⟨_,by conv=>lhs;reduce;simp only [cx,simprocAttr]⟩
theorem Yc:cm 33 8 Tryz.f33 NW.1 [.t 4]:=⟨Tryz.func33,by kernel_rfl⟩
def c34:cA Tryz.f34:=⟨_,by conv=>lhs;reduce;simp only [cx,simprocAttr]⟩
theorem Yd:cm 34 16 Tryz.f34 c34.1 [.t 4]:=⟨Tryz.func34,by kernel_rfl⟩
def NX:cA Tryz.f35:=⟨_,by conv=>lhs;reduce;simp only [cx,simprocAttr]⟩
theorem Ye:cm 35 50 Tryz.f35 NX.1 []:=⟨Tryz.func35,by kernel_rfl⟩
def NY:cA Tryz.f36:=⟨_,by conv=>lhs;reduce;simp only [cx,simprocAttr]⟩
theorem Yf:cm 36 102 Tryz.f36 NY.1 [.eB 2 4]:=⟨Tryz.func36,by kernel_rfl⟩
def NS:cA Tryz.f29:=⟨_,by conv=>lhs;reduce;simp only [cx,simprocAttr]⟩
theorem X':cm 29 22 Tryz.f29 NS.1 [.t 2]:=⟨Tryz.func29,by kernel_rfl⟩
def N0:cA Tryz.f40:=⟨_,by conv=>lhs;reduce;simp only [cx,simprocAttr]⟩
theorem Yh:cm 40 20 Tryz.f40 N0.1 [.t 2]:=⟨Tryz.func40,by kernel_rfl⟩
def N8:cA Tryz.f58:=⟨_,by conv=>lhs;reduce;simp only [cx,simprocAttr]⟩
theorem Ys:cm 58 19 Tryz.f58 N8.1 [.t 2]:=⟨Tryz.func58,by kernel_rfl⟩
def Hi:cc:=
 .seq (.seq (.draw [cn 3 0,e1 4 3,ix 5 4,gI 6 5,cn 7 0,e1 8 7,tf 9 8,gI 10 9,td 11 10,yw 12 6 11,cn 13 12,nZ 14 0 13,oK 15 14 13,⟨some 16,.iM 3 (.t 15),(some (13,true)),[15,13]⟩,oJ 17 16 13,⟨some 18,.bin (.int .eql) (.t 17) (.c (.int .i64 0)),(some (13,true)),[17,13]⟩,te 19 13 18] [] [] [])
 (.cond (.t 19)
 (.skip)
 (.exit 0)))
 (.block 1 (.seq (.draw [cn 20 0,e1 21 20,tf 22 21,gI 23 22,cn 24 0,e1 25 24,ix 26 25,gI 27 26,Dp 28 23 27,cn 2 28] [] [] [])
 (.seq (.cz [cn 29 0,cn 30 0,e1 31 30,ix 32 31,gI 33 32,e1 34 29,⟨some 35,.iM 2 (.t 34),none,[34]⟩,⟨none,.st 1 (.t 35) (.t 33),none,[35,33]⟩])
 (.seq (.cz [cn 36 0,⟨some 37,.call 109 [(.t 36),(.c (.str [40,42]))],none,[36]⟩])
 (.cond (.t 37)
 (.cz [cn 38 0,qk 39 38 110])
 (.seq (.cz [cn 40 2,Dn 41 40 9,cn 42 41,wo 43 2 42,AM 44 43 42 10,wq 45 42 44,cn 46 45,wo 47 2 46,AM 48 47 46 13,wq 49 46 48,cn 50 49,wo 51 2 50,AM 52 51 50 32,wq 53 50 52])
 (.cond (.t 53)
 (.cz [cn 54 0,e1 55 54,ix 56 55,gI 57 56,uY 58 57,e1 59 54,ix 60 59,⟨none,.st 1 (.t 60) (.t 58),none,[60,58]⟩])
 (.ret))))))))
def N9:cc:=
 .block 0 (.loop Hi)
theorem Yt:cm 59 61 Tryz.f59 N9 []:=⟨Tryz.func59,by kernel_rfl⟩
def N_:cA Tryz.f60:=⟨_,by conv=>lhs;reduce;simp only [cx,simprocAttr]⟩
theorem Yu:cm 60 15 Tryz.f60 N_.1 [.t 6]:=⟨Tryz.func60,by kernel_rfl⟩
def Hj:cc:=
 .seq (.seq (.draw [cn 3 0,e1 4 3,ix 5 4,gI 6 5,cn 7 0,e1 8 7,tf 9 8,gI 10 9,td 11 10,yw 12 6 11,cn 13 12,nZ 14 0 13,oK 15 14 13,yy 16 15 13,oJ 17 16 13,nZ 18 0 13,oK 19 18 13,yz 20 19 13,oJ 21 20 13,Dq 22 17 21 13,⟨some 23,.call 111 [(.t 22)],(some (13,true)),[22,13]⟩,te 24 13 23] [(3,[20]),(7,[20]),(14,[20]),(18,[20])] [20] [3,4,5,6,7,8,9,10,11,12,13,14,15,16,17,18,19,20,21,22,23,24])
 (.cond (.t 24)
 (.skip)
 (.exit 0)))
 (.block 1 (.cz [cn 25 0,e1 26 25,ix 27 26,gI 28 27,uY 29 28,e1 30 25,ix 31 30,⟨none,.st 1 (.t 31) (.t 29),none,[31,29]⟩]))
def DM:cc:=
 .seq (.block 0 (.loop Hj))
 (.seq (.draw [cn 32 0,e1 33 32,tf 34 33,gI 35 34,cn 36 0,e1 37 36,⟨some 38,.iM 2 (.t 37),none,[37]⟩,gI 39 38,cn 40 0,e1 41 40,ix 42 41,gI 43 42,⟨some 44,.vV (.t 35) (some (.t 39)) (some (.t 43)) none,none,[35,39,43]⟩,cn 2 44] [] [] [])
 (.seq (.seq (.cz [cn 45 2,td 46 45,Gw 47 46 64])
 (.cond (.t 47)
 (.cz [cn 48 0,e1 49 48,pH 50 49,⟨none,.st 1 (.t 50) (.c (.int .i64 255)),none,[50]⟩])
 (.skip)))
 (.block 2 (.seq (.cz [cn 55 2,⟨some 56,.call 113 [],none,[]⟩,⟨some 57,.call 112 [(.t 55),(.t 56)],none,[55,56]⟩,cn 54 57])
 (.cond (.t 54)
 (.cz [cn 58 0,cn 59 2,yx 60 58 59 114 6 0])
 (.seq (.cz [cn 62 2,⟨some 63,.bin (.str .eql) (.t 62) (.c (.str [95])),none,[62]⟩,cn 61 63])
 (.cond (.t 61)
 (.cz [cn 64 0,cn 65 2,yx 66 64 65 114 7 0])
 (.seq (.cz [cn 68 2,⟨some 69,.sL (.t 68) (.c (.int .i64 0)),none,[68]⟩,⟨some 70,.call 60 [(.t 69),(.c (.int .u8 65)),(.c (.int .u8 90))],none,[69]⟩,cn 67 70])
 (.cond (.t 67)
 (.cz [cn 71 0,cn 72 2,yx 73 71 72 114 4 0])
 (.cz [cn 51 0,cn 52 2,yx 53 51 52 114 3 0]))))))))))
theorem Yv:cm 61 74 Tryz.f61 DM []:=⟨Tryz.func61,by kernel_rfl⟩
def Hl:cc:=
 .seq (.seq (.draw [cn 3 0,e1 4 3,ix 5 4,gI 6 5,cn 7 0,e1 8 7,tf 9 8,gI 10 9,td 11 10,yw 12 6 11,cn 13 12,nZ 14 0 13,oK 15 14 13,yy 16 15 13,oJ 17 16 13,nZ 18 0 13,oK 19 18 13,yz 20 19 13,oJ 21 20 13,Dq 22 17 21 13,⟨some 23,.call 60 [(.t 22),(.c (.int .u8 48)),(.c (.int .u8 57))],(some (13,true)),[22,13]⟩,te 24 13 23] [(3,[20]),(7,[20]),(14,[20]),(18,[20])] [20] [3,4,5,6,7,8,9,10,11,12,13,14,15,16,17,18,19,20,21,22,23,24])
 (.cond (.t 24)
 (.skip)
 (.exit 0)))
 (.block 1 (.seq (.draw [cn 25 2,⟨some 26,.bin (.int .mul) (.c (.int .i64 10)) (.t 25),none,[25]⟩,cn 27 0,e1 28 27,tf 29 28,gI 30 29,cn 31 0,e1 32 31,ix 33 32,gI 34 33,Dp 35 30 34,⟨some 36,.bin (.int .sub) (.t 35) (.c (.int .u8 48)),none,[35]⟩,⟨some 37,.mq (.int .i64) (.t 36),none,[36]⟩,⟨some 38,.bin (.int .add) (.t 26) (.t 37),none,[26,37]⟩,cn 2 38] [] [] [])
 (.seq (.seq (.cz [cn 39 2,⟨some 40,.bin (.int .geq) (.t 39) (.c (.int .i64 2147483648)),none,[39]⟩])
 (.cond (.t 40)
 (.seq (.cz [cn 41 0,e1 42 41,pH 43 42,⟨none,.st 1 (.t 43) (.c (.int .i64 254)),none,[43]⟩])
 (.cz [⟨some 2,.gO (.c (.int .i64 0)),none,[]⟩]))
 (.skip)))
 (.cz [cn 44 0,e1 45 44,ix 46 45,gI 47 46,uY 48 47,e1 49 44,ix 50 49,⟨none,.st 1 (.t 50) (.t 48),none,[50,48]⟩]))))
def yO:cc:=
 .seq (.cz [⟨some 2,.gO (.c (.int .i64 0)),none,[]⟩])
 (.seq (.block 0 (.loop Hl))
 (.cz [cn 51 0,cn 52 2,qk 53 52 115,⟨some 54,.call 114 [(.t 51),(.c (.int .i64 1)),(.t 53),(.c (.str []))],none,[51,53]⟩]))
theorem Yx:cm 62 55 Tryz.f62 yO []:=⟨Tryz.func62,by kernel_rfl⟩
def Hn:cc:=
 .seq (.seq (.draw [cn 15 0,e1 16 15,ix 17 16,gI 18 17,cn 19 0,e1 20 19,tf 21 20,gI 22 21,td 23 22,yw 24 18 23,cn 25 24,nZ 26 0 25,oK 27 26 25,yy 28 27 25,oJ 29 28 25,nZ 30 0 25,oK 31 30 25,yz 32 31 25,oJ 33 32 25,Dq 34 29 33 25,⟨some 35,.call 111 [(.t 34)],(some (25,true)),[34,25]⟩,te 36 25 35] [(3,[20]),(7,[20]),(14,[20]),(18,[20])] [20] [15,16,17,18,19,20,21,22,23,24,25,26,27,28,29,30,31,32,33,34,35,36])
 (.cond (.t 36)
 (.skip)
 (.exit 0)))
 (.block 1 (.cz [cn 37 0,e1 38 37,ix 39 38,gI 40 39,uY 41 40,e1 42 37,ix 43 42,⟨none,.st 1 (.t 43) (.t 41),none,[43,41]⟩]))
def wG:cc:=
 .seq (.cz [cn 4 0,e1 5 4,ix 6 5,gI 7 6,uY 8 7,e1 9 4,ix 10 9,⟨none,.st 1 (.t 10) (.t 8),none,[10,8]⟩])
 (.seq (.cz [cn 11 0,e1 12 11,ix 13 12,gI 14 13,cn 2 14])
 (.seq (.block 0 (.loop Hn))
 (.seq (.draw [cn 44 0,e1 45 44,tf 46 45,gI 47 46,cn 48 2,cn 49 0,e1 50 49,ix 51 50,gI 52 51,⟨some 53,.vV (.t 47) (some (.t 48)) (some (.t 52)) none,none,[47,48,52]⟩,cn 3 53] [] [] [])
 (.seq (.seq (.cz [cn 54 3,⟨some 55,.bin (.str .eql) (.t 54) (.c (.str [])),none,[54]⟩,cn 56 55,wo 57 3 56,⟨some 58,.sL (.t 57) (.c (.int .i64 0)),(some (56,false)),[57,56]⟩,⟨some 59,.call 60 [(.t 58),(.c (.int .u8 97)),(.c (.int .u8 122))],(some (56,false)),[58,56]⟩,⟨some 60,.un .not (.t 59),(some (56,false)),[59,56]⟩,wq 61 56 60])
 (.cond (.t 61)
 (.seq (.cz [cn 62 0,e1 63 62,pH 64 63,⟨none,.st 1 (.t 64) (.c (.int .i64 251)),none,[64]⟩])
 (.ret))
 (.skip)))
 (.seq (.seq (.cz [cn 65 3,td 66 65,Gw 67 66 64])
 (.cond (.t 67)
 (.cz [cn 68 0,e1 69 68,pH 70 69,⟨none,.st 1 (.t 70) (.c (.int .i64 255)),none,[70]⟩])
 (.skip)))
 (.cz [cn 71 0,cn 72 3,yx 73 71 72 114 5 0]))))))
theorem Yy:cm 63 74 Tryz.f63 wG []:=⟨Tryz.func63,by kernel_rfl⟩
def Hp:cc:=
 .seq (.seq (.draw [cn 11 0,e1 12 11,pH 13 12,gI 14 13,Gv 15 14,cn 16 15,nZ 17 0 16,oK 18 17 16,yz 19 18 16,oJ 20 19 16,nZ 21 0 16,oK 22 21 16,yy 23 22 16,oJ 24 23 16,⟨some 25,.len .str (.t 24),(some (16,true)),[24,16]⟩,⟨some 26,.bin (.int .lss) (.t 20) (.t 25),(some (16,true)),[20,25,16]⟩,te 27 16 26,cn 28 27,nZ 29 0 28,oK 30 29 28,yy 31 30 28,oJ 32 31 28,nZ 33 0 28,oK 34 33 28,yz 35 34 28,oJ 36 35 28,Dq 37 32 36 28,⟨some 38,.bin (.int .neq) (.t 37) (.c (.int .u8 34)),(some (28,true)),[37,28]⟩,te 39 28 38] [] [] [])
 (.cond (.t 39)
 (.skip)
 (.exit 0)))
 (.block 1 (.seq (.draw [cn 40 0,e1 41 40,tf 42 41,gI 43 42,cn 44 0,e1 45 44,ix 46 45,gI 47 46,Dp 48 43 47,cn 3 48] [] [] [])
 (.seq (.cz [cn 49 0,e1 50 49,ix 51 50,gI 52 51,uY 53 52,e1 54 49,ix 55 54,⟨none,.st 1 (.t 55) (.t 53),none,[55,53]⟩])
 (.seq (.seq (.cz [cn 56 3,Dn 57 56 92])
 (.cond (.t 57)
 (.cz [cn 58 0,qk 59 58 116,cn 3 59])
 (.seq (.cz [cn 60 3,⟨some 61,.bin (.int .lss) (.t 60) (.c (.int .u8 32)),none,[60]⟩,cn 62 61,wo 63 3 62,AM 64 63 62 127,wq 65 62 64])
 (.cond (.t 65)
 (.cz [cn 66 0,e1 67 66,pH 68 67,⟨none,.st 1 (.t 68) (.c (.int .i64 252)),none,[68]⟩])
 (.skip)))))
 (.cz [cn 69 2,cn 70 3,⟨some 71,.tt 1 1 [(.int .u8 0)] [(0,1,(.t 70))],none,[70]⟩,⟨some 72,.app 1 (.t 69) (.t 71),none,[69,71]⟩,cn 2 72])))))
def wH:cc:=
 .seq (.cz [AN 2])
 (.seq (.cz [cn 4 0,e1 5 4,ix 6 5,gI 7 6,uY 8 7,e1 9 4,ix 10 9,⟨none,.st 1 (.t 10) (.t 8),none,[10,8]⟩])
 (.seq (.block 0 (.loop Hp))
 (.seq (.seq (.draw [cn 73 0,e1 74 73,pH 75 74,gI 76 75,Gv 77 76,cn 78 77,nZ 79 0 78,oK 80 79 78,yz 81 80 78,oJ 82 81 78,nZ 83 0 78,oK 84 83 78,yy 85 84 78,oJ 86 85 78,⟨some 87,.len .str (.t 86),(some (78,true)),[86,78]⟩,⟨some 88,.bin (.int .geq) (.t 82) (.t 87),(some (78,true)),[82,87,78]⟩,te 89 78 88] [] [] [])
 (.cond (.t 89)
 (.cz [cn 90 0,e1 91 90,pH 92 91,⟨none,.st 1 (.t 92) (.c (.int .i64 252)),none,[92]⟩])
 (.skip)))
 (.seq (.cz [cn 93 0,e1 94 93,ix 95 94,gI 96 95,uY 97 96,e1 98 93,ix 99 98,⟨none,.st 1 (.t 99) (.t 97),none,[99,97]⟩])
 (.seq (.seq (.cz [cn 100 0,e1 101 100,pH 102 101,gI 103 102,Gv 104 103,cn 105 104,nZ 106 2 105,⟨some 107,.len .slice (.t 106),(some (105,true)),[106,105]⟩,⟨some 108,.bin (.int .gtr) (.t 107) (.c (.int .i64 4096)),(some (105,true)),[107,105]⟩,te 109 105 108])
 (.cond (.t 109)
 (.cz [cn 110 0,e1 111 110,pH 112 111,⟨none,.st 1 (.t 112) (.c (.int .i64 255)),none,[112]⟩])
 (.skip)))
 (.cz [cn 113 0,cn 114 2,⟨some 115,.mq .str (.t 114),none,[114]⟩,yx 116 113 115 114 2 0]))))))
theorem Yz:cm 64 117 Tryz.f64 wH []:=⟨Tryz.func64,by kernel_rfl⟩
def Oa:cA Tryz.f65:=⟨_,by conv=>lhs;reduce;simp only [cx,simprocAttr]⟩
theorem YA:cm 65 39 Tryz.f65 Oa.1 []:=⟨Tryz.func65,by kernel_rfl⟩
def Om:cA Tryz.f77:=⟨_,by conv=>lhs;reduce;simp only [cx,simprocAttr]⟩
theorem YL:cm 77 8 Tryz.f77 Om.1 [.t 4]:=⟨Tryz.func77,by kernel_rfl⟩
def On:cA Tryz.f78:=⟨_,by conv=>lhs;reduce;simp only [cx,simprocAttr]⟩
theorem YM:cm 78 8 Tryz.f78 On.1 [.t 4]:=⟨Tryz.func78,by kernel_rfl⟩
def Oo:cA Tryz.f79:=⟨_,by conv=>lhs;reduce;simp only [cx,simprocAttr]⟩
theorem YN:cm 79 9 Tryz.f79 Oo.1 [.t 2]:=⟨Tryz.func79,by kernel_rfl⟩
def Ot:cA Tryz.f80:=⟨_,by conv=>lhs;reduce;simp only [cx,simprocAttr]⟩
theorem YP:cm 80 30 Tryz.f80 Ot.1 [.eB 2 4]:=⟨Tryz.func80,by kernel_rfl⟩
def Ou:cA Tryz.f81:=⟨_,by conv=>lhs;reduce;simp only [cx,simprocAttr]⟩
theorem YQ:cm 81 88 Tryz.f81 Ou.1 [.eB 2 4]:=⟨Tryz.func81,by kernel_rfl⟩
def Ov:cA Tryz.f82:=⟨_,by conv=>lhs;reduce;simp only [cx,simprocAttr]⟩
theorem YR:cm 82 9 Tryz.f82 Ov.1 [.t 2]:=⟨Tryz.func82,by kernel_rfl⟩
def Ow:cA Tryz.f83:=⟨_,by conv=>lhs;reduce;simp only [cx,simprocAttr]⟩
theorem YS:cm 83 38 Tryz.f83 Ow.1 [.eB 4 4]:=⟨Tryz.func83,by kernel_rfl⟩
def Ox:cA Tryz.f84:=⟨_,by conv=>lhs;reduce;simp only [cx,simprocAttr]⟩
theorem YT:cm 84 9 Tryz.f84 Ox.1 [.t 2]:=⟨Tryz.func84,by kernel_rfl⟩
def Oy:cA Tryz.f85:=⟨_,by conv=>lhs;reduce;simp only [cx,simprocAttr]⟩
theorem YU:cm 85 2 Tryz.f85 Oy.1 [.t 0]:=⟨Tryz.func85,by kernel_rfl⟩
def MQ:cA Tryz.f108:=⟨_,by conv=>lhs;reduce;simp only [cx,simprocAttr]⟩
theorem W0:cm 108 74 Tryz.f108 MQ.1 [.t 4]:=⟨Tryz.func108,by kernel_rfl⟩
def MR:cA Tryz.f109:=⟨_,by conv=>lhs;reduce;simp only [cx,simprocAttr]⟩
theorem W1:cm 109 38 Tryz.f109 MR.1 [.t 4]:=⟨Tryz.func109,by kernel_rfl⟩
def MT:cA Tryz.f110:=⟨_,by conv=>lhs;reduce;simp only [cx,simprocAttr]⟩
theorem W3:cm 110 49 Tryz.f110 MT.1 []:=⟨Tryz.func110,by kernel_rfl⟩
def MU:cA Tryz.f111:=⟨_,by conv=>lhs;reduce;simp only [cx,simprocAttr]⟩
theorem W4:cm 111 21 Tryz.f111 MU.1 [.t 2]:=⟨Tryz.func111,by kernel_rfl⟩
def MV:cA Tryz.f112:=⟨_,by conv=>lhs;reduce;simp only [cx,simprocAttr]⟩
theorem W5:cm 112 18 Tryz.f112 MV.1 [.t 4]:=⟨Tryz.func112,by kernel_rfl⟩
def MW:cA Tryz.f113:=⟨_,by conv=>lhs;reduce;simp only [cx,simprocAttr]⟩
theorem W6:cm 113 2 Tryz.f113 MW.1 [.t 0]:=⟨Tryz.func113,by kernel_rfl⟩
def MX:cA Tryz.f114:=⟨_,by conv=>lhs;reduce;simp only [cx,simprocAttr]⟩
theorem W7:cm 114 25 Tryz.f114 MX.1 []:=⟨Tryz.func114,by kernel_rfl⟩
def MY:cA Tryz.f115:=⟨_,by conv=>lhs;reduce;simp only [cx,simprocAttr]⟩
theorem W8:cm 115 8 Tryz.f115 MY.1 [.t 2]:=⟨Tryz.func115,by kernel_rfl⟩
def MZ:cA Tryz.f116:=⟨_,by conv=>lhs;reduce;simp only [cx,simprocAttr]⟩
theorem W9:cm 116 112 Tryz.f116 MZ.1 [.t 2]:=⟨Tryz.func116,by kernel_rfl⟩
def M0:cA Tryz.f117:=⟨_,by conv=>lhs;reduce;simp only [cx,simprocAttr]⟩
theorem W':cm 117 2 Tryz.f117 M0.1 [.t 0]:=⟨Tryz.func117,by kernel_rfl⟩
def M9:cA Tryz.f128:=⟨_,by conv=>lhs;reduce;simp only [cx,simprocAttr]⟩
theorem Xh:cm 128 18 Tryz.f128 M9.1 [.t 4]:=⟨Tryz.func128,by kernel_rfl⟩
def M_:cA Tryz.f130:=⟨_,by conv=>lhs;reduce;simp only [cx,simprocAttr]⟩
theorem Xi:cm 130 50 Tryz.f130 M_.1 [.t 4]:=⟨Tryz.func130,by kernel_rfl⟩
def Na:cA Tryz.f131:=⟨_,by conv=>lhs;reduce;simp only [cx,simprocAttr]⟩
theorem Xj:cm 131 77 Tryz.f131 Na.1 [.t 2]:=⟨Tryz.func131,by kernel_rfl⟩
def Nb:cA Tryz.f132:=⟨_,by conv=>lhs;reduce;simp only [cx,simprocAttr]⟩
theorem Xk:cm 132 21 Tryz.f132 Nb.1 [.t 2]:=⟨Tryz.func132,by kernel_rfl⟩
def Nj:cA Tryz.f152:=⟨_,by conv=>lhs;reduce;simp only [cx,simprocAttr]⟩
theorem Xs:cm 152 16 Tryz.f152 Nj.1 [.t 2,.t 3]:=⟨Tryz.func152,by kernel_rfl⟩
end
end
section
open Go bg
theorem jj {f:FuncId} {args:List V} {h:ah} {v:V} (c:dW Tryz.prog f args h fun x af=>x=v/\af=h):e' Tryz.prog f args h v h:=by obtain ⟨x,af,q,rfl,rfl⟩:=c;exact q
def n9 (c:Int):Bool:=decide (48<=c)&&decide (c<=57)
def lq (c:Int):Bool:=decide (97<=c)&&decide (c<=122)
def k7 (c:Int):Bool:=decide (65<=c)&&decide (c<=90)
def xE (c:Int):Bool:=n9 c||lq c||k7 c||decide (c=95)||decide (c=39)
def gT (c a b:Int):Bool:=decide (a<=c)&&decide (c<=b)
theorem yS (c:Int) (h:ah):e' Tryz.prog 79 [.int .u8 c] h (.bool (n9 c)) h:=by refine jj (YN.z rfl (cl ?_));unfold Oo;simp +contextual only [↓aa,ad,simprocAttr];rfl
theorem F1 (c:Int) (h:ah):e' Tryz.prog 82 [.int .u8 c] h (.bool (lq c)) h:=by refine jj (YR.z rfl (cl ?_));unfold Ov;simp +contextual only [↓aa,ad,simprocAttr];rfl
theorem PU (c:Int) (h:ah):e' Tryz.prog 84 [.int .u8 c] h (.bool (k7 c)) h:=by refine jj (YT.z rfl (cl ?_));unfold Ox;simp +contextual only [↓aa,ad,simprocAttr];rfl
theorem oE (c a b:Int) (h:ah):e' Tryz.prog 60 [.int .u8 c,.int .u8 a,.int .u8 b] h (.bool (gT c a b)) h:=by refine jj (Yu.z rfl (cl ?_));unfold N_;simp +contextual only [↓aa,ad,simprocAttr];rfl
theorem acs (s p:List UInt8) (h:ah):e' Tryz.prog 128 [.str s,.str p] h (.bool (p.isPrefixOf s)) h:=by
 refine jj (Xh.z rfl (cl ?_));unfold M9;have aL:(0<=(p.length:Int))=True:=apk (by omega);by_cases aH:p.length<=s.length
 . have ae:((p.length:Int)<=(s.length:Int))=True:=apk (by omega);simp +contextual only [aL,ae,ao8,↓aa,ad,simprocAttr];rw [apR,apf,apN,List.prefix_iff_eq_take];exact ⟨fun e=>e.symm,fun e=>e.symm⟩
 . have ae:((p.length:Int)<=(s.length:Int))=False:=apl (by omega);simp +contextual only [aL,ae,ao8,↓aa,ad,simprocAttr];rw [aqP,<-Bool.not_eq_true,apN];exact fun e=>aH e.length_le
theorem acr (s p:List UInt8) (h:ah):e' Tryz.prog 78 [.str s,.str p] h (.bool (p.isPrefixOf s)) h:=by refine jj (YM.z rfl (cl ?_));unfold On;simp +contextual only [↓aa,ad,simprocAttr];refine bQ (acs s p h) ?_;simp +contextual only [↓aa,ad,simprocAttr]
theorem agU (c:Int) (h:ah):e' Tryz.prog 132 [.int .u8 c] h (.bool (xE c)) h:=by refine jj (Xk.z rfl (cl ?_));unfold Nb;simp +contextual only [↓aa,ad,simprocAttr];refine bQ (yS c h) ?_;simp +contextual only [↓aa,ad,simprocAttr];refine jE (.bool (lq c)) (fun ax=>by simp only [ax,↓aa,ad,simprocAttr];exact F1 _ _) ?_;simp +contextual only [↓aa,ad,simprocAttr];refine jE (.bool (k7 c)) (fun ax=>by simp only [ax,↓aa,ad,simprocAttr];exact PU _ _) ?_;simp +contextual only [↓aa,ad,simprocAttr];rfl
theorem L0 (c:Int) (h:ah):e' Tryz.prog 111 [.int .u8 c] h (.bool (gT c 97 122||gT c 65 90||gT c 48 57||decide (c=95)||decide (c=39))) h:=by refine jj (W4.z rfl (cl ?_));unfold MU;simp +contextual only [↓aa,ad,simprocAttr];refine bQ (oE c _ _ h) ?_;simp +contextual only [↓aa,ad,simprocAttr];refine jE (.bool (gT c 65 90)) (fun ax=>by simp only [ax,↓aa,ad,simprocAttr];exact oE _ _ _ _) ?_;simp +contextual only [↓aa,ad,simprocAttr];refine jE (.bool (gT c 48 57)) (fun ax=>by simp only [ax,↓aa,ad,simprocAttr];exact oE _ _ _ _) ?_;simp +contextual only [↓aa,ad,simprocAttr]
theorem Ij (s p:List UInt8) (at':Int) (rest:List V) (b:aO) (dA:Nat) (st:Bool) (h:ah) (ai:h.get b=.bc (.str s::.int .i64 at'::rest) dA st) (aL:0<=at') (ae:at'<=s.length):
 e' Tryz.prog 34 [.ptr b 0,.str p] h (.bool (p.isPrefixOf (s.drop at'.toNat))) h:=by
 refine jj (Yd.z rfl (cl ?_));unfold c34;have f0:(0<=at')=True:=apk aL;have f1:(at'<=(s.length:Int))=True:=apk ae;simp +contextual only [ai,f0,f1,↓aa,ad,simprocAttr];refine bQ (acr _ p h) ?_;simp +contextual only [ai,f0,f1,↓aa,ad,simprocAttr]
theorem K9 (s p:List UInt8) (at':Int) (rest:List V) (b:aO) (dA:Nat) (st:Bool) (h:ah) (ai:h.get b=.bc (.str s::.int .i64 at'::rest) dA st) (aL:0<=at') (ae:at'<=s.length) (al:s.length<=100000) (aG:p.length<=100000):
 e' Tryz.prog 109 [.ptr b 0,.str p] h (.bool (p.isPrefixOf (s.drop at'.toNat))) h:=by
 refine jj (W1.z rfl (cl ?_));unfold MR;have b9:IntKind.i64.wrap ((s.length:Int)-at')=(s.length:Int)-at':=wrap_i64 (by omega) (by omega);have aQ:IntKind.i64.wrap (at' + (p.length:Int))=at' + (p.length:Int):=wrap_i64 (by omega) (by omega);by_cases ax:(p.length:Int)<=(s.length:Int)-at'
 . have f0:(0<=at')=True:=apk aL;have f1:(at'<=at' + (p.length:Int))=True:=apk (by omega);have f2:(at' + (p.length:Int)<=(s.length:Int))=True:=apk (by omega);simp +contextual only [ai,b9,aQ,ax,f0,f1,f2,↓aa,ad,simprocAttr];rw [show (at' + (p.length:Int)).toNat-at'.toNat=p.length from by omega];rw [apR,apf,apN,List.prefix_iff_eq_take];exact ⟨fun e=>e.symm,fun e=>e.symm⟩
 . simp +contextual only [ai,b9,aQ,ax,↓aa,ad,simprocAttr];rw [aqP,<-Bool.not_eq_true,apN];intro e;have:=e.length_le;rw [apr] at this;omega
def ht:List UInt8->Int->Option Nat
 | [],_=>none
 | [_],_=>none
 | x::y::r,d=>if x=40/\y=42 then (ht r (d+1)).map (· +2) else if x=42/\y=41 then (if d-1=0 then some 2 else (ht r (d-1)).map (· +2)) else (ht (y::r) d).map (· +1)
theorem RS (r:List UInt8) (d:Int) (h:r≠[]):ht r d=if ([40,42]:List UInt8).isPrefixOf r=true then (ht (r.drop 2) (d+1)).map (· +2) else
 if ([42,41]:List UInt8).isPrefixOf r=true then (if d-1=0 then some 2 else (ht (r.drop 2) (d-1)).map (· +2)) else (ht (r.drop 1) d).map (· +1):=by
 match r,h with
 | [x],_=>simp [ht,List.isPrefixOf]
 | x::y::r,_=>
   have aP:(([40,42]:List UInt8).isPrefixOf (x::y::r)=true)=(x=40/\y=42):=by simp only [List.isPrefixOf,apY,ao7,aqt];exact propext ⟨fun q=>⟨q.1.symm,q.2.symm⟩,fun q=>⟨q.1.symm,q.2.symm⟩⟩
   have bu:(([42,41]:List UInt8).isPrefixOf (x::y::r)=true)=(x=42/\y=41):=by simp only [List.isPrefixOf,apY,ao7,aqt];exact propext ⟨fun q=>⟨q.1.symm,q.2.symm⟩,fun q=>⟨q.1.symm,q.2.symm⟩⟩
   rw [ht];simp only [aP,bu,aqE,apT]
theorem Fz {a b:UInt8} {r:List UInt8} (h:([a,b]:List UInt8).isPrefixOf r=true):2<=r.length:=by rw [apN] at h;simpa using h.length_le
def gR (s:List UInt8) (at' e:Int):c':=.bc [.str s,.int .i64 at',.int .i64 e] 0 false
theorem ahS (s:List UInt8) (a0:Nat) (ek:Int) (b:aO) (h:ah) (ai:h.get b=gR s a0 ek) (aL:a0<=s.length) (al:s.length<=100000) (dB:Old h b):
 dW Tryz.prog 35 [.ptr b 0] h fun x af=>x=.tuple []/\Mod (fun x=>x=b) h af/\(match ht (s.drop a0) 0 with
  | some n=>af.get b=gR s ((a0+n:Nat):Int) ek/\a0+n<=s.length
  | none=>af.get b=gR s (s.length:Int) 253):=by
 refine Ye.z rfl (cl ?_);unfold NX;unfold gR at ai ⊢;simp only [ai,↓aa,ad,simprocAttr]
 refine gf (fun r af=>∃(a:Nat) (d:Int),a0<=a/\a<=s.length/\r 0=.ptr b 0/\r 2=.int .i64 d/\af.get b=.bc [.str s,.int .i64 a,.int .i64 ek] 0 false/\Mod (fun x=>x=b) h af/\-(a:Int)<=d/\d<=a/\
  ht (s.drop a0) 0=(ht (s.drop a) d).map (· + (a-a0))) (fun r af=>s.length - ((hc (af.get b) 1).getD .bad).toN) ?_ ?_
 . refine ⟨a0,0,ao1 _,aL,?_⟩;simp only [↓aa,ad,simprocAttr];refine ⟨ai,Mod.refl _ _,by omega,by omega,?_⟩;rw [aqs];cases ht (s.drop a0) 0<;>rfl
 . rintro r af ⟨a,d,gv,dr,aW,bf,ay,hm,d0,d1,br⟩;by_cases fF:(s.length:Int)<=(a:Int)
   . have b1:a=s.length:=by omega
     have aF:ht (s.drop a) d=none:=by rw [b1,aqw];rfl
     rw [aF] at br;simp only [aW,bf,ay,fF,↓aa,ad,simprocAttr];rw [br];refine ⟨hm.set (fun _=>rfl) _,?_⟩;simp only [b1,Option.map_none,eC,apd]
   . have dY:s.drop a≠[]:=by
      intro q;rw [List.drop_eq_nil_iff] at q;omega
     have rP:∀p,e' Tryz.prog 34 [.ptr b 0,.str p] af (.bool (p.isPrefixOf (s.drop a))) af:=fun p=>by have:=Ij s p (a:Int) [.int .i64 ek] b 0 false af ay (by omega) (by omega);simpa using this
     have ka:=RS (s.drop a) d dY;simp only [aW,bf,ay,fF,↓aa,ad,simprocAttr];refine bQ (rP _) ?_;cases j':([40,42]:List UInt8).isPrefixOf (s.drop a) with
     | true=>
       have ag:=Fz j';rw [apr] at ag;rw [j',ape rfl] at ka;have b9:IntKind.i64.wrap (d+1)=d+1:=wrap_i64 (by omega) (by omega);have aQ:IntKind.i64.wrap ((a:Int)+2)=((a+2:Nat):Int):=by rw [wrap_i64 (by omega) (by omega)];rfl
       simp only [aW,bf,ay,b9,aQ,↓aa,ad,simprocAttr];refine ⟨⟨a+2,d+1,by omega,by omega,rfl,rfl,hm.set (fun _=>rfl) _,by omega,by omega,?_⟩,by omega⟩;rw [br,ka,ap0,aqe];congr 1;funext q;simp only [Function.comp];omega
     | false=>
       rw [j',ao_ (by decide)] at ka;simp only [aW,bf,ay,↓aa,ad,simprocAttr];refine bQ (rP _) ?_;cases h7:([42,41]:List UInt8).isPrefixOf (s.drop a) with
       | true=>
         have ag:=Fz h7;rw [apr] at ag;rw [h7,ape rfl] at ka;have b9:IntKind.i64.wrap (d-1)=d-1:=wrap_i64 (by omega) (by omega);have aQ:IntKind.i64.wrap ((a:Int)+2)=((a+2:Nat):Int):=by rw [wrap_i64 (by omega) (by omega)];rfl
         by_cases a_:d-1=0
         . rw [ape a_] at ka;obtain rfl:d=1:=by omega
           have aB:IntKind.i64.wrap 0=0:=rfl;simp only [aW,bf,ay,aB,aQ,↓aa,ad,simprocAttr];rw [br,ka];refine ⟨hm.set (fun _=>rfl) _,?_⟩;simp only [apZ,eC,apd];refine ⟨?_,by omega⟩;rw [show a0 + (2 + (a-a0))=a+2 from by omega]
         . rw [ao_ a_] at ka;simp only [aW,bf,ay,b9,aQ,a_,↓aa,ad,simprocAttr];refine ⟨⟨a+2,d-1,by omega,by omega,rfl,rfl,hm.set (fun _=>rfl) _,by omega,by omega,?_⟩,by omega⟩;rw [br,ka,ap0,aqe];congr 1;funext q;simp only [Function.comp];omega
       | false=>
         rw [h7,ao_ (by decide)] at ka;have aQ:IntKind.i64.wrap ((a:Int)+1)=((a+1:Nat):Int):=by rw [wrap_i64 (by omega) (by omega)];rfl
         simp only [aW,bf,ay,aQ,↓aa,ad,simprocAttr];refine ⟨⟨a+1,d,by omega,by omega,rfl,rfl,hm.set (fun _=>rfl) _,by omega,by omega,?_⟩,by omega⟩;rw [br,ka,ap0,aqe];congr 1;funext q;simp only [Function.comp];omega
theorem drop_cons {s:List UInt8} {a:Nat} (h:a<s.length):s.drop a=s[a]::s.drop (a+1):=apB h
theorem Tw (p:UInt8->Bool):∀l:List UInt8,(l.takeWhile p).length<=l.length
 | []=>by simp
 | x::l=>by
   simp only [aqd]
   split
   . simpa using Tw p l
   . simp
theorem S4 (s:List UInt8) (a0:Nat) (ek:Int) (b:aO) (g:FuncId) (p:Int->Bool) (h:ah) (ai:h.get b=gR s a0 ek) (aL:a0<=s.length) (al:s.length<=100000) (bm:(g=4294967296)=False)
 (aG:∀c h,e' Tryz.prog g [.int .u8 c] h (.bool (p c)) h):
 dW Tryz.prog 130 [.ptr b 0,.func g []] h fun x af=>x=.str ((s.drop a0).takeWhile fun c=>p c.toNat)/\Mod (fun x=>x=b) h af/\af.get b=gR s ((a0 + ((s.drop a0).takeWhile fun c=>p c.toNat).length:Nat):Int) ek:=by
 refine Xi.z rfl (cl ?_);unfold M_;unfold gR at ai ⊢;simp only [ai,↓aa,ad,simprocAttr]
 refine gf (fun r af=>∃(a:Nat),a0<=a/\a<=s.length/\r 0=.ptr b 0/\r 1=.func g []/\r 5=.int .i64 a0/\af.get b=.bc [.str s,.int .i64 a,.int .i64 ek] 0 false/\Mod (fun x=>x=b) h af/\
  ((s.drop a0).takeWhile fun c=>p c.toNat)=(s.drop a0).take (a-a0)++((s.drop a).takeWhile fun c=>p c.toNat)) (fun r af=>s.length - ((hc (af.get b) 1).getD .bad).toN) ?_ ?_
 . refine ⟨a0,ao1 _,aL,?_⟩;simp only [↓aa,ad,simprocAttr];refine ⟨ai,Mod.refl _ _,?_⟩;rw [aqs];rfl
 . rintro r af ⟨a,gv,dr,aW,cL,b4,ay,hm,br⟩;have fin:((s.drop a).takeWhile fun c=>p c.toNat)=[]->V.str (((s.drop a0).take (a-a0)))=V.str ((s.drop a0).takeWhile fun c=>p c.toNat)/\Mod (fun x=>x=b) h af/\c'.bc [V.str s,V.int .i64 a,V.int .i64 ek] 0 false=c'.bc [V.str s,V.int .i64 ((a0 + ((s.drop a0).takeWhile fun c=>p c.toNat).length:Nat):Int),V.int .i64 ek] 0 false:=by
    intro q;rw [q,apo] at br;rw [br,aqD,apr];refine ⟨rfl,hm,?_⟩;rw [show a0+min (a-a0) (s.length-a0)=a from by omega]
   have f0:(0<=(a0:Int))=True:=apk (by omega);have f1:((a0:Int)<=(a:Int))=True:=apk (by omega);have f2:((a:Int)<=(s.length:Int))=True:=apk (by omega);have f3:(0<=(a:Int))=True:=apk (by omega);by_cases fF:(a:Int) < (s.length:Int)
   . have a1:a<s.length:=by omega
     rw [drop_cons a1,aqd] at br fin;simp only [bm,apa,aW,cL,b4,ay,fF,f0,f1,f2,f3,ao3 a1,ao8,↓aa,ad,simprocAttr];refine bQ (aG _ _) ?_;cases rN:p ((s[a]).toNat:Int) with
     | true=>
       rw [rN] at br;have aQ:IntKind.i64.wrap ((a:Int)+1)=((a+1:Nat):Int):=by rw [wrap_i64 (by omega) (by omega)];rfl
       simp only [rN,aW,cL,b4,ay,fF,f0,f1,f2,f3,aQ,ao3 a1,ao8,↓aa,ad,simprocAttr];refine ⟨⟨a+1,by omega,by omega,rfl,hm.set (fun _=>rfl) _,?_⟩,by omega⟩;rw [br,ape rfl];have zh:a-a0 < (s.drop a0).length:=by rw [apr];omega
       rw [show a+1-a0=a-a0+1 from by omega,<-List.take_append_getElem zh,apK];congr 1;rw [List.getElem_drop];simp only [show a0 + (a-a0)=a from by omega];rfl
     | false=>
       rw [rN] at fin;simp only [rN,aW,cL,b4,ay,fF,f0,f1,f2,f3,ao3 a1,ao8,↓aa,ad,simprocAttr];exact fin rfl
   . have b1:a=s.length:=by omega
     simp only [bm,apa,aW,cL,b4,ay,fF,f0,f1,f2,f3,ao8,↓aa,ad,simprocAttr];refine fin ?_;rw [b1,aqw];rfl
end
end Go.Proofs.YtahfljfikfkpnaaGreatDoor
