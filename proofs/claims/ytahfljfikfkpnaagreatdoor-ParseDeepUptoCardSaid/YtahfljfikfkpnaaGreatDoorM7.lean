/- The chapter's functions, walked by the abstract machine: plain lemmas, no condition. Printed by a program from longer texts: names made short. -/
import Derived.Test.YtahfljfikfkpnaaGreatDoorM6
import Derived.Test.YtahfljfikfkpnaaGreatDoorM4
import Derived.Test.YtahfljfikfkpnaaGreatDoorM5
import Derived.WalkSmall
import Derived.Shelf.Strings.Search3
import Derived.Shelf.Strings.OnBuilder
import Derived.Shelf.Strconv.Itoa3
import Derived.MakeChecks
import Derived.Shelf.Vars
import Derived.Lay
import Derived.LaidLaws
import Derived.Lib.LaidTab
import Derived.Lib.LaidU8T
import Derived.Test.YtahfljfikfkpnaaGreatDoorRows
set_option linter.unusedSectionVars false
set_option linter.unusedSimpArgs false
set_option linter.unusedVariables false
set_option maxHeartbeats 64000000
noncomputable section
namespace Go.Proofs.YtahfljfikfkpnaaGreatDoor
section
open Go ba Go.RowKit
theorem A3 {w:World} {p:Addr} {v:Value} (h:w.cell? p=some v):p.block<w.heap.size:=by
 unfold World.cell? at h;by_cases q:p.block<w.heap.size
 . exact q
 . rw [apU (by omega)] at h;cases h
def yq (w:World) (g:Nat):Prop:=∃aV,w.cell? ⟨g,0,none⟩=some aV/\(aV=.nilIface\/∃alB Sb,aV=.iface alB Sb)
theorem yq.hX {w w':World} {g:Nat} (h:yq w g) (ai:Below w.heap.size w w'):yq w' g:=by obtain ⟨aV,ad,ag⟩:=h;exact ⟨aV,by rw [ai.cell (A3 ad)];exact ad,ag⟩
structure Gw (w:World):Prop where
 TI:Lib.Utf8Tabs 0 1 w
 maxLen:∃m,w.cell? ⟨2,0,none⟩=some (.int .i64 m)
 O':yq w 4
 Si:Lib.TabIs Tryz.prog w "internal/strconv.uint64pow10" .u64 Lib.pow10Tab
instance lay:Lay where
 ok w:=Gw w
 hX:=by
  intro w w' h ai;refine ⟨?_,?_,h.O'.hX ai,?_⟩
  . obtain ⟨ad,ag⟩:=h.TI;refine ⟨fun c ax=>?_,fun i aJ=>?_⟩
    . rw [ai.cell (A3 (ad c ax))];exact ad c ax
    . obtain ⟨an,av⟩:=ag i aJ;rw [ai.cell (A3 an),ai.cell (A3 av)];exact ⟨an,av⟩
  . obtain ⟨m,q⟩:=h.maxLen;exact ⟨m,by rw [ai.cell (A3 q)];exact q⟩
  . have ay:Tryz.prog.globalNamed "internal/strconv.uint64pow10"=some 5:=by kernel_rfl
    have aG:5<w.heap.size:=by
     have q:=h.Si;unfold Lib.TabIs World.var? at q;rw [ay] at q;by_cases a7:5<w.heap.size
     . exact a7
     . simp only [Option.bind_some] at q;rw [apU (by omega)] at q;cases q
    exact var?_below ai ay aG h.Si
section
open Go.Shelf
def Tryz.agp:Go.Shelf.Ren:=⟨fun | 144=>133 | 143=>163 | 219=>198 | 217=>77 | 225=>215 | 224=>216 | 267=>217 | 266=>127 | 314=>226 | n=>n,fun | 9=>9 | 4=>4 | 3=>3 | 5=>5 | 46=>131 | 146=>154 | 51=>153 | n=>n,fun | 1=>2 | n=>n⟩
theorem Tryz.ago:Go.Proofs.Lays.n144 Tryz.prog Tryz.agp:={
 mixed:=by kernel_rfl,
 f143:=Tryz.func163.trans (congrArg some (by kernel_rfl)),
 f144:=Tryz.func133.trans (congrArg some (by kernel_rfl)),
 f217:=Tryz.func77.trans (congrArg some (by kernel_rfl)),
 f219:=Tryz.func198.trans (congrArg some (by kernel_rfl)),
 f224:=Tryz.func216.trans (congrArg some (by kernel_rfl)),
 f225:=Tryz.func215.trans (congrArg some (by kernel_rfl)),
 f266:=Tryz.func127.trans (congrArg some (by kernel_rfl)),
 f267:=Tryz.func217.trans (congrArg some (by kernel_rfl)),
 f314:=Tryz.func226.trans (congrArg some (by kernel_rfl)),
 t3:=Tryz.underlying3,
 a3:=Tryz.isAgg3,
 z3:=Tryz.sizeOf3,
 v3:=Tryz.zeroValue3,
 t4:=Tryz.underlying4,
 a4:=Tryz.isAgg4,
 z4:=Tryz.sizeOf4,
 v4:=Tryz.zeroValue4,
 t5:=Tryz.underlying5,
 a5:=Tryz.isAgg5,
 z5:=Tryz.sizeOf5,
 v5:=Tryz.zeroValue5,
 t9:=Tryz.underlying9,
 a9:=Tryz.isAgg9,
 z9:=Tryz.sizeOf9,
 v9:=Tryz.zeroValue9,
 t46:=Tryz.underlying131,
 a46:=Tryz.isAgg131,
 z46:=Tryz.sizeOf131,
 v46:=Tryz.zeroValue131,
 t51:=Tryz.underlying153,
 a51:=Tryz.isAgg153,
 z51:=Tryz.sizeOf153,
 v51:=Tryz.zeroValue153,
 t146:=Tryz.underlying154,
 a146:=Tryz.isAgg154,
 z146:=Tryz.sizeOf154,
 v146:=Tryz.zeroValue154,
 g1:=by kernel_rfl}
theorem Zz (s sub:ByteArray) (m:Int) (w:World) (al:s.size<4294967281) (hm:w.cell? ⟨2,0,none⟩=some (.int .i64 m)):
 Calls Tryz.prog 133 #[.string s,.string sub] w fun e w'=>e=.returned (.bool (Lib.contains s.data.toList sub.data.toList))/\w'=w:=Any.strings_Contains Tryz.ago s sub m w al hm
end
section
open Go.Proofs Go.Sort
end
theorem follows:Tryz.prog.follows .mixedOrders=true:=by kernel_rfl
theorem names:(Tryz.prog.funcs.toList.all fun fn=>!(fn.name == "runtime.NumGoroutine"))=true:=by kernel_rfl
theorem zN:hh Tryz.prog:=by intro f fn h;have:=ao9.1 names fn (apJ (i:=f) (by simpa using h));simpa using this
end
section
open Go ba
abbrev cp (d cG:Nat):cI:=⟨some d,.gM (.t cG),none,[cG]⟩
abbrev eZ (d cG:Nat):cI:=⟨some d,.qG (.t cG),none,[cG]⟩
abbrev gH (d cG:Nat):cI:=⟨some d,.kJ (.t cG),none,[cG]⟩
abbrev iu (d cG:Nat):cI:=⟨some d,.iI 1 (.t cG),none,[cG]⟩
abbrev nY (d cG dr:Nat):cI:=⟨some d,.gM (.t cG),(some (dr,true)),[cG,dr]⟩
abbrev oG (d cG dr:Nat):cI:=⟨some d,.kJ (.t cG),(some (dr,true)),[cG,dr]⟩
abbrev oH (d cG dr:Nat):cI:=⟨some d,.qG (.t cG),(some (dr,true)),[cG,dr]⟩
abbrev px (d cG:Nat):cI:=⟨some d,.iI 3 (.t cG),none,[cG]⟩
abbrev qa (d cG:Nat) (hQ:Nat):cI:=⟨some d,.call hQ [(.t cG)],none,[cG]⟩
abbrev s0 (d cG:Nat):cI:=⟨some d,.iI 0 (.t cG),none,[cG]⟩
abbrev sY (d cG:Nat):cI:=⟨some d,.len .str (.t cG),none,[cG]⟩
abbrev sZ (d cG dr:Nat):cI:=⟨some d,.pick (.t cG) (.t dr) (.c (.bool false)),none,[cG,dr]⟩
abbrev uP (d cG:Nat):cI:=⟨some d,.bin (.int .add) (.t cG) (.c (.int .i64 1)),none,[cG]⟩
abbrev wg (d cG dr:Nat):cI:=⟨some d,.gM (.t cG),(some (dr,false)),[cG,dr]⟩
abbrev wh (d cG dr:Nat):cI:=⟨some d,.pick (.t cG) (.c (.bool true)) (.t dr),none,[cG,dr]⟩
abbrev yr (d cG dr:Nat):cI:=⟨some d,.bin (.int .lss) (.t cG) (.t dr),none,[cG,dr]⟩
abbrev ys (d cG dr:Nat) (hQ:Nat) (c8:Int) (dJ:Int):cI:=⟨some d,.call hQ [(.t cG),(.c (.int .i64 c8)),(.c (.int .i64 dJ)),(.t dr)],none,[cG,dr]⟩
abbrev yt (d cG dr:Nat):cI:=⟨some d,.iI 0 (.t cG),(some (dr,true)),[cG,dr]⟩
abbrev yu (d cG dr:Nat):cI:=⟨some d,.iI 1 (.t cG),(some (dr,true)),[cG,dr]⟩
abbrev AD (d cG dr:Nat) (hQ:Int):cI:=⟨some d,.bin (.int .eql) (.t cG) (.c (.int .u8 hQ)),(some (dr,false)),[cG,dr]⟩
abbrev AE (d:Nat):cI:=⟨some d,.gM (.c .cL),none,[]⟩
abbrev Dm (d cG:Nat) (hQ:Int):cI:=⟨some d,.bin (.int .eql) (.t cG) (.c (.int .u8 hQ)),none,[cG]⟩
abbrev Dn (d cG dr:Nat):cI:=⟨some d,.sx (.t cG) (.t dr),none,[cG,dr]⟩
abbrev Dp (d cG dr fo:Nat):cI:=⟨some d,.sx (.t cG) (.t dr),(some (fo,true)),[cG,dr,fo]⟩
abbrev Gr (d cG:Nat):cI:=⟨some d,.bin (.int .eql) (.t cG) (.c (.int .i64 0)),none,[cG]⟩
abbrev Gs (d cG:Nat) (hQ:Int):cI:=⟨some d,.bin (.int .gtr) (.t cG) (.c (.int .i64 hQ)),none,[cG]⟩
set_option maxRecDepth 100000
set_option maxHeartbeats 40000000
noncomputable section
structure cn (f n:Nat) (fn:Func) (c:cb) (dO:List nz):Prop where
 aE:Tryz.prog.funcs[f]? =some fn
 Bc:(fn.body,fn.ntmps,Nat.ble fn.ntmps top,Nat.beq f eA,fN Tryz.prog fn.ntmps (fn.body.getD .skip),jR Tryz.prog fn.ntmps fn.results.toList,c.plain)=(some (fn.body.getD .skip),n,true,false,c,dO,true)
theorem cn.z {f n:Nat} {fn:Func} {c:cb} {dO:List nz} (Z:cn f n fn c dO) {args:List V} {h:ah} {K:V->ah->Prop} (aG:Nat.ble args.length n=true) (H:gz Tryz.prog c (a1.bd args) h fun e r ae=>e.ends/\∃aj,hs r ae dO=some aj/\K (oneOf aj) ae):dY Tryz.prog f args h K:=by have q:=Z.Bc;simp only [apy] at q;obtain ⟨ad,ag,ar,aT,bE,bA,cl⟩:=q;exact ZU follows zN Z.aE ad ar aT (by rw [ag];exact aG) bE bA cl H
theorem cn.d {f n:Nat} {fn:Func} {c:cb} {dO:List nz} (Z:cn f n fn c dO) {args:List V} {u:Option V} {h:ah} {K:Option V->ah->Prop} (aG:Nat.ble args.length n=true) (H:gz Tryz.prog c (a1.bd args) h fun e r ae=>e.ends/\∃aj,hs r ae dO=some aj/\K u ae):pt Tryz.prog f args u h K:=by have q:=Z.Bc;simp only [apy] at q;obtain ⟨ad,ag,ar,aT,bE,bA,cl⟩:=q;exact Z2 follows zN Z.aE ad ar (by rw [ag];exact aG) bE bA cl H
theorem cn.x {f n:Nat} {fn:Func} {c:cb} {dO:List nz} (Z:cn f n fn c dO) {args:List V} {h:ah} {K X:V->ah->Prop} (aG:Nat.ble args.length n=true) (H:gz Tryz.prog c (a1.bd args) h (yP dO K X)):jW Tryz.prog f args h K X:=by have q:=Z.Bc;simp only [apy] at q;obtain ⟨ad,ag,ar,aT,bE,bA,cl⟩:=q;exact ZR follows zN Z.aE ad ar aT (by rw [ag];exact aG) bE bA cl H
structure wa (f n:Nat) (fn:Func) (c:cb) (dO:List nz):Prop where
 aE:Tryz.prog.funcs[f]? =some fn
 Bc:(fn.body,fn.ntmps,Nat.ble fn.ntmps top,Nat.beq f eA,fN Tryz.prog fn.ntmps (fn.body.getD .skip),jR Tryz.prog fn.ntmps fn.results.toList)=(some (fn.body.getD .skip),n,true,false,c,dO)
theorem wa.x {f n:Nat} {fn:Func} {c:cb} {dO:List nz} (Z:wa f n fn c dO) {args:List V} {h:ah} {K X:V->ah->Prop} (aG:Nat.ble args.length n=true) (H:gz Tryz.prog c (a1.bd args) h (tk Tryz.prog dO K X)):jW Tryz.prog f args h K X:=by have q:=Z.Bc;simp only [apy] at q;obtain ⟨ad,ag,ar,aT,bE,bA⟩:=q;exact ZS follows zN Z.aE ad ar aT (by rw [ag];exact aG) bE bA H
theorem ahO (n:Nat):Int.ofNat n=(n:Int):=rfl
theorem al7 (n:Nat) (h:n<2 ^ 8):(⟨⟨⟨n,h⟩⟩⟩:UInt8)=UInt8.ofNat n:=by apply UInt8.toNat_inj.1;simp [UInt8.ofNat,UInt8.toNat];omega
theorem al6 (n:Nat):(⟨BitVec.ofNat 8 n⟩:UInt8)=UInt8.ofNat n:=rfl
set_option linter.defProp false in
def cy:=And.intro ahO<|And.intro al7<|And.intro al6 @apc
abbrev cB (fn:Func):={c:cb // fN Tryz.prog fn.ntmps (fn.body.getD .skip)=c}
def c3:cB Tryz.f3:=⟨_,by conv=>lhs;reduce;simp only [cy,simprocAttr]⟩
theorem X9:cn 3 82 Tryz.f3 c3.1 [.t 4]:=⟨Tryz.func3,by kernel_rfl⟩
def N6:cB Tryz.f7:=⟨_,by conv=>lhs;reduce;simp only [cy,simprocAttr]⟩
theorem YF:cn 7 19 Tryz.f7 N6.1 [.t 0]:=⟨Tryz.func7,by kernel_rfl⟩
def Oe:cB Tryz.f8:=⟨_,by conv=>lhs;reduce;simp only [cy,simprocAttr]⟩
theorem YM:cn 8 16 Tryz.f8 Oe.1 [.t 4]:=⟨Tryz.func8,by kernel_rfl⟩
def MI:cB Tryz.f11:=⟨_,by conv=>lhs;reduce;simp only [cy,simprocAttr]⟩
theorem W4:cn 11 27 Tryz.f11 MI.1 [.t 4]:=⟨Tryz.func11,by kernel_rfl⟩
def MZ:cB Tryz.f13:=⟨_,by conv=>lhs;reduce;simp only [cy,simprocAttr]⟩
theorem Xc:cn 13 72 Tryz.f13 MZ.1 [.t 2,.eB 3 2]:=⟨Tryz.func13,by kernel_rfl⟩
def Nn:cB Tryz.f20:=⟨_,by conv=>lhs;reduce;simp only [cy,simprocAttr]⟩
theorem XE:cn 20 17 Tryz.f20 Nn.1 [.eB 0 5]:=⟨Tryz.func20,by kernel_rfl⟩
def c21:cB Tryz.f21:=⟨_,by conv=>lhs;reduce;simp only [cy,simprocAttr]⟩
theorem XH:cn 21 24 Tryz.f21 c21.1 [.t 6]:=⟨Tryz.func21,by kernel_rfl⟩
def oQ:cb:=
 .seq (.seq (.cA [cp 23 4,eZ 24 23,iu 25 24,gH 26 25,cp 27 0,sY 28 27,yr 29 26 28,cp 30 29,nY 31 4 30,oH 32 31 30,⟨some 33,.iI 3 (.t 32),(some (30,true)),[32,30]⟩,oG 34 33 30,⟨some 35,.bin (.int .eql) (.t 34) (.c (.int .i64 0)),(some (30,true)),[34,30]⟩,sZ 36 30 35])
 (.cond (.t 36)
 (.skip)
 (.exit 0)))
 (.seq (.block 1 (.seq (.cA [cp 39 0,cp 40 4,eZ 41 40,iu 42 41,gH 43 42,Dn 44 39 43,cp 5 44])
 (.seq (.cA [cp 45 4,cp 46 4,eZ 47 46,iu 48 47,gH 49 48,eZ 50 45,⟨some 51,.iI 2 (.t 50),none,[50]⟩,⟨none,.st 1 (.t 51) (.t 49),none,[51,49]⟩])
 (.seq (.block 2 (.seq (.cA [cp 55 5,⟨some 56,.call 60 [(.t 55),(.c (.int .u8 97)),(.c (.int .u8 122))],none,[55]⟩,cp 57 56,wg 58 5 57,⟨some 59,.call 60 [(.t 58),(.c (.int .u8 65)),(.c (.int .u8 90))],(some (57,false)),[58,57]⟩,wh 60 57 59,cp 61 60,wg 62 5 61,AD 63 62 61 95,wh 64 61 63,cp 54 64])
 (.cond (.t 54)
 (.cA [cp 65 4,qa 66 65 61])
 (.seq (.cA [cp 68 5,⟨some 69,.call 60 [(.t 68),(.c (.int .u8 48)),(.c (.int .u8 57))],none,[68]⟩,cp 67 69])
 (.cond (.t 67)
 (.cA [cp 70 4,qa 71 70 62])
 (.seq (.cA [cp 73 5,Dm 74 73 39,cp 72 74])
 (.cond (.t 72)
 (.cA [cp 75 4,qa 76 75 63])
 (.seq (.cA [cp 78 5,Dm 79 78 34,cp 77 79])
 (.cond (.t 77)
 (.cA [cp 80 4,qa 81 80 64])
 (.cA [cp 52 4,qa 53 52 65]))))))))))
 (.seq (.cA [cp 82 4,eZ 83 82,px 84 83,gH 85 84,⟨some 86,.bin (.int .neq) (.t 85) (.c (.int .i64 0)),none,[85]⟩])
 (.cond (.t 86)
 (.exit 0)
 (.skip)))))))
 (.cA [cp 37 4,qa 38 37 59]))
def r5:cb:=
 .seq (.cA [AE 2,⟨some 3,.new [(.int .i64 0),(.int .i64 0)],none,[]⟩])
 (.seq (.seq (.cA [cp 6 0,sY 7 6,Gs 8 7 65536])
 (.cond (.t 8)
 (.seq (.cA [⟨some 9,.build [(.int .i64 0),(.int .i64 0)] [(0,1,(.c (.int .i64 3)))],none,[]⟩,AE 2,⟨none,.st 2 (.t 3) (.t 9),none,[3,9]⟩])
 (.ret))
 (.skip)))
 (.seq (.seq (.cA [cp 10 0,qa 11 10 58,cp 12 0,sY 13 12,yr 14 11 13])
 (.cond (.t 14)
 (.seq (.cA [cp 15 0,qa 16 15 58,⟨some 17,.build [(.int .i64 0),(.int .i64 0)] [(0,1,(.c (.int .i64 250))),(1,1,(.t 16))],none,[16]⟩,AE 2,⟨none,.st 2 (.t 3) (.t 17),none,[3,17]⟩])
 (.ret))
 (.skip)))
 (.seq (.cA [cp 18 0,⟨some 19,.build [(.str []),(.int .i64 0),(.int .i64 0),(.int .i64 0),.cL] [(0,1,(.t 18))],none,[18]⟩,⟨some 20,.box (.t 19),none,[19]⟩,cp 4 20])
 (.seq (.seq (.cA [cp 21 4,qa 22 21 59])
 (.block 0 (.loop oQ)))
 (.seq (.seq (.cA [cp 87 4,eZ 88 87,px 89 88,gH 90 89,⟨some 91,.bin (.int .neq) (.t 90) (.c (.int .i64 0)),none,[90]⟩])
 (.cond (.t 91)
 (.seq (.draw [cp 92 4,eZ 93 92,px 94 93,gH 95 94,cp 96 4,eZ 97 96,⟨some 98,.iI 2 (.t 97),none,[97]⟩,gH 99 98,⟨some 100,.build [(.int .i64 0),(.int .i64 0)] [(0,1,(.t 95)),(1,1,(.t 99))],none,[95,99]⟩,AE 2,⟨none,.st 2 (.t 3) (.t 100),none,[3,100]⟩] [(3,[10]),(7,[10])] [] [])
 (.ret))
 (.skip)))
 (.seq (.cA [cp 101 4,eZ 102 101,⟨some 103,.iI 4 (.t 102),none,[102]⟩,gH 104 103,⟨some 105,.build [(.int .i64 0),(.int .i64 0)] [],none,[]⟩,cp 2 104,⟨none,.st 2 (.t 3) (.t 105),none,[3,105]⟩])
 (.ret)))))))
theorem XX:cn 26 106 Tryz.f26 r5 [.t 2,.eB 3 2]:=⟨Tryz.func26,by kernel_rfl⟩
def NK:cB Tryz.f31:=⟨_,by conv=>lhs;reduce;simp only [cy,simprocAttr]⟩
theorem X3:cn 31 38 Tryz.f31 NK.1 [.t 4]:=⟨Tryz.func31,by kernel_rfl⟩
def NL:cB Tryz.f32:=⟨_,by conv=>lhs;reduce;simp only [cy,simprocAttr]⟩
theorem X4:cn 32 27 Tryz.f32 NL.1 [.t 2]:=⟨Tryz.func32,by kernel_rfl⟩
def NM:cB Tryz.f33:=⟨_,by conv=>lhs;reduce;simp only [cy,simprocAttr]⟩
theorem X5:cn 33 8 Tryz.f33 NM.1 [.t 4]:=⟨Tryz.func33,by kernel_rfl⟩
def c34:cB Tryz.f34:=⟨_,by conv=>lhs;reduce;simp only [cy,simprocAttr]⟩
theorem X6:cn 34 16 Tryz.f34 c34.1 [.t 4]:=⟨Tryz.func34,by kernel_rfl⟩
def NN:cB Tryz.f35:=⟨_,by conv=>lhs;reduce;simp only [cy,simprocAttr]⟩
theorem X7:cn 35 50 Tryz.f35 NN.1 []:=⟨Tryz.func35,by kernel_rfl⟩
def NO:cB Tryz.f36:=⟨_,by conv=>lhs;reduce;simp only [cy,simprocAttr]⟩
theorem X8:cn 36 102 Tryz.f36 NO.1 [.eB 2 4]:=⟨Tryz.func36,by kernel_rfl⟩
def NI:cB Tryz.f29:=⟨_,by conv=>lhs;reduce;simp only [cy,simprocAttr]⟩
theorem X1:cn 29 22 Tryz.f29 NI.1 [.t 2]:=⟨Tryz.func29,by kernel_rfl⟩
def NQ:cB Tryz.f40:=⟨_,by conv=>lhs;reduce;simp only [cy,simprocAttr]⟩
theorem X_:cn 40 20 Tryz.f40 NQ.1 [.t 2]:=⟨Tryz.func40,by kernel_rfl⟩
def NY:cB Tryz.f58:=⟨_,by conv=>lhs;reduce;simp only [cy,simprocAttr]⟩
theorem Yj:cn 58 19 Tryz.f58 NY.1 [.t 2]:=⟨Tryz.func58,by kernel_rfl⟩
def Hd:cb:=
 .seq (.seq (.draw [cp 3 0,eZ 4 3,iu 5 4,gH 6 5,cp 7 0,eZ 8 7,s0 9 8,gH 10 9,sY 11 10,yr 12 6 11,cp 13 12,nY 14 0 13,oH 15 14 13,⟨some 16,.iI 3 (.t 15),(some (13,true)),[15,13]⟩,oG 17 16 13,⟨some 18,.bin (.int .eql) (.t 17) (.c (.int .i64 0)),(some (13,true)),[17,13]⟩,sZ 19 13 18] [] [] [])
 (.cond (.t 19)
 (.skip)
 (.exit 0)))
 (.block 1 (.seq (.draw [cp 20 0,eZ 21 20,s0 22 21,gH 23 22,cp 24 0,eZ 25 24,iu 26 25,gH 27 26,Dn 28 23 27,cp 2 28] [] [] [])
 (.seq (.cA [cp 29 0,cp 30 0,eZ 31 30,iu 32 31,gH 33 32,eZ 34 29,⟨some 35,.iI 2 (.t 34),none,[34]⟩,⟨none,.st 1 (.t 35) (.t 33),none,[35,33]⟩])
 (.seq (.cA [cp 36 0,⟨some 37,.call 109 [(.t 36),(.c (.str [40,42]))],none,[36]⟩])
 (.cond (.t 37)
 (.cA [cp 38 0,qa 39 38 110])
 (.seq (.cA [cp 40 2,Dm 41 40 9,cp 42 41,wg 43 2 42,AD 44 43 42 10,wh 45 42 44,cp 46 45,wg 47 2 46,AD 48 47 46 13,wh 49 46 48,cp 50 49,wg 51 2 50,AD 52 51 50 32,wh 53 50 52])
 (.cond (.t 53)
 (.cA [cp 54 0,eZ 55 54,iu 56 55,gH 57 56,uP 58 57,eZ 59 54,iu 60 59,⟨none,.st 1 (.t 60) (.t 58),none,[60,58]⟩])
 (.ret))))))))
def NZ:cb:=
 .block 0 (.loop Hd)
theorem Yk:cn 59 61 Tryz.f59 NZ []:=⟨Tryz.func59,by kernel_rfl⟩
def N0:cB Tryz.f60:=⟨_,by conv=>lhs;reduce;simp only [cy,simprocAttr]⟩
theorem Yl:cn 60 15 Tryz.f60 N0.1 [.t 6]:=⟨Tryz.func60,by kernel_rfl⟩
def He:cb:=
 .seq (.seq (.draw [cp 3 0,eZ 4 3,iu 5 4,gH 6 5,cp 7 0,eZ 8 7,s0 9 8,gH 10 9,sY 11 10,yr 12 6 11,cp 13 12,nY 14 0 13,oH 15 14 13,yt 16 15 13,oG 17 16 13,nY 18 0 13,oH 19 18 13,yu 20 19 13,oG 21 20 13,Dp 22 17 21 13,⟨some 23,.call 111 [(.t 22)],(some (13,true)),[22,13]⟩,sZ 24 13 23] [(3,[20]),(7,[20]),(14,[20]),(18,[20])] [20] [3,4,5,6,7,8,9,10,11,12,13,14,15,16,17,18,19,20,21,22,23,24])
 (.cond (.t 24)
 (.skip)
 (.exit 0)))
 (.block 1 (.cA [cp 25 0,eZ 26 25,iu 27 26,gH 28 27,uP 29 28,eZ 30 25,iu 31 30,⟨none,.st 1 (.t 31) (.t 29),none,[31,29]⟩]))
def DK:cb:=
 .seq (.block 0 (.loop He))
 (.seq (.draw [cp 32 0,eZ 33 32,s0 34 33,gH 35 34,cp 36 0,eZ 37 36,⟨some 38,.iI 2 (.t 37),none,[37]⟩,gH 39 38,cp 40 0,eZ 41 40,iu 42 41,gH 43 42,⟨some 44,.vP (.t 35) (some (.t 39)) (some (.t 43)) none,none,[35,39,43]⟩,cp 2 44] [] [] [])
 (.seq (.seq (.cA [cp 45 2,sY 46 45,Gs 47 46 64])
 (.cond (.t 47)
 (.cA [cp 48 0,eZ 49 48,px 50 49,⟨none,.st 1 (.t 50) (.c (.int .i64 255)),none,[50]⟩])
 (.skip)))
 (.block 2 (.seq (.cA [cp 55 2,⟨some 56,.call 113 [],none,[]⟩,⟨some 57,.call 112 [(.t 55),(.t 56)],none,[55,56]⟩,cp 54 57])
 (.cond (.t 54)
 (.cA [cp 58 0,cp 59 2,ys 60 58 59 114 6 0])
 (.seq (.cA [cp 62 2,⟨some 63,.bin (.str .eql) (.t 62) (.c (.str [95])),none,[62]⟩,cp 61 63])
 (.cond (.t 61)
 (.cA [cp 64 0,cp 65 2,ys 66 64 65 114 7 0])
 (.seq (.cA [cp 68 2,⟨some 69,.sx (.t 68) (.c (.int .i64 0)),none,[68]⟩,⟨some 70,.call 60 [(.t 69),(.c (.int .u8 65)),(.c (.int .u8 90))],none,[69]⟩,cp 67 70])
 (.cond (.t 67)
 (.cA [cp 71 0,cp 72 2,ys 73 71 72 114 4 0])
 (.cA [cp 51 0,cp 52 2,ys 53 51 52 114 3 0]))))))))))
theorem Ym:cn 61 74 Tryz.f61 DK []:=⟨Tryz.func61,by kernel_rfl⟩
def Hg:cb:=
 .seq (.seq (.draw [cp 3 0,eZ 4 3,iu 5 4,gH 6 5,cp 7 0,eZ 8 7,s0 9 8,gH 10 9,sY 11 10,yr 12 6 11,cp 13 12,nY 14 0 13,oH 15 14 13,yt 16 15 13,oG 17 16 13,nY 18 0 13,oH 19 18 13,yu 20 19 13,oG 21 20 13,Dp 22 17 21 13,⟨some 23,.call 60 [(.t 22),(.c (.int .u8 48)),(.c (.int .u8 57))],(some (13,true)),[22,13]⟩,sZ 24 13 23] [(3,[20]),(7,[20]),(14,[20]),(18,[20])] [20] [3,4,5,6,7,8,9,10,11,12,13,14,15,16,17,18,19,20,21,22,23,24])
 (.cond (.t 24)
 (.skip)
 (.exit 0)))
 (.block 1 (.seq (.draw [cp 25 2,⟨some 26,.bin (.int .mul) (.c (.int .i64 10)) (.t 25),none,[25]⟩,cp 27 0,eZ 28 27,s0 29 28,gH 30 29,cp 31 0,eZ 32 31,iu 33 32,gH 34 33,Dn 35 30 34,⟨some 36,.bin (.int .sub) (.t 35) (.c (.int .u8 48)),none,[35]⟩,⟨some 37,.lr (.int .i64) (.t 36),none,[36]⟩,⟨some 38,.bin (.int .add) (.t 26) (.t 37),none,[26,37]⟩,cp 2 38] [] [] [])
 (.seq (.seq (.cA [cp 39 2,⟨some 40,.bin (.int .geq) (.t 39) (.c (.int .i64 2147483648)),none,[39]⟩])
 (.cond (.t 40)
 (.seq (.cA [cp 41 0,eZ 42 41,px 43 42,⟨none,.st 1 (.t 43) (.c (.int .i64 254)),none,[43]⟩])
 (.cA [⟨some 2,.gM (.c (.int .i64 0)),none,[]⟩]))
 (.skip)))
 (.cA [cp 44 0,eZ 45 44,iu 46 45,gH 47 46,uP 48 47,eZ 49 44,iu 50 49,⟨none,.st 1 (.t 50) (.t 48),none,[50,48]⟩]))))
def yI:cb:=
 .seq (.cA [⟨some 2,.gM (.c (.int .i64 0)),none,[]⟩])
 (.seq (.block 0 (.loop Hg))
 (.cA [cp 51 0,cp 52 2,qa 53 52 115,⟨some 54,.call 114 [(.t 51),(.c (.int .i64 1)),(.t 53),(.c (.str []))],none,[51,53]⟩]))
theorem Yo:cn 62 55 Tryz.f62 yI []:=⟨Tryz.func62,by kernel_rfl⟩
def Hi:cb:=
 .seq (.seq (.draw [cp 15 0,eZ 16 15,iu 17 16,gH 18 17,cp 19 0,eZ 20 19,s0 21 20,gH 22 21,sY 23 22,yr 24 18 23,cp 25 24,nY 26 0 25,oH 27 26 25,yt 28 27 25,oG 29 28 25,nY 30 0 25,oH 31 30 25,yu 32 31 25,oG 33 32 25,Dp 34 29 33 25,⟨some 35,.call 111 [(.t 34)],(some (25,true)),[34,25]⟩,sZ 36 25 35] [(3,[20]),(7,[20]),(14,[20]),(18,[20])] [20] [15,16,17,18,19,20,21,22,23,24,25,26,27,28,29,30,31,32,33,34,35,36])
 (.cond (.t 36)
 (.skip)
 (.exit 0)))
 (.block 1 (.cA [cp 37 0,eZ 38 37,iu 39 38,gH 40 39,uP 41 40,eZ 42 37,iu 43 42,⟨none,.st 1 (.t 43) (.t 41),none,[43,41]⟩]))
def wz:cb:=
 .seq (.cA [cp 4 0,eZ 5 4,iu 6 5,gH 7 6,uP 8 7,eZ 9 4,iu 10 9,⟨none,.st 1 (.t 10) (.t 8),none,[10,8]⟩])
 (.seq (.cA [cp 11 0,eZ 12 11,iu 13 12,gH 14 13,cp 2 14])
 (.seq (.block 0 (.loop Hi))
 (.seq (.draw [cp 44 0,eZ 45 44,s0 46 45,gH 47 46,cp 48 2,cp 49 0,eZ 50 49,iu 51 50,gH 52 51,⟨some 53,.vP (.t 47) (some (.t 48)) (some (.t 52)) none,none,[47,48,52]⟩,cp 3 53] [] [] [])
 (.seq (.seq (.cA [cp 54 3,⟨some 55,.bin (.str .eql) (.t 54) (.c (.str [])),none,[54]⟩,cp 56 55,wg 57 3 56,⟨some 58,.sx (.t 57) (.c (.int .i64 0)),(some (56,false)),[57,56]⟩,⟨some 59,.call 60 [(.t 58),(.c (.int .u8 97)),(.c (.int .u8 122))],(some (56,false)),[58,56]⟩,⟨some 60,.un .not (.t 59),(some (56,false)),[59,56]⟩,wh 61 56 60])
 (.cond (.t 61)
 (.seq (.cA [cp 62 0,eZ 63 62,px 64 63,⟨none,.st 1 (.t 64) (.c (.int .i64 251)),none,[64]⟩])
 (.ret))
 (.skip)))
 (.seq (.seq (.cA [cp 65 3,sY 66 65,Gs 67 66 64])
 (.cond (.t 67)
 (.cA [cp 68 0,eZ 69 68,px 70 69,⟨none,.st 1 (.t 70) (.c (.int .i64 255)),none,[70]⟩])
 (.skip)))
 (.cA [cp 71 0,cp 72 3,ys 73 71 72 114 5 0]))))))
theorem Yp:cn 63 74 Tryz.f63 wz []:=⟨Tryz.func63,by kernel_rfl⟩
def Hk:cb:=
 .seq (.seq (.draw [cp 11 0,eZ 12 11,px 13 12,gH 14 13,Gr 15 14,cp 16 15,nY 17 0 16,oH 18 17 16,yu 19 18 16,oG 20 19 16,nY 21 0 16,oH 22 21 16,yt 23 22 16,oG 24 23 16,⟨some 25,.len .str (.t 24),(some (16,true)),[24,16]⟩,⟨some 26,.bin (.int .lss) (.t 20) (.t 25),(some (16,true)),[20,25,16]⟩,sZ 27 16 26,cp 28 27,nY 29 0 28,oH 30 29 28,yt 31 30 28,oG 32 31 28,nY 33 0 28,oH 34 33 28,yu 35 34 28,oG 36 35 28,Dp 37 32 36 28,⟨some 38,.bin (.int .neq) (.t 37) (.c (.int .u8 34)),(some (28,true)),[37,28]⟩,sZ 39 28 38] [] [] [])
 (.cond (.t 39)
 (.skip)
 (.exit 0)))
 (.block 1 (.seq (.draw [cp 40 0,eZ 41 40,s0 42 41,gH 43 42,cp 44 0,eZ 45 44,iu 46 45,gH 47 46,Dn 48 43 47,cp 3 48] [] [] [])
 (.seq (.cA [cp 49 0,eZ 50 49,iu 51 50,gH 52 51,uP 53 52,eZ 54 49,iu 55 54,⟨none,.st 1 (.t 55) (.t 53),none,[55,53]⟩])
 (.seq (.seq (.cA [cp 56 3,Dm 57 56 92])
 (.cond (.t 57)
 (.cA [cp 58 0,qa 59 58 116,cp 3 59])
 (.seq (.cA [cp 60 3,⟨some 61,.bin (.int .lss) (.t 60) (.c (.int .u8 32)),none,[60]⟩,cp 62 61,wg 63 3 62,AD 64 63 62 127,wh 65 62 64])
 (.cond (.t 65)
 (.cA [cp 66 0,eZ 67 66,px 68 67,⟨none,.st 1 (.t 68) (.c (.int .i64 252)),none,[68]⟩])
 (.skip)))))
 (.cA [cp 69 2,cp 70 3,⟨some 71,.td 1 1 [(.int .u8 0)] [(0,1,(.t 70))],none,[70]⟩,⟨some 72,.app 1 (.t 69) (.t 71),none,[69,71]⟩,cp 2 72])))))
def wA:cb:=
 .seq (.cA [AE 2])
 (.seq (.cA [cp 4 0,eZ 5 4,iu 6 5,gH 7 6,uP 8 7,eZ 9 4,iu 10 9,⟨none,.st 1 (.t 10) (.t 8),none,[10,8]⟩])
 (.seq (.block 0 (.loop Hk))
 (.seq (.seq (.draw [cp 73 0,eZ 74 73,px 75 74,gH 76 75,Gr 77 76,cp 78 77,nY 79 0 78,oH 80 79 78,yu 81 80 78,oG 82 81 78,nY 83 0 78,oH 84 83 78,yt 85 84 78,oG 86 85 78,⟨some 87,.len .str (.t 86),(some (78,true)),[86,78]⟩,⟨some 88,.bin (.int .geq) (.t 82) (.t 87),(some (78,true)),[82,87,78]⟩,sZ 89 78 88] [] [] [])
 (.cond (.t 89)
 (.cA [cp 90 0,eZ 91 90,px 92 91,⟨none,.st 1 (.t 92) (.c (.int .i64 252)),none,[92]⟩])
 (.skip)))
 (.seq (.cA [cp 93 0,eZ 94 93,iu 95 94,gH 96 95,uP 97 96,eZ 98 93,iu 99 98,⟨none,.st 1 (.t 99) (.t 97),none,[99,97]⟩])
 (.seq (.seq (.cA [cp 100 0,eZ 101 100,px 102 101,gH 103 102,Gr 104 103,cp 105 104,nY 106 2 105,⟨some 107,.len .slice (.t 106),(some (105,true)),[106,105]⟩,⟨some 108,.bin (.int .gtr) (.t 107) (.c (.int .i64 4096)),(some (105,true)),[107,105]⟩,sZ 109 105 108])
 (.cond (.t 109)
 (.cA [cp 110 0,eZ 111 110,px 112 111,⟨none,.st 1 (.t 112) (.c (.int .i64 255)),none,[112]⟩])
 (.skip)))
 (.cA [cp 113 0,cp 114 2,⟨some 115,.lr .str (.t 114),none,[114]⟩,ys 116 113 115 114 2 0]))))))
theorem Yq:cn 64 117 Tryz.f64 wA []:=⟨Tryz.func64,by kernel_rfl⟩
def N1:cB Tryz.f65:=⟨_,by conv=>lhs;reduce;simp only [cy,simprocAttr]⟩
theorem Yr:cn 65 39 Tryz.f65 N1.1 []:=⟨Tryz.func65,by kernel_rfl⟩
def Ob:cB Tryz.f77:=⟨_,by conv=>lhs;reduce;simp only [cy,simprocAttr]⟩
theorem YC:cn 77 8 Tryz.f77 Ob.1 [.t 4]:=⟨Tryz.func77,by kernel_rfl⟩
def Oc:cB Tryz.f78:=⟨_,by conv=>lhs;reduce;simp only [cy,simprocAttr]⟩
theorem YD:cn 78 8 Tryz.f78 Oc.1 [.t 4]:=⟨Tryz.func78,by kernel_rfl⟩
def Od:cB Tryz.f79:=⟨_,by conv=>lhs;reduce;simp only [cy,simprocAttr]⟩
theorem YE:cn 79 9 Tryz.f79 Od.1 [.t 2]:=⟨Tryz.func79,by kernel_rfl⟩
def Of:cB Tryz.f80:=⟨_,by conv=>lhs;reduce;simp only [cy,simprocAttr]⟩
theorem YG:cn 80 30 Tryz.f80 Of.1 [.eB 2 4]:=⟨Tryz.func80,by kernel_rfl⟩
def Og:cB Tryz.f81:=⟨_,by conv=>lhs;reduce;simp only [cy,simprocAttr]⟩
theorem YH:cn 81 88 Tryz.f81 Og.1 [.eB 2 4]:=⟨Tryz.func81,by kernel_rfl⟩
def Oh:cB Tryz.f82:=⟨_,by conv=>lhs;reduce;simp only [cy,simprocAttr]⟩
theorem YI:cn 82 9 Tryz.f82 Oh.1 [.t 2]:=⟨Tryz.func82,by kernel_rfl⟩
def Oi:cB Tryz.f83:=⟨_,by conv=>lhs;reduce;simp only [cy,simprocAttr]⟩
theorem YJ:cn 83 38 Tryz.f83 Oi.1 [.eB 4 4]:=⟨Tryz.func83,by kernel_rfl⟩
def Oj:cB Tryz.f84:=⟨_,by conv=>lhs;reduce;simp only [cy,simprocAttr]⟩
theorem YK:cn 84 9 Tryz.f84 Oj.1 [.t 2]:=⟨Tryz.func84,by kernel_rfl⟩
def Ok:cB Tryz.f85:=⟨_,by conv=>lhs;reduce;simp only [cy,simprocAttr]⟩
theorem YL:cn 85 2 Tryz.f85 Ok.1 [.t 0]:=⟨Tryz.func85,by kernel_rfl⟩
def MG:cB Tryz.f108:=⟨_,by conv=>lhs;reduce;simp only [cy,simprocAttr]⟩
theorem WR:cn 108 74 Tryz.f108 MG.1 [.t 4]:=⟨Tryz.func108,by kernel_rfl⟩
def MH:cB Tryz.f109:=⟨_,by conv=>lhs;reduce;simp only [cy,simprocAttr]⟩
theorem WS:cn 109 38 Tryz.f109 MH.1 [.t 4]:=⟨Tryz.func109,by kernel_rfl⟩
def MJ:cB Tryz.f110:=⟨_,by conv=>lhs;reduce;simp only [cy,simprocAttr]⟩
theorem WU:cn 110 49 Tryz.f110 MJ.1 []:=⟨Tryz.func110,by kernel_rfl⟩
def MK:cB Tryz.f111:=⟨_,by conv=>lhs;reduce;simp only [cy,simprocAttr]⟩
theorem WV:cn 111 21 Tryz.f111 MK.1 [.t 2]:=⟨Tryz.func111,by kernel_rfl⟩
def ML:cB Tryz.f112:=⟨_,by conv=>lhs;reduce;simp only [cy,simprocAttr]⟩
theorem WW:cn 112 18 Tryz.f112 ML.1 [.t 4]:=⟨Tryz.func112,by kernel_rfl⟩
def MM:cB Tryz.f113:=⟨_,by conv=>lhs;reduce;simp only [cy,simprocAttr]⟩
theorem WX:cn 113 2 Tryz.f113 MM.1 [.t 0]:=⟨Tryz.func113,by kernel_rfl⟩
def MN:cB Tryz.f114:=⟨_,by conv=>lhs;reduce;simp only [cy,simprocAttr]⟩
theorem WY:cn 114 25 Tryz.f114 MN.1 []:=⟨Tryz.func114,by kernel_rfl⟩
def MO:cB Tryz.f115:=⟨_,by conv=>lhs;reduce;simp only [cy,simprocAttr]⟩
theorem WZ:cn 115 8 Tryz.f115 MO.1 [.t 2]:=⟨Tryz.func115,by kernel_rfl⟩
def MP:cB Tryz.f116:=⟨_,by conv=>lhs;reduce;simp only [cy,simprocAttr]⟩
theorem W0:cn 116 112 Tryz.f116 MP.1 [.t 2]:=⟨Tryz.func116,by kernel_rfl⟩
def MQ:cB Tryz.f117:=⟨_,by conv=>lhs;reduce;simp only [cy,simprocAttr]⟩
theorem W1:cn 117 2 Tryz.f117 MQ.1 [.t 0]:=⟨Tryz.func117,by kernel_rfl⟩
def MY:cB Tryz.f128:=⟨_,by conv=>lhs;reduce;simp only [cy,simprocAttr]⟩
theorem W':cn 128 18 Tryz.f128 MY.1 [.t 4]:=⟨Tryz.func128,by kernel_rfl⟩
def M0:cB Tryz.f130:=⟨_,by conv=>lhs;reduce;simp only [cy,simprocAttr]⟩
theorem W_:cn 130 50 Tryz.f130 M0.1 [.t 4]:=⟨Tryz.func130,by kernel_rfl⟩
def M1:cB Tryz.f131:=⟨_,by conv=>lhs;reduce;simp only [cy,simprocAttr]⟩
theorem Xa:cn 131 77 Tryz.f131 M1.1 [.t 2]:=⟨Tryz.func131,by kernel_rfl⟩
def M3:cB Tryz.f132:=⟨_,by conv=>lhs;reduce;simp only [cy,simprocAttr]⟩
theorem Xb:cn 132 21 Tryz.f132 M3.1 [.t 2]:=⟨Tryz.func132,by kernel_rfl⟩
def M':cB Tryz.f152:=⟨_,by conv=>lhs;reduce;simp only [cy,simprocAttr]⟩
theorem Xj:cn 152 16 Tryz.f152 M'.1 [.t 2,.t 3]:=⟨Tryz.func152,by kernel_rfl⟩
end
end
section
open Go ba
theorem je {f:FuncId} {args:List V} {h:ah} {v:V} (c:dY Tryz.prog f args h fun x ae=>x=v/\ae=h):e5 Tryz.prog f args h v h:=by obtain ⟨x,ae,q,rfl,rfl⟩:=c;exact q
def n' (c:Int):Bool:=decide (48<=c)&&decide (c<=57)
def ln (c:Int):Bool:=decide (97<=c)&&decide (c<=122)
def k3 (c:Int):Bool:=decide (65<=c)&&decide (c<=90)
def xw (c:Int):Bool:=n' c||ln c||k3 c||decide (c=95)||decide (c=39)
def gQ (c a b:Int):Bool:=decide (a<=c)&&decide (c<=b)
theorem yM (c:Int) (h:ah):e5 Tryz.prog 79 [.int .u8 c] h (.bool (n' c)) h:=by refine je (YE.z rfl (cm ?_));unfold Od;simp +contextual only [↓aa,ab,simprocAttr];rfl
theorem FX (c:Int) (h:ah):e5 Tryz.prog 82 [.int .u8 c] h (.bool (ln c)) h:=by refine je (YI.z rfl (cm ?_));unfold Oh;simp +contextual only [↓aa,ab,simprocAttr];rfl
theorem PH (c:Int) (h:ah):e5 Tryz.prog 84 [.int .u8 c] h (.bool (k3 c)) h:=by refine je (YK.z rfl (cm ?_));unfold Oj;simp +contextual only [↓aa,ab,simprocAttr];rfl
theorem oD (c a b:Int) (h:ah):e5 Tryz.prog 60 [.int .u8 c,.int .u8 a,.int .u8 b] h (.bool (gQ c a b)) h:=by refine je (Yl.z rfl (cm ?_));unfold N0;simp +contextual only [↓aa,ab,simprocAttr];rfl
theorem acg (s p:List UInt8) (h:ah):e5 Tryz.prog 128 [.str s,.str p] h (.bool (p.isPrefixOf s)) h:=by
 refine je (W'.z rfl (cm ?_));unfold MY;have aM:(0<=(p.length:Int))=True:=aoU (by omega);by_cases aG:p.length<=s.length
 . have ad:((p.length:Int)<=(s.length:Int))=True:=aoU (by omega);simp +contextual only [aM,ad,aoG,↓aa,ab,simprocAttr];rw [aps,aoO,apn,List.prefix_iff_eq_take];exact ⟨fun e=>e.symm,fun e=>e.symm⟩
 . have ad:((p.length:Int)<=(s.length:Int))=False:=aoV (by omega);simp +contextual only [aM,ad,aoG,↓aa,ab,simprocAttr];rw [aqo,<-Bool.not_eq_true,apn];exact fun e=>aG e.length_le
theorem acf (s p:List UInt8) (h:ah):e5 Tryz.prog 78 [.str s,.str p] h (.bool (p.isPrefixOf s)) h:=by refine je (YD.z rfl (cm ?_));unfold Oc;simp +contextual only [↓aa,ab,simprocAttr];refine bQ (acg s p h) ?_;simp +contextual only [↓aa,ab,simprocAttr]
theorem agJ (c:Int) (h:ah):e5 Tryz.prog 132 [.int .u8 c] h (.bool (xw c)) h:=by refine je (Xb.z rfl (cm ?_));unfold M3;simp +contextual only [↓aa,ab,simprocAttr];refine bQ (yM c h) ?_;simp +contextual only [↓aa,ab,simprocAttr];refine jz (.bool (ln c)) (fun ax=>by simp only [ax,↓aa,ab,simprocAttr];exact FX _ _) ?_;simp +contextual only [↓aa,ab,simprocAttr];refine jz (.bool (k3 c)) (fun ax=>by simp only [ax,↓aa,ab,simprocAttr];exact PH _ _) ?_;simp +contextual only [↓aa,ab,simprocAttr];rfl
theorem LO (c:Int) (h:ah):e5 Tryz.prog 111 [.int .u8 c] h (.bool (gQ c 97 122||gQ c 65 90||gQ c 48 57||decide (c=95)||decide (c=39))) h:=by refine je (WV.z rfl (cm ?_));unfold MK;simp +contextual only [↓aa,ab,simprocAttr];refine bQ (oD c _ _ h) ?_;simp +contextual only [↓aa,ab,simprocAttr];refine jz (.bool (gQ c 65 90)) (fun ax=>by simp only [ax,↓aa,ab,simprocAttr];exact oD _ _ _ _) ?_;simp +contextual only [↓aa,ab,simprocAttr];refine jz (.bool (gQ c 48 57)) (fun ax=>by simp only [ax,↓aa,ab,simprocAttr];exact oD _ _ _ _) ?_;simp +contextual only [↓aa,ab,simprocAttr]
theorem Ia (s p:List UInt8) (at':Int) (rest:List V) (b:aN) (dw:Nat) (st:Bool) (h:ah) (ai:h.get b=.bd (.str s::.int .i64 at'::rest) dw st) (aM:0<=at') (ad:at'<=s.length):
 e5 Tryz.prog 34 [.ptr b 0,.str p] h (.bool (p.isPrefixOf (s.drop at'.toNat))) h:=by
 refine je (X6.z rfl (cm ?_));unfold c34;have f0:(0<=at')=True:=aoU aM;have f1:(at'<=(s.length:Int))=True:=aoU ad;simp +contextual only [ai,f0,f1,↓aa,ab,simprocAttr];refine bQ (acf _ p h) ?_;simp +contextual only [ai,f0,f1,↓aa,ab,simprocAttr]
theorem K1 (s p:List UInt8) (at':Int) (rest:List V) (b:aN) (dw:Nat) (st:Bool) (h:ah) (ai:h.get b=.bd (.str s::.int .i64 at'::rest) dw st) (aM:0<=at') (ad:at'<=s.length) (al:s.length<=100000) (aF:p.length<=100000):
 e5 Tryz.prog 109 [.ptr b 0,.str p] h (.bool (p.isPrefixOf (s.drop at'.toNat))) h:=by
 refine je (WS.z rfl (cm ?_));unfold MH;have b9:IntKind.i64.wrap ((s.length:Int)-at')=(s.length:Int)-at':=wrap_i64 (by omega) (by omega);have aR:IntKind.i64.wrap (at' + (p.length:Int))=at' + (p.length:Int):=wrap_i64 (by omega) (by omega);by_cases ax:(p.length:Int)<=(s.length:Int)-at'
 . have f0:(0<=at')=True:=aoU aM;have f1:(at'<=at' + (p.length:Int))=True:=aoU (by omega);have f2:(at' + (p.length:Int)<=(s.length:Int))=True:=aoU (by omega);simp +contextual only [ai,b9,aR,ax,f0,f1,f2,↓aa,ab,simprocAttr];rw [show (at' + (p.length:Int)).toNat-at'.toNat=p.length from by omega];rw [aps,aoO,apn,List.prefix_iff_eq_take];exact ⟨fun e=>e.symm,fun e=>e.symm⟩
 . simp +contextual only [ai,b9,aR,ax,↓aa,ab,simprocAttr];rw [aqo,<-Bool.not_eq_true,apn];intro e;have:=e.length_le;rw [aoZ] at this;omega
def hp:List UInt8->Int->Option Nat
 | [],_=>none
 | [_],_=>none
 | x::y::r,d=>if x=40/\y=42 then (hp r (d+1)).map (· +2) else if x=42/\y=41 then (if d-1=0 then some 2 else (hp r (d-1)).map (· +2)) else (hp (y::r) d).map (· +1)
theorem RF (r:List UInt8) (d:Int) (h:r≠[]):hp r d=if ([40,42]:List UInt8).isPrefixOf r=true then (hp (r.drop 2) (d+1)).map (· +2) else
 if ([42,41]:List UInt8).isPrefixOf r=true then (if d-1=0 then some 2 else (hp (r.drop 2) (d-1)).map (· +2)) else (hp (r.drop 1) d).map (· +1):=by
 match r,h with
 | [x],_=>simp [hp,List.isPrefixOf]
 | x::y::r,_=>
   have aO:(([40,42]:List UInt8).isPrefixOf (x::y::r)=true)=(x=40/\y=42):=by simp only [List.isPrefixOf,apG,aoE,apZ];exact propext ⟨fun q=>⟨q.1.symm,q.2.symm⟩,fun q=>⟨q.1.symm,q.2.symm⟩⟩
   have bs:(([42,41]:List UInt8).isPrefixOf (x::y::r)=true)=(x=42/\y=41):=by simp only [List.isPrefixOf,apG,aoE,apZ];exact propext ⟨fun q=>⟨q.1.symm,q.2.symm⟩,fun q=>⟨q.1.symm,q.2.symm⟩⟩
   rw [hp];simp only [aO,bs,aqd,apm]
theorem Fx {a b:UInt8} {r:List UInt8} (h:([a,b]:List UInt8).isPrefixOf r=true):2<=r.length:=by rw [apn] at h;simpa using h.length_le
def gO (s:List UInt8) (at' e:Int):c_:=.bd [.str s,.int .i64 at',.int .i64 e] 0 false
theorem ahy (s:List UInt8) (a0:Nat) (ej:Int) (b:aN) (h:ah) (ai:h.get b=gO s a0 ej) (aM:a0<=s.length) (al:s.length<=100000) (dC:Old h b):
 dY Tryz.prog 35 [.ptr b 0] h fun x ae=>x=.tuple []/\Mod (fun x=>x=b) h ae/\(match hp (s.drop a0) 0 with
  | some n=>ae.get b=gO s ((a0+n:Nat):Int) ej/\a0+n<=s.length
  | none=>ae.get b=gO s (s.length:Int) 253):=by
 refine X7.z rfl (cm ?_);unfold NN;unfold gO at ai ⊢;simp only [ai,↓aa,ab,simprocAttr]
 refine gb (fun r ae=>∃(a:Nat) (d:Int),a0<=a/\a<=s.length/\r 0=.ptr b 0/\r 2=.int .i64 d/\ae.get b=.bd [.str s,.int .i64 a,.int .i64 ej] 0 false/\Mod (fun x=>x=b) h ae/\-(a:Int)<=d/\d<=a/\
  hp (s.drop a0) 0=(hp (s.drop a) d).map (· + (a-a0))) (fun r ae=>s.length - ((gv (ae.get b) 1).getD .bad).toN) ?_ ?_
 . refine ⟨a0,0,aoz _,aM,?_⟩;simp only [↓aa,ab,simprocAttr];refine ⟨ai,Mod.refl _ _,by omega,by omega,?_⟩;rw [apY];cases hp (s.drop a0) 0<;>rfl
 . rintro r ae ⟨a,d,hQ,c8,aW,bc,ay,hm,d0,d1,br⟩;by_cases fD:(s.length:Int)<=(a:Int)
   . have b5:a=s.length:=by omega
     have aI:hp (s.drop a) d=none:=by rw [b5,ap3];rfl
     rw [aI] at br;simp only [aW,bc,ay,fD,↓aa,ab,simprocAttr];rw [br];refine ⟨hm.set (fun _=>rfl) _,?_⟩;simp only [b5,Option.map_none,ey,aoM]
   . have d':s.drop a≠[]:=by
      intro q;rw [List.drop_eq_nil_iff] at q;omega
     have rz:∀p,e5 Tryz.prog 34 [.ptr b 0,.str p] ae (.bool (p.isPrefixOf (s.drop a))) ae:=fun p=>by have:=Ia s p (a:Int) [.int .i64 ej] b 0 false ae ay (by omega) (by omega);simpa using this
     have j8:=RF (s.drop a) d d';simp only [aW,bc,ay,fD,↓aa,ab,simprocAttr];refine bQ (rz _) ?_;cases j6:([40,42]:List UInt8).isPrefixOf (s.drop a) with
     | true=>
       have ag:=Fx j6;rw [aoZ] at ag;rw [j6,aoN rfl] at j8;have b9:IntKind.i64.wrap (d+1)=d+1:=wrap_i64 (by omega) (by omega);have aR:IntKind.i64.wrap ((a:Int)+2)=((a+2:Nat):Int):=by rw [wrap_i64 (by omega) (by omega)];rfl
       simp only [aW,bc,ay,b9,aR,↓aa,ab,simprocAttr];refine ⟨⟨a+2,d+1,by omega,by omega,rfl,rfl,hm.set (fun _=>rfl) _,by omega,by omega,?_⟩,by omega⟩;rw [br,j8,apv,apN];congr 1;funext q;simp only [Function.comp];omega
     | false=>
       rw [j6,aoI (by decide)] at j8;simp only [aW,bc,ay,↓aa,ab,simprocAttr];refine bQ (rz _) ?_;cases h1:([42,41]:List UInt8).isPrefixOf (s.drop a) with
       | true=>
         have ag:=Fx h1;rw [aoZ] at ag;rw [h1,aoN rfl] at j8;have b9:IntKind.i64.wrap (d-1)=d-1:=wrap_i64 (by omega) (by omega);have aR:IntKind.i64.wrap ((a:Int)+2)=((a+2:Nat):Int):=by rw [wrap_i64 (by omega) (by omega)];rfl
         by_cases bk:d-1=0
         . rw [aoN bk] at j8;obtain rfl:d=1:=by omega
           have aA:IntKind.i64.wrap 0=0:=rfl;simp only [aW,bc,ay,aA,aR,↓aa,ab,simprocAttr];rw [br,j8];refine ⟨hm.set (fun _=>rfl) _,?_⟩;simp only [apu,ey,aoM];refine ⟨?_,by omega⟩;rw [show a0 + (2 + (a-a0))=a+2 from by omega]
         . rw [aoI bk] at j8;simp only [aW,bc,ay,b9,aR,bk,↓aa,ab,simprocAttr];refine ⟨⟨a+2,d-1,by omega,by omega,rfl,rfl,hm.set (fun _=>rfl) _,by omega,by omega,?_⟩,by omega⟩;rw [br,j8,apv,apN];congr 1;funext q;simp only [Function.comp];omega
       | false=>
         rw [h1,aoI (by decide)] at j8;have aR:IntKind.i64.wrap ((a:Int)+1)=((a+1:Nat):Int):=by rw [wrap_i64 (by omega) (by omega)];rfl
         simp only [aW,bc,ay,aR,↓aa,ab,simprocAttr];refine ⟨⟨a+1,d,by omega,by omega,rfl,rfl,hm.set (fun _=>rfl) _,by omega,by omega,?_⟩,by omega⟩;rw [br,j8,apv,apN];congr 1;funext q;simp only [Function.comp];omega
theorem drop_cons {s:List UInt8} {a:Nat} (h:a<s.length):s.drop a=s[a]::s.drop (a+1):=apa h
theorem To (p:UInt8->Bool):∀l:List UInt8,(l.takeWhile p).length<=l.length
 | []=>by simp
 | x::l=>by
   simp only [apM]
   split
   . simpa using To p l
   . simp
theorem SR (s:List UInt8) (a0:Nat) (ej:Int) (b:aN) (g:FuncId) (p:Int->Bool) (h:ah) (ai:h.get b=gO s a0 ej) (aM:a0<=s.length) (al:s.length<=100000) (bl:(g=4294967296)=False)
 (aF:∀c h,e5 Tryz.prog g [.int .u8 c] h (.bool (p c)) h):
 dY Tryz.prog 130 [.ptr b 0,.func g []] h fun x ae=>x=.str ((s.drop a0).takeWhile fun c=>p c.toNat)/\Mod (fun x=>x=b) h ae/\ae.get b=gO s ((a0 + ((s.drop a0).takeWhile fun c=>p c.toNat).length:Nat):Int) ej:=by
 refine W_.z rfl (cm ?_);unfold M0;unfold gO at ai ⊢;simp only [ai,↓aa,ab,simprocAttr]
 refine gb (fun r ae=>∃(a:Nat),a0<=a/\a<=s.length/\r 0=.ptr b 0/\r 1=.func g []/\r 5=.int .i64 a0/\ae.get b=.bd [.str s,.int .i64 a,.int .i64 ej] 0 false/\Mod (fun x=>x=b) h ae/\
  ((s.drop a0).takeWhile fun c=>p c.toNat)=(s.drop a0).take (a-a0)++((s.drop a).takeWhile fun c=>p c.toNat)) (fun r ae=>s.length - ((gv (ae.get b) 1).getD .bad).toN) ?_ ?_
 . refine ⟨a0,aoz _,aM,?_⟩;simp only [↓aa,ab,simprocAttr];refine ⟨ai,Mod.refl _ _,?_⟩;rw [apY];rfl
 . rintro r ae ⟨a,hQ,c8,aW,cJ,b1,ay,hm,br⟩;have fin:((s.drop a).takeWhile fun c=>p c.toNat)=[]->V.str (((s.drop a0).take (a-a0)))=V.str ((s.drop a0).takeWhile fun c=>p c.toNat)/\Mod (fun x=>x=b) h ae/\c_.bd [V.str s,V.int .i64 a,V.int .i64 ej] 0 false=c_.bd [V.str s,V.int .i64 ((a0 + ((s.drop a0).takeWhile fun c=>p c.toNat).length:Nat):Int),V.int .i64 ej] 0 false:=by
    intro q;rw [q,aoX] at br;rw [br,apX,aoZ];refine ⟨rfl,hm,?_⟩;rw [show a0+min (a-a0) (s.length-a0)=a from by omega]
   have f0:(0<=(a0:Int))=True:=aoU (by omega);have f1:((a0:Int)<=(a:Int))=True:=aoU (by omega);have f2:((a:Int)<=(s.length:Int))=True:=aoU (by omega);have f3:(0<=(a:Int))=True:=aoU (by omega);by_cases fD:(a:Int) < (s.length:Int)
   . have a7:a<s.length:=by omega
     rw [drop_cons a7,apM] at br fin;simp only [bl,aoK,aW,cJ,b1,ay,fD,f0,f1,f2,f3,aoB a7,aoG,↓aa,ab,simprocAttr];refine bQ (aF _ _) ?_;cases rv:p ((s[a]).toNat:Int) with
     | true=>
       rw [rv] at br;have aR:IntKind.i64.wrap ((a:Int)+1)=((a+1:Nat):Int):=by rw [wrap_i64 (by omega) (by omega)];rfl
       simp only [rv,aW,cJ,b1,ay,fD,f0,f1,f2,f3,aR,aoB a7,aoG,↓aa,ab,simprocAttr];refine ⟨⟨a+1,by omega,by omega,rfl,hm.set (fun _=>rfl) _,?_⟩,by omega⟩;rw [br,aoN rfl];have y_:a-a0 < (s.drop a0).length:=by rw [aoZ];omega
       rw [show a+1-a0=a-a0+1 from by omega,<-List.take_append_getElem y_,api];congr 1;rw [List.getElem_drop];simp only [show a0 + (a-a0)=a from by omega];rfl
     | false=>
       rw [rv] at fin;simp only [rv,aW,cJ,b1,ay,fD,f0,f1,f2,f3,aoB a7,aoG,↓aa,ab,simprocAttr];exact fin rfl
   . have b5:a=s.length:=by omega
     simp only [bl,aoK,aW,cJ,b1,ay,fD,f0,f1,f2,f3,aoG,↓aa,ab,simprocAttr];refine fin ?_;rw [b5,ap3];rfl
end
end Go.Proofs.YtahfljfikfkpnaaGreatDoor
