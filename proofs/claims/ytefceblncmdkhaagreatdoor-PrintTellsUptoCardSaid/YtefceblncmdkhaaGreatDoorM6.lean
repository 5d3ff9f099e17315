/- The chapter's functions, walked by the abstract machine: plain lemmas, no condition. Printed by a program from longer texts: names made short. -/
import Derived.Test.YtefceblncmdkhaaGreatDoorM5
import Derived.Test.YtefceblncmdkhaaGreatDoorM3
import Derived.Test.YtefceblncmdkhaaGreatDoorM4
import Derived.WalkSmall
import Derived.Shelf.Strings.Search3
import Derived.Shelf.Strings.OnBuilder
import Derived.Shelf.Strconv.Itoa3
import Derived.MakeChecks
import Derived.Shelf.Vars
import Derived.Lay
import Derived.LaidLaws
import Derived.Lib.LaidTab
import Derived.Lib.LaidU8T
import Derived.Test.YtefceblncmdkhaaGreatDoorRows
set_option linter.unusedSectionVars false
set_option linter.unusedSimpArgs false
set_option linter.unusedVariables false
set_option maxHeartbeats 64000000
noncomputable section
namespace Go.Proofs.YtefceblncmdkhaaGreatDoor
section
open Go bb
inductive aQ where
 | mk (k n a:Int) (s:List UInt8) (l:List aQ)
namespace aQ
def k:aQ->Int | mk k _ _ _ _=>k
def n:aQ->Int | mk _ n _ _ _=>n
def a:aQ->Int | mk _ _ a _ _=>a
def s:aQ->List UInt8 | mk _ _ _ s _=>s
def l:aQ->List aQ | mk _ _ _ _ l=>l
end aQ
mutual
def aQ.size:aQ->Nat
 | .mk _ _ _ _ l=>1+e9 l
def e9:List aQ->Nat
 | []=>0
 | t::l=>t.size+e9 l
end
theorem pO {t:aQ}:∀{l:List aQ},t ∈ l->t.size<=e9 l
 | [],h=>by cases h
 | u::l,h=>by
   simp only [e9];rcases an2.1 h with rfl | h
   . omega
   . have:=pO h;omega
theorem h4 {t u:aQ} (h:u ∈ t.l):u.size<t.size:=by
 cases t with
 | mk k n a s l=>have:=pO h;simp only [aQ.size];simp only [aQ.l] at this;omega
theorem CC:∀l:List aQ,l.length<=e9 l
 | []=>anD _
 | t::l=>by have:=CC l;have:1<=t.size:=by (cases t;simp only [aQ.size];omega)
            simp only [e9,anz];omega
theorem w6 (t:aQ):1<=t.size:=by cases t;simp only [aQ.size];omega
mutual
def aQ.enc:aQ->List D
 | .mk k n a s l=>[.i .i64 k,.i .i64 n,.i .i64 a,.s s,.l 5 (Fy l)]
def Fy:List aQ->List (List D)
 | []=>[]
 | t::l=>t.enc::Fy l
end
theorem Tu:∀l:List aQ,Fy l=l.map aQ.enc
 | []=>rfl
 | t::l=>by rw [Fy,Tu l,aow]
theorem KD (t:aQ):t.enc=[.i .i64 t.k,.i .i64 t.n,.i .i64 t.a,.s t.s,.l 5 (t.l.map aQ.enc)]:=by
 cases t with
 | mk k n a s l=>simp only [aQ.enc,Tu,aQ.k,aQ.n,aQ.a,aQ.s,aQ.l]
mutual
def aQ.deep:aQ->Nat
 | .mk _ _ _ _ l=>km l+1
def km:List aQ->Nat
 | []=>0
 | t::l=>max t.deep (km l)
end
section
variable {F:aU->Prop} {h:ah} [Lay]
theorem aQ.open {t:aQ} {ai:List V} (H:cg F h t.enc ai):∃eS,ai=[.int .i64 t.k,.int .i64 t.n,.int .i64 t.a,.str t.s,eS]/\ch F h 5 (t.l.map aQ.enc) eS/\t.s.length<=top:=by rw [KD] at H;obtain ⟨_,rfl,H1⟩:=H.int;obtain ⟨_,rfl,cN⟩:=H1.int;obtain ⟨_,rfl,Gt⟩:=cN.int;obtain ⟨_,rfl,aL,Gu⟩:=Gt.str;obtain ⟨eS,_,rfl,L,Gv⟩:=Gu.dZ;obtain rfl:=Gv.no;exact ⟨eS,rfl,L,aL⟩
theorem aQ.y7 {l:List aQ} {v:V} (H:ch F h 5 (l.map aQ.enc) v) {k:IntKind} {i:Nat} (au:i<l.length):
 ∃b off eS,iD 5 v (.int k i)=some (.ptr b (off+i * 5))/\cg F h l[i].enc [.int .i64 l[i].k,.int .i64 l[i].n,.int .i64 l[i].a,.str l[i].s,eS]/\ch F h 5 (l[i].l.map aQ.enc) eS/\
  ∀ab,Ext h ab->o0 5 (ab.get b) (off+i * 5)=some (.agg [.int .i64 l[i].k,.int .i64 l[i].n,.int .i64 l[i].a,.str l[i].s,eS]):=by
 obtain ⟨b,off,u,al,aN,cj,gl,_⟩:=H.at (k:=k) (i:=i) (by rw [anK];exact au);rw [List.getElem_map] at aN;obtain ⟨eS,rfl,L,_⟩:=aQ.open aN;exact ⟨b,off,eS,al,aN,L,gl⟩
end
end
section
open Go bb Go.RowKit
theorem AF {w:World} {p:Addr} {v:Value} (h:w.cell? p=some v):p.block<w.heap.size:=by
 unfold World.cell? at h;by_cases q:p.block<w.heap.size
 . exact q
 . rw [aoX (by omega)] at h;cases h
def xt (w:World) (g:Nat):Prop:=∃aV,w.cell? ⟨g,0,none⟩=some aV/\(aV=.nilIface\/∃akP Tt,aV=.iface akP Tt)
theorem xt.gw {w w':World} {g:Nat} (h:xt w g) (aj:Below w.heap.size w w'):xt w' g:=by obtain ⟨aV,J,ad⟩:=h;exact ⟨aV,by rw [aj.cell (AF J)];exact J,ad⟩
structure GO (w:World):Prop where
 Vd:Lib.Utf8Tabs 4 5 w
 maxLen:∃m,w.cell? ⟨0,0,none⟩=some (.int .i64 m)
 PJ:xt w 7
 FC:Lib.TabIs Tryz.prog w "internal/strconv.uint64pow10" .u64 Lib.pow10Tab
instance lay:Lay where
 ok w:=GO w
 gw:=by
  intro w w' h aj;refine ⟨?_,?_,h.PJ.gw aj,?_⟩
  . obtain ⟨J,ad⟩:=h.Vd;refine ⟨fun c ao=>?_,fun i au=>?_⟩
    . rw [aj.cell (AF (J c ao))];exact J c ao
    . obtain ⟨ag,av⟩:=ad i au;rw [aj.cell (AF ag),aj.cell (AF av)];exact ⟨ag,av⟩
  . obtain ⟨m,q⟩:=h.maxLen;exact ⟨m,by rw [aj.cell (AF q)];exact q⟩
  . have an:Tryz.prog.globalNamed "internal/strconv.uint64pow10"=some 1:=by kernel_rfl
    have aw:1<w.heap.size:=by
     have q:=h.FC;unfold Lib.TabIs World.var? at q;rw [an] at q;by_cases aH:1<w.heap.size
     . exact aH
     . simp only [Option.bind_some] at q;rw [aoX (by omega)] at q;cases q
    exact var?_below aj an aw h.FC
section
open Go.Shelf
def Tryz.agL:Go.Shelf.Ren:=⟨fun | 144=>52 | 143=>91 | 219=>113 | 217=>124 | 225=>125 | 224=>126 | 267=>127 | 266=>138 | 314=>139 | n=>n,fun | 9=>9 | 4=>4 | 3=>3 | 5=>5 | 46=>112 | 146=>135 | 51=>134 | n=>n,fun | 1=>0 | n=>n⟩
theorem Tryz.agK:Go.Proofs.Lays.n144 Tryz.prog Tryz.agL:={
 mixed:=by kernel_rfl,
 f143:=Tryz.func91.trans (congrArg some (by kernel_rfl)),
 f144:=Tryz.func52.trans (congrArg some (by kernel_rfl)),
 f217:=Tryz.func124.trans (congrArg some (by kernel_rfl)),
 f219:=Tryz.func113.trans (congrArg some (by kernel_rfl)),
 f224:=Tryz.func126.trans (congrArg some (by kernel_rfl)),
 f225:=Tryz.func125.trans (congrArg some (by kernel_rfl)),
 f266:=Tryz.func138.trans (congrArg some (by kernel_rfl)),
 f267:=Tryz.func127.trans (congrArg some (by kernel_rfl)),
 f314:=Tryz.func139.trans (congrArg some (by kernel_rfl)),
 t3:=Tryz.underlying3,
 a3:=Tryz.isAgg3,
 z3:=Tryz.sizeOf3,
 v3:=Tryz.zeroValue3,
 t4:=Tryz.underlying4,
 a4:=Tryz.isAgg4,
 z4:=Tryz.sizeOf4,
 v4:=Tryz.zeroValue4,
 t5:=Tryz.underlying5,
 a5:=Tryz.isAgg5,
 z5:=Tryz.sizeOf5,
 v5:=Tryz.zeroValue5,
 t9:=Tryz.underlying9,
 a9:=Tryz.isAgg9,
 z9:=Tryz.sizeOf9,
 v9:=Tryz.zeroValue9,
 t46:=Tryz.underlying112,
 a46:=Tryz.isAgg112,
 z46:=Tryz.sizeOf112,
 v46:=Tryz.zeroValue112,
 t51:=Tryz.underlying134,
 a51:=Tryz.isAgg134,
 z51:=Tryz.sizeOf134,
 v51:=Tryz.zeroValue134,
 t146:=Tryz.underlying135,
 a146:=Tryz.isAgg135,
 z146:=Tryz.sizeOf135,
 v146:=Tryz.zeroValue135,
 g1:=by kernel_rfl}
def Tryz.R6:Go.Shelf.Ren:=⟨fun | 156=>31 | 165=>56 | 166=>57 | 169=>58 | 240=>94 | 241=>95 | 276=>118 | 277=>119 | n=>n,fun | 31=>59 | 9=>9 | 3=>3 | 4=>4 | 0=>0 | 20=>20 | 72=>81 | 76=>85 | 70=>79 | 37=>58 | 75=>84 | 127=>110 | 164=>126 | 5=>5 | 80=>87 | n=>n,fun | n=>n⟩
theorem Tryz.EW:Go.Proofs.Lays.n156 Tryz.prog Tryz.R6:={
 mixed:=by kernel_rfl,
 f156:=Tryz.func31.trans (congrArg some (by kernel_rfl)),
 f165:=Tryz.func56.trans (congrArg some (by kernel_rfl)),
 f166:=Tryz.func57.trans (congrArg some (by kernel_rfl)),
 f169:=Tryz.func58.trans (congrArg some (by kernel_rfl)),
 f240:=Tryz.func94.trans (congrArg some (by kernel_rfl)),
 f241:=Tryz.func95.trans (congrArg some (by kernel_rfl)),
 f276:=Tryz.func118.trans (congrArg some (by kernel_rfl)),
 f277:=Tryz.func119.trans (congrArg some (by kernel_rfl)),
 t0:=Tryz.underlying0,
 a0:=Tryz.isAgg0,
 z0:=Tryz.sizeOf0,
 v0:=Tryz.zeroValue0,
 t3:=Tryz.underlying3,
 a3:=Tryz.isAgg3,
 z3:=Tryz.sizeOf3,
 v3:=Tryz.zeroValue3,
 t4:=Tryz.underlying4,
 a4:=Tryz.isAgg4,
 z4:=Tryz.sizeOf4,
 v4:=Tryz.zeroValue4,
 t9:=Tryz.underlying9,
 a9:=Tryz.isAgg9,
 z9:=Tryz.sizeOf9,
 v9:=Tryz.zeroValue9,
 t20:=Tryz.underlying20,
 a20:=Tryz.isAgg20,
 z20:=Tryz.sizeOf20,
 v20:=Tryz.zeroValue20,
 t31:=Tryz.underlying59,
 a31:=Tryz.isAgg59,
 z31:=Tryz.sizeOf59,
 v31:=Tryz.zeroValue59,
 t37:=Tryz.underlying58,
 a37:=Tryz.isAgg58,
 z37:=Tryz.sizeOf58,
 v37:=Tryz.zeroValue58,
 t70:=Tryz.underlying79,
 a70:=Tryz.isAgg79,
 z70:=Tryz.sizeOf79,
 v70:=Tryz.zeroValue79,
 t72:=Tryz.underlying81,
 a72:=Tryz.isAgg81,
 z72:=Tryz.sizeOf81,
 v72:=Tryz.zeroValue81,
 t75:=Tryz.underlying84,
 a75:=Tryz.isAgg84,
 z75:=Tryz.sizeOf84,
 v75:=Tryz.zeroValue84,
 t76:=Tryz.underlying85,
 a76:=Tryz.isAgg85,
 z76:=Tryz.sizeOf85,
 v76:=Tryz.zeroValue85,
 t127:=Tryz.underlying110,
 a127:=Tryz.isAgg110,
 z127:=Tryz.sizeOf110,
 v127:=Tryz.zeroValue110,
 t164:=Tryz.underlying126,
 a164:=Tryz.isAgg126,
 z164:=Tryz.sizeOf126,
 v164:=Tryz.zeroValue126}
def Tryz.agM:Go.Shelf.Ren:=⟨fun | 171=>29 | 243=>55 | 246=>93 | 283=>114 | 284=>115 | 285=>116 | 286=>117 | 129=>129 | 317=>128 | 318=>130 | 319=>131 | 320=>132 | 337=>140 | 338=>141 | n=>n,fun | 3=>3 | 9=>9 | 2=>2 | 4=>4 | 171=>120 | 0=>0 | 53=>121 | 37=>58 | 5=>5 | 173=>124 | 212=>141 | 51=>134 | 20=>20 | 213=>142 | 46=>112 | 232=>154 | 233=>155 | n=>n,fun | 17=>1 | 18=>2 | 19=>3 | n=>n⟩
theorem Tryz.R7:Go.Proofs.LaysM.n171 Tryz.prog Tryz.agM:={
 mixed:=by kernel_rfl,
 f129:=Tryz.func129.trans (congrArg some (by kernel_rfl)),
 f171:=Tryz.func29.trans (congrArg some (by kernel_rfl)),
 f243:=Tryz.func55.trans (congrArg some (by kernel_rfl)),
 f246:=Tryz.func93.trans (congrArg some (by kernel_rfl)),
 f283:=Tryz.func114.trans (congrArg some (by kernel_rfl)),
 f284:=Tryz.func115.trans (congrArg some (by kernel_rfl)),
 f285:=Tryz.func116.trans (congrArg some (by kernel_rfl)),
 f286:=Tryz.func117.trans (congrArg some (by kernel_rfl)),
 f317:=Tryz.func128.trans (congrArg some (by kernel_rfl)),
 f318:=Tryz.func130.trans (congrArg some (by kernel_rfl)),
 f319:=Tryz.func131.trans (congrArg some (by kernel_rfl)),
 f320:=Tryz.func132.trans (congrArg some (by kernel_rfl)),
 f337:=Tryz.func140.trans (congrArg some (by kernel_rfl)),
 f338:=Tryz.func141.trans (congrArg some (by kernel_rfl)),
 t0:=Tryz.underlying0,
 a0:=Tryz.isAgg0,
 z0:=Tryz.sizeOf0,
 v0:=Tryz.zeroValue0,
 t2:=Tryz.underlying2,
 a2:=Tryz.isAgg2,
 z2:=Tryz.sizeOf2,
 v2:=Tryz.zeroValue2,
 t3:=Tryz.underlying3,
 a3:=Tryz.isAgg3,
 z3:=Tryz.sizeOf3,
 v3:=Tryz.zeroValue3,
 t4:=Tryz.underlying4,
 a4:=Tryz.isAgg4,
 z4:=Tryz.sizeOf4,
 v4:=Tryz.zeroValue4,
 t5:=Tryz.underlying5,
 a5:=Tryz.isAgg5,
 z5:=Tryz.sizeOf5,
 v5:=Tryz.zeroValue5,
 t9:=Tryz.underlying9,
 a9:=Tryz.isAgg9,
 z9:=Tryz.sizeOf9,
 v9:=Tryz.zeroValue9,
 t20:=Tryz.underlying20,
 a20:=Tryz.isAgg20,
 z20:=Tryz.sizeOf20,
 v20:=Tryz.zeroValue20,
 t37:=Tryz.underlying58,
 a37:=Tryz.isAgg58,
 z37:=Tryz.sizeOf58,
 v37:=Tryz.zeroValue58,
 t46:=Tryz.underlying112,
 a46:=Tryz.isAgg112,
 z46:=Tryz.sizeOf112,
 v46:=Tryz.zeroValue112,
 t51:=Tryz.underlying134,
 a51:=Tryz.isAgg134,
 z51:=Tryz.sizeOf134,
 v51:=Tryz.zeroValue134,
 t53:=Tryz.underlying121,
 a53:=Tryz.isAgg121,
 z53:=Tryz.sizeOf121,
 v53:=Tryz.zeroValue121,
 t171:=Tryz.underlying120,
 a171:=Tryz.isAgg120,
 z171:=Tryz.sizeOf120,
 v171:=Tryz.zeroValue120,
 t173:=Tryz.underlying124,
 a173:=Tryz.isAgg124,
 z173:=Tryz.sizeOf124,
 v173:=Tryz.zeroValue124,
 t212:=Tryz.underlying141,
 a212:=Tryz.isAgg141,
 z212:=Tryz.sizeOf141,
 v212:=Tryz.zeroValue141,
 t213:=Tryz.underlying142,
 a213:=Tryz.isAgg142,
 z213:=Tryz.sizeOf142,
 t232:=Tryz.underlying154,
 a232:=Tryz.isAgg154,
 z232:=Tryz.sizeOf154,
 v232:=Tryz.zeroValue154,
 t233:=Tryz.underlying155,
 a233:=Tryz.isAgg155,
 z233:=Tryz.sizeOf155,
 v233:=Tryz.zeroValue155,
 g17:=by kernel_rfl,
 g18:=by kernel_rfl,
 g19:=by kernel_rfl,
 i0:=by kernel_rfl,
 i2:=by kernel_rfl,
 i3:=by kernel_rfl,
 i4:=by kernel_rfl,
 i5:=by kernel_rfl,
 i9:=by kernel_rfl,
 i20:=by kernel_rfl,
 i37:=by kernel_rfl,
 i46:=by kernel_rfl,
 i51:=by kernel_rfl,
 i53:=by kernel_rfl,
 i171:=by kernel_rfl,
 i173:=by kernel_rfl,
 i212:=by kernel_rfl,
 i232:=by kernel_rfl,
 i233:=by kernel_rfl,
 m17:=by kernel_rfl,
 m18:=by kernel_rfl,
 m19:=by kernel_rfl}
theorem Tryz.D1:Builder.Extra Tryz.prog Tryz.R6 where
 sizeBuilder:=by kernel_rfl
 liesBuilder:=by kernel_rfl
 t5:=Tryz.underlying5
 a5:=Tryz.isAgg5
 z5:=Tryz.sizeOf5
 v5:=Tryz.zeroValue5
 infoByte:=by kernel_rfl
 cellsByte:=by kernel_rfl
 sizeByte:=by kernel_rfl
 neB5:=by decide
theorem O0 (s sub:ByteArray) (m:Int) (w:World) (aL:s.size<4294967281) (hm:w.cell? ⟨0,0,none⟩=some (.int .i64 m)):
 Calls Tryz.prog 52 #[.string s,.string sub] w fun e w'=>e=.returned (.bool (Lib.contains s.data.toList sub.data.toList))/\w'=w:=Any.strings_Contains Tryz.agK s sub m w aL hm
end
theorem aee:GL Tryz.prog 31:=
 ⟨fun AD o c xs sep w J ad aC bn b0=>Go.Proofs.Any.strings_Join Tryz.EW Tryz.D1 AD o c xs sep w J ad aC bn b0,fun a c sep w=>Go.Proofs.Any.strings_Join_none Tryz.EW Tryz.D1 a c sep w⟩
section
open Go.Proofs Go.Sort
theorem WZ (w:World) (k:Nat) (os:Array Obj):Below w.heap.size w (grow (w.drewN k) os):=
 ⟨rfl,rfl,rfl,by simp [grow,World.drewN],fun b aj=>by simp only [grow,World.drewN];rw [aoV aj]⟩
theorem aea:LM Tryz.prog 29:=fun n w hw a6 J=>(Any.strconv_Itoa Tryz.R7 n a6 J w hw.FC).mono fun e w' q=>by obtain ⟨ag,k,os,rfl⟩:=q;exact ⟨ag,WZ w k os⟩
end
def ctx:Ctx:=⟨Tryz.prog,fun f=>bif Nat.beq f 52 then some HD else bif Nat.beq f 29 then some JI else bif Nat.beq f 31 then some JJ else none,fun f=>bif Nat.beq f 138 then some EJ else none⟩
theorem follows:Tryz.prog.follows .mixedOrders=true:=by kernel_rfl
theorem names:(Tryz.prog.funcs.toList.all fun fn=>!(fn.name == "runtime.NumGoroutine"))=true:=by kernel_rfl
theorem uB:fa Tryz.prog:=by intro f fn h;have:=an0.1 names fn (aob (i:=f) (by simpa using h));simpa using this
theorem FD:p9 ctx:=by
 refine ⟨fun f p args h v ab ak he=>?_,fun f p args h v ab ak he aB E w xs ar s=>?_⟩
 . simp only [ctx,h_] at ak;by_cases aA:f=52
   . rw [anL aA] at ak;cases ak;subst aA;obtain ⟨s,sub,rfl,aL,rfl,rfl⟩:=ZD he;refine ⟨⟨_,Tryz.func52,by kernel_rfl⟩,agb fun E xs w aw ar=>?_⟩;obtain ⟨y,cT,rfl,ag,z,p0,rfl,av,rfl⟩:=ar;simp only [Rel] at ag av;subst ag av;obtain ⟨m,hm⟩:=aw.maxLen;refine (O0 ⟨⟨s⟩⟩ ⟨⟨sub⟩⟩ m w (by show s.length<4294967281;omega) hm).mono fun e w' q=>?_;obtain ⟨rfl,rfl⟩:=q;exact ⟨_,rfl,by simp only [Rel],Below.refl _ _⟩
   . rw [anE aA] at ak;by_cases aA:f=29
     . rw [anL aA] at ak;cases ak;subst aA;exact ⟨⟨_,Tryz.func29,by kernel_rfl⟩,fun aB E w xs ar s=>aeb aea he aB E w xs ar s⟩
     . rw [anE aA] at ak;by_cases aA:f=31
       . rw [anL aA] at ak;cases ak;subst aA;exact ⟨⟨_,Tryz.func31,by kernel_rfl⟩,fun aB E w xs ar s=>aef aee he aB E w xs ar s⟩
       . rw [anE aA] at ak;cases ak
 . simp only [ctx,h_] at ak;by_cases aA:f=138
   . rw [anL aA] at ak;cases ak;subst aA;exact ad0 (P:=Tryz.prog) Tryz.func138 (by kernel_rfl) (by kernel_rfl) (by kernel_rfl) (by kernel_rfl) he aB E w xs ar s
   . rw [anE aA] at ak;cases ak
end
section
open Go bb
abbrev U (d aS:Nat):bs:=⟨some d,.bk (.t aS),none,[aS]⟩
abbrev a7 (d aS:Nat):bs:=⟨some d,.ep (.t aS),none,[aS]⟩
abbrev bo (d aS:Nat) (cC:Int):bs:=⟨some d,.bin (.int .eql) (.t aS) (.c (.int .i64 cC)),none,[aS]⟩
abbrev ca (d:Nat) (cC:Int):bs:=⟨some d,.bk (.c (.int .i64 cC)),none,[]⟩
abbrev cc (d aS:Nat):bs:=⟨some d,.jM 5 (.t aS),none,[aS]⟩
abbrev cq (d aS bf:Nat) (cC:Nat):bs:=⟨some d,.call cC [(.t aS),(.t bf)],none,[aS,bf]⟩
abbrev c4 (d aS:Nat):bs:=⟨some d,.gP 1 (.t aS),none,[aS]⟩
abbrev c9 (d aS:Nat):bs:=⟨some d,.gP 4 (.t aS),none,[aS]⟩
abbrev dA (d aS:Nat):bs:=⟨some d,.uE (.t aS),none,[aS]⟩
abbrev dT (d aS:Nat):bs:=⟨some d,.gP 0 (.t aS),none,[aS]⟩
abbrev er (d aS bf:Nat):bs:=⟨some d,.pick (.t aS) (.t bf) (.c (.bool false)),none,[aS,bf]⟩
abbrev eF (d aS:Nat):bs:=⟨some d,.len .slice (.t aS),none,[aS]⟩
abbrev eK (d aS:Nat) (cC:Int):bs:=⟨some d,.bin (.int .add) (.t aS) (.c (.int .i64 cC)),none,[aS]⟩
abbrev eL (d aS:Nat) (cC:Nat):bs:=⟨some d,.call cC [(.t aS)],none,[aS]⟩
abbrev e2 (d:Nat):bs:=⟨some d,.bk (.c (.bool false)),none,[]⟩
abbrev fk (d aS bf:Nat):bs:=⟨some d,.pick (.t aS) (.c (.bool true)) (.t bf),none,[aS,bf]⟩
abbrev fu (d aS bf:Nat):bs:=⟨some d,.ep (.t aS),(some (bf,true)),[aS,bf]⟩
abbrev fB (d aS bf:Nat):bs:=⟨some d,.bk (.t aS),(some (bf,true)),[aS,bf]⟩
abbrev fL (d aS:Nat):bs:=⟨some d,.box (.t aS),none,[aS]⟩
abbrev fQ (d aS bf:Nat):bs:=⟨some d,.bin (.int .lss) (.t aS) (.t bf),none,[aS,bf]⟩
abbrev fV (d aS:Nat):bs:=⟨some d,.gP 3 (.t aS),none,[aS]⟩
abbrev gi (d aS:Nat) (cC:Int):bs:=⟨some d,.dj 5 (.t aS) (.c (.int .i64 cC)),none,[aS]⟩
abbrev gj (d aS bf:Nat):bs:=⟨some d,.bk (.t aS),(some (bf,false)),[aS,bf]⟩
abbrev gB (d aS bf:Nat) (cC:Nat) (bX:Int):bs:=⟨some d,.call cC [(.t aS),(.c (.int .i64 bX)),(.t bf)],none,[aS,bf]⟩
abbrev hJ (d aS bf:Nat):bs:=⟨some d,.dj 5 (.t aS) (.t bf),none,[aS,bf]⟩
abbrev jw (d:Nat):bs:=⟨some d,.bk (.c .cr),none,[]⟩
abbrev kp (d aS:Nat) (cC:Int):bs:=⟨some d,.bin (.int .gtr) (.t aS) (.c (.int .i64 cC)),none,[aS]⟩
abbrev kq (d aS:Nat):bs:=⟨some d,.len .str (.t aS),none,[aS]⟩
abbrev k4 (d aS:Nat):bs:=⟨some d,.ext (.t aS) 0,none,[aS]⟩
abbrev k5 (d aS:Nat):bs:=⟨some d,.ext (.t aS) 1,none,[aS]⟩
abbrev lR (d aS bf:Nat):bs:=⟨some d,.app 1 (.t aS) (.t bf),none,[aS,bf]⟩
abbrev lS (d aS:Nat) (cC:Int):bs:=⟨some d,.bin (.int .geq) (.t aS) (.c (.int .i64 cC)),none,[aS]⟩
abbrev mz (d aS bf:Nat):bs:=⟨some d,.ep (.t aS),(some (bf,false)),[aS,bf]⟩
abbrev mA (d:Nat):bs:=⟨some d,.bk (.c (.str [])),none,[]⟩
abbrev nc (d aS:Nat) (cC:Nat) (bX:Int):bs:=⟨some d,.call cC [(.c (.int .i64 bX)),(.t aS)],none,[aS]⟩
abbrev nM (d aS bf:Nat) (cC:Int):bs:=⟨some d,.bin (.int .leq) (.t aS) (.c (.int .i64 cC)),(some (bf,true)),[aS,bf]⟩
abbrev nN (d aS bf:Nat):bs:=⟨some d,.gP 3 (.t aS),(some (bf,true)),[aS,bf]⟩
abbrev oI (d aS:Nat):bs:=⟨some d,.gP 2 (.t aS),none,[aS]⟩
abbrev o9 (d:Nat):bs:=⟨some d,.new [(.int .i64 0),(.int .i64 0),(.int .i64 0),(.str []),.cr],none,[]⟩
abbrev p6 (d aS:Nat) (cC:Int):bs:=⟨some d,.bin (.int .lss) (.t aS) (.c (.int .i64 cC)),none,[aS]⟩
abbrev p7 (d aS bf:Nat):bs:=⟨some d,.gP 1 (.t aS),(some (bf,true)),[aS,bf]⟩
abbrev q3 (d aS bf:Nat) (cC:Int):bs:=⟨some d,.bin (.int .eql) (.t aS) (.c (.int .u8 cC)),(some (bf,false)),[aS,bf]⟩
abbrev q4 (d aS bf:Nat):bs:=⟨some d,.dj 1 (.t aS) (.t bf),none,[aS,bf]⟩
abbrev r6 (d aS bf:Nat):bs:=⟨some d,.gP 0 (.t aS),(some (bf,true)),[aS,bf]⟩
abbrev r7 (d aS bf:Nat):bs:=⟨some d,.un .not (.t aS),(some (bf,false)),[aS,bf]⟩
abbrev r8 (d aS:Nat):bs:=⟨some d,.un .not (.t aS),none,[aS]⟩
abbrev tm (d aS:Nat) (cC:Int):bs:=⟨some d,.bin (.int .neq) (.t aS) (.c (.int .i64 cC)),none,[aS]⟩
abbrev tn (d aS bf du:Nat) (cC:Nat):bs:=⟨some d,.call cC [(.t aS),(.t bf)],(some (du,true)),[aS,bf,du]⟩
abbrev tp (d aS:Nat):bs:=⟨some d,.oj (.t aS) (.c (.int .i64 0)),none,[aS]⟩
abbrev ve (d aS bf:Nat):bs:=⟨some d,.app 4 (.t aS) (.t bf),none,[aS,bf]⟩
abbrev vf (d aS:Nat) (cC:Int):bs:=⟨some d,.bin (.int .sub) (.t aS) (.c (.int .i64 cC)),none,[aS]⟩
abbrev vg (d aS:Nat):bs:=⟨some d,.e4 1 4 [(.int .i64 0),(.int .i64 0),(.int .i64 0),(.str [])] [(0,4,(.t aS))],none,[aS]⟩
abbrev vh (d aS bf:Nat) (cC:Nat):bs:=⟨some d,.call cC [(.t aS)],(some (bf,false)),[aS,bf]⟩
abbrev vi (d aS:Nat):bs:=⟨some d,.jM 4 (.t aS),none,[aS]⟩
abbrev vj (d aS bf:Nat):bs:=⟨some d,.jM 5 (.t aS),(some (bf,false)),[aS,bf]⟩
abbrev xv (d aS:Nat):bs:=⟨some d,.bin (.int .add) (.c (.int .u8 48)) (.t aS),none,[aS]⟩
abbrev xw (d aS:Nat) (cC:Int):bs:=⟨some d,.bin (.int .eql) (.t aS) (.c (.int .u8 cC)),none,[aS]⟩
abbrev xx (d aS bf:Nat):bs:=⟨some d,.bin (.int .geq) (.t aS) (.t bf),none,[aS,bf]⟩
abbrev xy (d aS:Nat) (cC:Int):bs:=⟨some d,.bin (.int .leq) (.t aS) (.c (.int .i64 cC)),none,[aS]⟩
abbrev xz (d aS bf:Nat):bs:=⟨some d,.bin (.int .sub) (.t aS) (.t bf),none,[aS,bf]⟩
abbrev xA (d:Nat) (cC:Int):bs:=⟨some d,.e4 1 1 [(.int .u8 0)] [(0,1,(.c (.int .u8 cC)))],none,[]⟩
abbrev xB (d aS bf:Nat) (cC:Nat) (bX:Int):bs:=⟨some d,.call cC [(.t aS),(.t bf),(.c (.int .i64 bX)),(.c (.bool false))],none,[aS,bf]⟩
abbrev xC (d:Nat) (cC:Nat) (bX:Int) (b_:Int):bs:=⟨some d,.call cC [(.c (.int .i64 bX)),(.c (.int .i64 b_))],none,[]⟩
abbrev xD (d aS:Nat):bs:=⟨some d,.call 45 [(.t aS),(.c (.str [40]))],none,[aS]⟩
abbrev xE (d aS:Nat):bs:=⟨some d,.call 45 [(.t aS),(.c (.str [41]))],none,[aS]⟩
abbrev xF (d aS bf:Nat):bs:=⟨some d,.gP 4 (.t aS),(some (bf,true)),[aS,bf]⟩
abbrev xG (d aS bf:Nat):bs:=⟨some d,.dj 4 (.t aS) (.t bf),none,[aS,bf]⟩
abbrev xH (d:Nat):bs:=⟨some d,.bk (.c (.bool true)),none,[]⟩
abbrev xI (d:Nat):bs:=⟨some d,.new [(.int .i64 0),(.int .i64 0),(.int .i64 0),(.str [])],none,[]⟩
abbrev xJ (d aS bf:Nat):bs:=⟨some d,.uE (.t aS),(some (bf,true)),[aS,bf]⟩
abbrev Ac (d aS bf:Nat):bs:=⟨some d,.bin (.int .add) (.t aS) (.t bf),none,[aS,bf]⟩
abbrev Ad (d aS:Nat):bs:=⟨some d,.bin (.str .eql) (.t aS) (.c (.str [])),none,[aS]⟩
abbrev Ae (d aS bf:Nat):bs:=⟨some d,.build [(.int .i64 0),(.int .i64 0),(.int .i64 0),(.str [])] [(0,1,(.t aS)),(3,1,(.t bf))],none,[aS,bf]⟩
abbrev Af (d aS bf du:Nat) (cC:Nat):bs:=⟨some d,.call cC [(.t aS),(.t bf)],(some (du,false)),[aS,bf,du]⟩
abbrev Ag (d aS:Nat) (cC:Nat):bs:=⟨some d,.call cC [],(some (aS,true)),[aS]⟩
abbrev Ah (d aS bf:Nat):bs:=⟨some d,.oj (.t aS) (.t bf),none,[aS,bf]⟩
abbrev Ai (d aS bf:Nat):bs:=⟨some d,.len .str (.t aS),(some (bf,true)),[aS,bf]⟩
abbrev Aj (d aS:Nat):bs:=⟨some d,.uA 23 [(.t aS)],none,[aS]⟩
abbrev C4 (d aS bf:Nat) (cC:Int):bs:=⟨some d,.bin (.int .eql) (.t aS) (.c (.int .i64 cC)),(some (bf,false)),[aS,bf]⟩
abbrev C5 (d aS:Nat) (cC:Int):bs:=⟨some d,.bin (.int .geq) (.t aS) (.c (.int .u8 cC)),none,[aS]⟩
abbrev C6 (d aS bf:Nat) (cC:Int):bs:=⟨some d,.bin (.int .gtr) (.t aS) (.c (.int .i64 cC)),(some (bf,false)),[aS,bf]⟩
abbrev C7 (d aS bf:Nat) (cC:Int):bs:=⟨some d,.bin (.int .leq) (.t aS) (.c (.int .u8 cC)),(some (bf,true)),[aS,bf]⟩
abbrev C8 (d aS:Nat) (cC:Int):bs:=⟨some d,.bin (.int .quo) (.t aS) (.c (.int .u8 cC)),none,[aS]⟩
abbrev C9 (d aS:Nat):bs:=⟨some d,.bin (.int .rem) (.t aS) (.c (.int .u8 10)),none,[aS]⟩
abbrev C' (d aS:Nat):bs:=⟨some d,.bin (.str .add) (.c (.str [39])) (.t aS),none,[aS]⟩
abbrev C_ (d aS bf:Nat):bs:=⟨some d,.bin (.str .eql) (.t aS) (.t bf),none,[aS,bf]⟩
abbrev Da (d aS:Nat):bs:=⟨some d,.e4 1 1 [(.int .u8 0)] [(0,1,(.t aS))],none,[aS]⟩
abbrev Db (d:Nat):bs:=⟨some d,.e4 1 1 [(.str [])] [(0,1,(.c (.str [40])))],none,[]⟩
abbrev Dc (d:Nat):bs:=⟨some d,.e4 1 1 [(.str [])] [(0,1,(.c (.str [41])))],none,[]⟩
abbrev Dd (d aS:Nat) (cC:Int):bs:=⟨some d,.build [(.int .i64 0),(.int .i64 0),(.int .i64 0),(.str [])] [(0,1,(.c (.int .i64 cC))),(3,1,(.t aS))],none,[aS]⟩
abbrev De (d:Nat):bs:=⟨some d,.build [(.int .i64 0),(.int .i64 0),(.int .i64 0),(.str [])] [],none,[]⟩
abbrev Df (d aS bf du:Nat) (cC:Nat):bs:=⟨some d,.call cC [(.t aS),(.t bf),(.t du)],none,[aS,bf,du]⟩
abbrev Dg (d aS bf:Nat) (cC:Nat) (bX:Int) (b_:Int):bs:=⟨some d,.call cC [(.t aS),(.t bf),(.c (.int .i64 bX)),(.c (.str [44])),(.c (.int .i64 b_))],none,[aS,bf]⟩
abbrev Dh (d aS bf:Nat) (cC:Nat) (bX:Int) (b_:Int):bs:=⟨some d,.call cC [(.t aS),(.t bf),(.c (.int .i64 bX)),(.c (.str [45,62])),(.c (.int .i64 b_))],none,[aS,bf]⟩
abbrev Di (d aS:Nat) (cC:Nat) (bX:Int):bs:=⟨some d,.call cC [(.t aS),(.c (.int .i64 bX))],none,[aS]⟩
abbrev Dj (d aS:Nat) (cC:Nat) (bX:Int) (b_:Int):bs:=⟨some d,.call cC [(.t aS),(.c (.int .u8 bX)),(.c (.int .u8 b_))],none,[aS]⟩
abbrev Dk (d aS bf:Nat) (cC:Nat):bs:=⟨some d,.call cC [(.t aS)],(some (bf,true)),[aS,bf]⟩
abbrev Dl (d aS:Nat):bs:=⟨some d,.call 45 [(.t aS),(.c (.str [61]))],none,[aS]⟩
abbrev Dm (d aS bf du:Nat):bs:=⟨some d,.call 82 [(.t aS),(.t bf),(.t du),(.c (.bool false))],none,[aS,bf,du]⟩
abbrev Dn (d aS bf:Nat):bs:=⟨some d,.gP 2 (.t aS),(some (bf,false)),[aS,bf]⟩
abbrev C0 (d aS bf:Nat):bs:=⟨some d,.dj 4 (.t aS) (.c (.int .i64 0)),(some (bf,true)),[aS,bf]⟩
abbrev C1 (d aS bf:Nat) (cC:Int):bs:=⟨some d,.oj (.t aS) (.c (.int .i64 cC)),(some (bf,true)),[aS,bf]⟩
abbrev C2 (d aS bf:Nat):bs:=⟨some d,.len .slice (.t aS),(some (bf,true)),[aS,bf]⟩
abbrev C3 (d aS bf:Nat):bs:=⟨some d,.dZ 5 (.t aS) none (some (.t bf)) none,none,[aS,bf]⟩
abbrev Gx (d aS bf du:Nat):bs:=⟨some d,.bin (.int .eql) (.t aS) (.t bf),(some (du,true)),[aS,bf,du]⟩
abbrev Gy (d aS bf:Nat) (cC:Int):bs:=⟨some d,.bin (.int .eql) (.t aS) (.c (.int .i64 cC)),(some (bf,true)),[aS,bf]⟩
abbrev Gz (d aS bf:Nat):bs:=⟨some d,.bin (.int .gtr) (.t aS) (.c (.int .i64 0)),(some (bf,true)),[aS,bf]⟩
abbrev GA (d aS:Nat):bs:=⟨some d,.bin (.int .lss) (.t aS) (.c (.int .u8 32)),none,[aS]⟩
abbrev GB (d aS bf:Nat):bs:=⟨some d,.bin (.str .add) (.t aS) (.c (.str [32])),(some (bf,true)),[aS,bf]⟩
abbrev GC (d aS bf:Nat):bs:=⟨some d,.bin (.str .add) (.c (.str [32])) (.t aS),(some (bf,true)),[aS,bf]⟩
abbrev GD (d:Nat) (cC:Int):bs:=⟨some d,.e4 1 1 [(.int .i64 0)] [(0,1,(.c (.int .i64 cC)))],none,[]⟩
abbrev GF (d aS:Nat):bs:=⟨some d,.e4 1 1 [(.str [])] [(0,1,(.t aS))],none,[aS]⟩
abbrev GG (d aS:Nat):bs:=⟨some d,.build [(.int .i64 0),(.int .i64 0),(.int .i64 0),(.str [])] [(0,1,(.c (.int .i64 1))),(1,1,(.t aS))],none,[aS]⟩
abbrev GH (d aS bf:Nat) (cC:Nat) (bX:Int):bs:=⟨some d,.call cC [(.t aS),(.t bf),(.c (.str [44])),(.c (.int .i64 bX))],none,[aS,bf]⟩
abbrev GI (d aS:Nat):bs:=⟨some d,.call 45 [(.t aS),(.c (.str [108,101,116]))],none,[aS]⟩
abbrev GJ (d aS bf:Nat):bs:=⟨some d,.call 52 [(.c (.str [32,97,110,100,32,98,101,103,105,110,32,101,108,115,101,32,101,110,100,32,101,120,99,101,112,116,105,111,110,32,102,97,108,115,101,32,102,117,110,32,105,102,32,105,110,32,108,101,116,32,109,97,116,99,104,32,109,111,100,32,111,102,32,114,97,105,115,101,32,114,101,99,32,116,104,101,110,32,116,114,117,101,32,116,114,121,32,116,121,112,101,32,119,105,116,104,32])),(.t aS)],(some (bf,true)),[aS,bf]⟩
abbrev GK (d aS bf:Nat):bs:=⟨some d,.qS (.t aS) (some (.t bf)) none none,none,[aS,bf]⟩
abbrev LN (d:Nat):bs:=⟨some d,.e4 17 1 [(.str [])] [(0,1,(.c (.str [59,59]))),(1,1,(.c (.str [58,61]))),(2,1,(.c (.str [45,62]))),(3,1,(.c (.str [60,61]))),(4,1,(.c (.str [59]))),(5,1,(.c (.str [40]))),(6,1,(.c (.str [41]))),(7,1,(.c (.str [44]))),(8,1,(.c (.str [61]))),(9,1,(.c (.str [60]))),(10,1,(.c (.str [43]))),(11,1,(.c (.str [45]))),(12,1,(.c (.str [42]))),(13,1,(.c (.str [47]))),(14,1,(.c (.str [124]))),(15,1,(.c (.str [33]))),(16,1,(.c (.str [95])))],none,[]⟩
abbrev LO (d:Nat):bs:=⟨some d,.e4 2 1 [(.str [])] [(0,1,(.c (.str [108,101,116]))),(1,1,(.c (.str [114,101,99])))],none,[]⟩
abbrev LP (d aS bf du:Nat):bs:=⟨some d,.e4 4 1 [(.int .u8 0)] [(0,1,(.c (.int .u8 92))),(1,1,(.t aS)),(2,1,(.t bf)),(3,1,(.t du))],none,[aS,bf,du]⟩
abbrev LQ (d:Nat):bs:=⟨some d,.e4 8 1 [(.str [])] [(0,1,(.c (.str [43]))),(1,1,(.c (.str [45]))),(2,1,(.c (.str [42]))),(3,1,(.c (.str [47]))),(4,1,(.c (.str [109,111,100]))),(5,1,(.c (.str [61]))),(6,1,(.c (.str [60]))),(7,1,(.c (.str [60,61])))],none,[]⟩
abbrev LR (d aS bf:Nat):bs:=⟨some d,.call 69 [(.t aS),(.t bf),(.c (.int .i64 1)),(.c (.str [61])),(.c (.int .i64 1))],none,[aS,bf]⟩
structure cb (f n:Nat) (fn:Func) (c:bD) (eJ:List p_):Prop where
 aA:Tryz.prog.funcs[f]? =some fn
 k7:(fn.body,fn.ntmps,Nat.ble fn.ntmps top,Nat.beq f dy,gJ Tryz.prog fn.ntmps (fn.body.getD .skip),nH Tryz.prog fn.ntmps fn.results.toList,c.plain)=(some (fn.body.getD .skip),n,true,false,c,eJ,true)
theorem cb.z {f n:Nat} {fn:Func} {c:bD} {eJ:List p_} (Z:cb f n fn c eJ) {args:List V} {h:ah} {K:V->ah->Prop} (aw:Nat.ble args.length n=true) (H:gO Tryz.prog c (bA.a_ args) h fun e r ab=>e.ends/\∃ai,kt r ab eJ=some ai/\K (oneOf ai) ab):b8 Tryz.prog f args h K:=by have q:=Z.k7;simp only [aoS] at q;obtain ⟨J,ad,aC,bn,b0,eo,fl⟩:=q;exact ZN follows uB Z.aA J aC bn (by rw [ad];exact aw) b0 eo fl H
theorem cb.d {f n:Nat} {fn:Func} {c:bD} {eJ:List p_} (Z:cb f n fn c eJ) {args:List V} {u:Option V} {h:ah} {K:Option V->ah->Prop} (aw:Nat.ble args.length n=true) (H:gO Tryz.prog c (bA.a_ args) h fun e r ab=>e.ends/\∃ai,kt r ab eJ=some ai/\K u ab):u9 Tryz.prog f args u h K:=by have q:=Z.k7;simp only [aoS] at q;obtain ⟨J,ad,aC,bn,b0,eo,fl⟩:=q;exact ZU follows uB Z.aA J aC (by rw [ad];exact aw) b0 eo fl H
structure Gr (f n:Nat) (fn:Func) (c:bD) (eJ:List p_):Prop where
 aA:Tryz.prog.funcs[f]? =some fn
 k7:(fn.body,fn.ntmps,Nat.ble fn.ntmps top,Nat.beq f dy,gJ Tryz.prog fn.ntmps (fn.body.getD .skip),nH Tryz.prog fn.ntmps fn.results.toList)=(some (fn.body.getD .skip),n,true,false,c,eJ)
theorem Gr.z {f n:Nat} {fn:Func} {c:bD} {eJ:List p_} (Z:Gr f n fn c eJ) {args:List V} {h:ah} {K:V->ah->Prop} (aw:Nat.ble args.length n=true) (H:gO Tryz.prog c (bA.a_ args) h fun e r ab=>e.ends/\mY Tryz.prog (r ej).list none ab fun u ad=>u=none/\∃ai,kt r ad eJ=some ai/\K (oneOf ai) ad):b8 Tryz.prog f args h K:=by have q:=Z.k7;simp only [aoS] at q;obtain ⟨J,ad,aC,bn,b0,eo⟩:=q;exact ZO follows uB Z.aA J aC bn (by rw [ad];exact aw) b0 eo H
def NN:bD:=
 .seq (.seq (.af [U 65 12,U 66 8,eF 67 66,fQ 68 65 67])
 (.cond (.t 68)
 (.skip)
 (.exit 0)))
 (.seq (.block 1 (.af [U 71 8,U 72 12,De 73,xG 74 71 72,⟨none,.st 4 (.t 74) (.t 73),none,[74,73]⟩]))
 (.af [U 69 12,eK 70 69 1,U 12 70]))
def c3:bD:=
 .seq (.af [e2 2])
 (.seq (.seq (.af [U 15 0,Di 16 15 5 400])
 (.cond (.t 16)
 (.seq (.af [⟨some 17,.call 6 [],none,[]⟩,U 2 17])
 (.ret))
 (.skip)))
 (.seq (.af [U 18 0,eL 19 18 7,U 3 19])
 (.seq (.af [U 21 3,eL 22 21 8,U 20 22,k4 23 20,k5 24 20,U 4 23,U 5 24])
 (.seq (.af [U 26 0,eL 27 26 9,U 25 27,k4 28 25,k5 29 25,U 6 28,U 7 29])
 (.seq (.af [U 31 3,eL 32 31 10,U 30 32,k4 33 30,k5 34 30,U 8 33,U 9 34])
 (.seq (.af [U 36 0,eL 37 36 11,U 35 37,k4 38 35,k5 39 35,U 10 38,U 11 39])
 (.seq (.seq (.af [U 40 4,U 41 6,⟨some 42,.bin (.str .neq) (.t 40) (.t 41),none,[40,41]⟩,U 43 42,gj 44 5 43,gj 45 7 43,⟨some 46,.bin (.int .neq) (.t 44) (.t 45),(some (43,false)),[44,45,43]⟩,fk 47 43 46,U 48 47,gj 49 9 48,gj 50 11 48,⟨some 51,.bin (.int .neq) (.t 49) (.t 50),(some (48,false)),[49,50,48]⟩,fk 52 48 51,U 53 52,gj 54 8 53,gj 55 10 53,Af 56 54 55 53 12,r7 57 56 53,fk 58 53 57,U 59 58,gj 60 3 59,gj 61 0 59,Af 62 60 61 59 13,r7 63 62 59,fk 64 59 63])
 (.cond (.t 64)
 (.seq (.af [e2 2])
 (.ret))
 (.skip)))
 (.seq (.seq (.af [ca 12 0])
 (.block 0 (.loop NN)))
 (.seq (.af [U 76 3,eL 77 76 10,U 75 77,k4 78 75,k5 79 75,U 13 78,U 14 79])
 (.seq (.af [U 80 13,U 81 10,cq 82 80 81 12,U 83 82,Ag 84 83 6,er 85 83 84,U 2 85])
 (.ret)))))))))))
theorem X6:cb 3 86 Tryz.f3 c3 [.t 2]:=⟨Tryz.func3,by kernel_rfl⟩
def c5:bD:=
 .seq (.af [e2 4])
 (.seq (.af [U 5 0,U 6 1,cq 7 5 6 16,U 8 1,⟨some 9,.bin (.int .gtr) (.t 7) (.t 8),none,[7,8]⟩,U 4 9])
 (.ret))
theorem Yk:cb 5 10 Tryz.f5 c5 [.t 4]:=⟨Tryz.func5,by kernel_rfl⟩
def Ow:bD:=
 .seq (.seq (.af [U 6 4,U 7 0,eF 8 7,fQ 9 6 8])
 (.cond (.t 9)
 (.skip)
 (.exit 0)))
 (.seq (.block 1 (.seq (.af [U 12 0,U 13 4,hJ 14 12 13,cc 15 14,o9 5,⟨none,.st 5 (.t 5) (.t 15),none,[5,15]⟩])
 (.seq (.af [U 16 0,U 17 4,hJ 18 16 17,c9 19 18,a7 20 19,eL 21 20 7,c9 22 5,⟨none,.st 1 (.t 22) (.t 21),none,[22,21]⟩])
 (.af [U 23 3,cc 24 5,⟨some 25,.e4 1 5 [(.int .i64 0),(.int .i64 0),(.int .i64 0),(.str []),.cr] [(0,5,(.t 24))],none,[24]⟩,⟨some 26,.app 5 (.t 23) (.t 25),none,[23,25]⟩,U 3 26]))))
 (.af [U 10 4,eK 11 10 1,U 4 11]))
def AM:bD:=
 .seq (.af [jw 2])
 (.seq (.af [jw 3])
 (.seq (.seq (.af [ca 4 0])
 (.block 0 (.loop Ow)))
 (.seq (.af [U 27 3,U 2 27])
 (.ret))))
theorem YF:cb 7 28 Tryz.f7 AM [.t 2]:=⟨Tryz.func7,by kernel_rfl⟩
def oR:bD:=
 .seq (.af [mA 2,ca 3 0])
 (.seq (.af [U 8 0,eL 9 8 10,U 7 9,k4 10 7,k5 11 7,U 4 10,U 5 11])
 (.seq (.seq (.af [U 12 5,tm 13 12 0])
 (.cond (.t 13)
 (.seq (.af [U 14 5,mA 2,U 3 14])
 (.ret))
 (.skip)))
 (.seq (.af [U 16 4,eL 17 16 19,U 15 17,k4 18 15,k5 19 15,U 6 18,U 5 19])
 (.seq (.block 0 (.seq (.af [U 21 5,tm 22 21 0,U 20 22])
 (.cond (.t 20)
 (.seq (.af [U 23 5,mA 2,U 3 23])
 (.ret))
 (.seq (.af [U 25 6,kq 26 25,kp 27 26 65536,U 24 27])
 (.cond (.t 24)
 (.seq (.af [mA 2,ca 3 3])
 (.ret))
 (.skip))))))
 (.seq (.af [U 28 6,U 2 28,ca 3 0])
 (.ret))))))
theorem YQ:cb 8 29 Tryz.f8 oR [.t 2,.t 3]:=⟨Tryz.func8,by kernel_rfl⟩
def OH:bD:=
 .seq (.af [mA 2,ca 3 0])
 (.seq (.af [U 9 0,eL 10 9 11,U 8 10,k4 11 8,k5 12 8,U 4 11,U 5 12])
 (.seq (.seq (.af [U 13 5,tm 14 13 0])
 (.cond (.t 14)
 (.seq (.af [U 15 5,mA 2,U 3 15])
 (.ret))
 (.skip)))
 (.seq (.af [U 17 4,eL 18 17 20,U 16 18,k4 19 16,k5 20 16,U 6 19,U 7 20])
 (.seq (.seq (.af [U 21 6,kq 22 21,kp 23 22 65536])
 (.cond (.t 23)
 (.seq (.af [mA 2,ca 3 3])
 (.ret))
 (.skip)))
 (.seq (.af [U 24 6,U 2 24,ca 3 0])
 (.ret))))))
theorem YW:cb 9 25 Tryz.f9 OH [.t 2,.t 3]:=⟨Tryz.func9,by kernel_rfl⟩
def MO:bD:=
 .seq (.af [fQ 19 18 17])
 (.seq (.cond (.t 19)
 (.skip)
 (.exit 0))
 (.seq (.block 1 (.seq (.af [hJ 20 16 18,cc 21 20,o9 7,⟨none,.st 5 (.t 7) (.t 21),none,[7,21]⟩])
 (.seq (.af [U 22 5,cc 23 7,cq 24 22 23 23])
 (.af [U 25 5,⟨some 26,.e4 1 1 [(.str [])] [(0,1,(.c (.str [59,59])))],none,[]⟩,cq 27 25 26 24]))))
 (.af [eK 28 18 1,U 18 28])))
def MB:bD:=
 .seq (.af [jw 2,ca 3 0])
 (.seq (.seq (.af [U 8 0,eL 9 8 21,U 4 9])
 (.seq (.af [U 10 4,tm 11 10 0])
 (.cond (.t 11)
 (.seq (.af [U 12 4,jw 2,U 3 12])
 (.ret))
 (.skip))))
 (.seq (.af [⟨some 13,.call 22 [],none,[]⟩,⟨some 14,.build [.lB,.cr] [(0,1,(.t 13))],none,[13]⟩,fL 15 14,U 5 15])
 (.seq (.seq (.af [U 16 0,eF 17 16,ca 18 0])
 (.block 0 (.loop MO)))
 (.seq (.af [U 29 5,dA 30 29,c4 31 30,a7 32 31,U 2 32,ca 3 0])
 (.ret)))))
theorem Xt:cb 10 33 Tryz.f10 MB [.t 2,.t 3]:=⟨Tryz.func10,by kernel_rfl⟩
def MU:bD:=
 .seq (.seq (.af [U 14 6,U 15 0,eF 16 15,fQ 17 14 16])
 (.cond (.t 17)
 (.skip)
 (.exit 0)))
 (.seq (.block 1 (.af [U 20 5,U 21 0,U 22 6,hJ 23 21 22,cc 24 23,cq 25 20 24 26]))
 (.af [U 18 6,eK 19 18 1,U 6 19]))
def MP:bD:=
 .seq (.af [jw 2,ca 3 0])
 (.seq (.af [U 7 0,eL 8 7 25,U 4 8])
 (.seq (.seq (.af [U 9 4,tm 10 9 0])
 (.cond (.t 10)
 (.seq (.af [U 11 4,jw 2,U 3 11])
 (.ret))
 (.skip)))
 (.seq (.af [⟨some 12,.build [.cr] [],none,[]⟩,fL 13 12,U 5 13])
 (.seq (.seq (.af [ca 6 0])
 (.block 0 (.loop MU)))
 (.seq (.af [U 26 5,dA 27 26,dT 28 27,a7 29 28,U 2 29,ca 3 0])
 (.ret))))))
theorem Xx:cb 11 30 Tryz.f11 MP [.t 2,.t 3]:=⟨Tryz.func11,by kernel_rfl⟩
def M0:bD:=
 .seq (.seq (.af [U 11 5,U 12 0,eF 13 12,fQ 14 11 13])
 (.cond (.t 14)
 (.skip)
 (.exit 0)))
 (.seq (.block 1 (.seq (.draw [U 17 0,U 18 5,xG 19 17 18,vi 20 19,U 21 1,U 22 5,xG 23 21 22,vi 24 23,⟨some 25,.bin (.other .neq 35) (.t 20) (.t 24),none,[20,24]⟩] [])
 (.cond (.t 25)
 (.seq (.af [e2 4])
 (.ret))
 (.skip))))
 (.af [U 15 5,eK 16 15 1,U 5 16]))
def MV:bD:=
 .seq (.af [e2 4])
 (.seq (.seq (.af [U 6 0,eF 7 6,U 8 1,eF 9 8,⟨some 10,.bin (.int .neq) (.t 7) (.t 9),none,[7,9]⟩])
 (.cond (.t 10)
 (.seq (.af [e2 4])
 (.ret))
 (.skip)))
 (.seq (.seq (.af [ca 5 0])
 (.block 0 (.loop M0)))
 (.seq (.af [xH 4])
 (.ret))))
theorem XB:cb 12 26 Tryz.f12 MV [.t 4]:=⟨Tryz.func12,by kernel_rfl⟩
def M_:bD:=
 .seq (.seq (.af [U 11 5,U 12 0,eF 13 12,fQ 14 11 13])
 (.cond (.t 14)
 (.skip)
 (.exit 0)))
 (.seq (.block 1 (.seq (.draw [U 17 0,U 18 5,hJ 19 17 18,cc 20 19,U 21 1,U 22 5,hJ 23 21 22,cc 24 23,cq 25 20 24 27,r8 26 25] [(3,[8]),(7,[8])])
 (.cond (.t 26)
 (.seq (.af [e2 4])
 (.ret))
 (.skip))))
 (.af [U 15 5,eK 16 15 1,U 5 16]))
def M1:bD:=
 .seq (.af [e2 4])
 (.seq (.seq (.af [U 6 0,eF 7 6,U 8 1,eF 9 8,⟨some 10,.bin (.int .neq) (.t 7) (.t 9),none,[7,9]⟩])
 (.cond (.t 10)
 (.seq (.af [e2 4])
 (.ret))
 (.skip)))
 (.seq (.seq (.af [ca 5 0])
 (.block 0 (.loop M_)))
 (.seq (.af [xH 4])
 (.ret))))
theorem XH:cb 13 27 Tryz.f13 M1 [.t 4]:=⟨Tryz.func13,by kernel_rfl⟩
def Nl:bD:=
 .seq (.seq (.af [U 7 6,U 8 0,eF 9 8,fQ 10 7 9,U 11 10,fB 12 5 11,fB 13 1 11,⟨some 14,.bin (.int .leq) (.t 12) (.t 13),(some (11,true)),[12,13,11]⟩,er 15 11 14])
 (.cond (.t 15)
 (.skip)
 (.exit 0)))
 (.seq (.block 1 (.seq (.af [U 18 5,eK 19 18 1,U 20 0,U 21 6,hJ 22 20 21,fV 23 22,a7 24 23,kq 25 24,⟨some 26,.bin (.int .quo) (.t 25) (.c (.int .i64 100)),none,[25]⟩,Ac 27 19 26,U 5 27])
 (.af [U 28 5,U 29 0,U 30 6,hJ 31 29 30,c9 32 31,a7 33 32,U 34 1,U 35 5,xz 36 34 35,cq 37 33 36 16,Ac 38 28 37,U 5 38])))
 (.af [U 16 6,eK 17 16 1,U 6 17]))
def Nk:bD:=
 .seq (.af [ca 4 0])
 (.seq (.af [ca 5 0])
 (.seq (.seq (.af [ca 6 0])
 (.block 0 (.loop Nl)))
 (.seq (.af [U 39 5,U 4 39])
 (.ret))))
theorem XP:cb 16 40 Tryz.f16 Nk [.t 4]:=⟨Tryz.func16,by kernel_rfl⟩
def No:bD:=
 .seq (.af [fQ 11 10 9])
 (.seq (.cond (.t 11)
 (.skip)
 (.exit 0))
 (.seq (.block 1 (.seq (.af [xG 12 8 10,vi 13 12,xI 6,⟨none,.st 4 (.t 6) (.t 13),none,[6,13]⟩])
 (.seq (.seq (.af [vi 14 6,eL 15 14 28,r8 16 15])
 (.cond (.t 16)
 (.seq (.af [mA 2,ca 3 2])
 (.ret))
 (.skip)))
 (.seq (.af [fV 17 6,a7 18 17,U 7 18])
 (.seq (.seq (.af [dT 19 6,a7 20 19])
 (.block 2 (.seq (.af [bo 22 20 1,U 21 22])
 (.cond (.t 21)
 (.af [c4 23 6,a7 24 23,⟨some 25,.bin (.int .and) (.t 24) (.c (.int .i64 2147483647)),none,[24]⟩,eL 26 25 29,U 7 26])
 (.seq (.af [bo 28 20 2,U 27 28])
 (.cond (.t 27)
 (.af [U 29 7,eL 30 29 30,U 7 30])
 (.seq (.af [bo 32 20 5,U 31 32])
 (.cond (.t 31)
 (.af [U 33 7,C' 34 33,U 7 34])
 (.skip)))))))))
 (.af [U 35 4,U 36 7,GF 37 36,lR 38 35 37,U 4 38]))))))
 (.af [eK 39 10 1,U 10 39])))
def Nn:bD:=
 .seq (.af [mA 2,ca 3 0])
 (.seq (.af [jw 4])
 (.seq (.seq (.af [U 8 0,eF 9 8,ca 10 0])
 (.block 0 (.loop No)))
 (.seq (.af [U 40 4,⟨some 41,.call 31 [(.t 40),(.c (.str [32]))],none,[40]⟩,U 2 41,ca 3 0])
 (.ret))))
theorem XQ:cb 19 42 Tryz.f19 Nn [.t 2,.t 3]:=⟨Tryz.func19,by kernel_rfl⟩
def Nq:bD:=
 .seq (.seq (.af [U 6 5,U 7 0,eF 8 7,fQ 9 6 8])
 (.cond (.t 9)
 (.skip)
 (.exit 0)))
 (.seq (.block 1 (.seq (.seq (.af [U 12 0,U 13 5,xG 14 12 13,vi 15 14,eL 16 15 32,r8 17 16])
 (.cond (.t 17)
 (.seq (.af [mA 2,ca 3 2])
 (.ret))
 (.skip)))
 (.seq (.seq (.af [U 18 5,kp 19 18 0])
 (.cond (.t 19)
 (.af [U 20 4,xA 21 32,lR 22 20 21,U 4 22])
 (.skip)))
 (.af [U 23 4,U 24 0,U 25 5,xG 26 24 25,vi 27 26,eL 28 27 33,lR 29 23 28,U 4 29]))))
 (.af [U 10 5,eK 11 10 1,U 5 11]))
def Np:bD:=
 .seq (.af [mA 2,ca 3 0])
 (.seq (.af [jw 4])
 (.seq (.seq (.af [ca 5 0])
 (.block 0 (.loop Nq)))
 (.seq (.af [U 30 4,⟨some 31,.ia .str (.t 30),none,[30]⟩,U 2 31,ca 3 0])
 (.ret))))
theorem XR:cb 20 32 Tryz.f20 Np [.t 2,.t 3]:=⟨Tryz.func20,by kernel_rfl⟩
def Nr:bD:=
 .seq (.af [fQ 12 11 10])
 (.seq (.cond (.t 12)
 (.skip)
 (.exit 0))
 (.seq (.block 1 (.seq (.af [hJ 13 9 11,cc 14 13,o9 5,⟨none,.st 5 (.t 5) (.t 14),none,[5,14]⟩])
 (.seq (.af [dT 15 5,a7 16 15,eL 17 16 35,tm 18 17 7,U 19 18,gj 20 3 19,vj 21 5 19,Af 22 20 21 19 36,r7 23 22 19,fk 24 19 23])
 (.cond (.t 24)
 (.seq (.af [ca 2 2])
 (.ret))
 (.skip)))))
 (.af [eK 25 11 1,U 11 25])))
def Ns:bD:=
 .seq (.af [fQ 29 28 27])
 (.seq (.cond (.t 29)
 (.skip)
 (.exit 2))
 (.seq (.block 3 (.seq (.af [hJ 30 26 28,cc 31 30,o9 7,⟨none,.st 5 (.t 7) (.t 31),none,[7,31]⟩])
 (.seq (.af [cc 32 7,eL 33 32 37,kp 34 33 200])
 (.cond (.t 34)
 (.seq (.af [ca 2 260])
 (.ret))
 (.skip)))))
 (.af [eK 35 28 1,U 28 35])))
def c21:bD:=
 .seq (.af [ca 2 0])
 (.seq (.af [⟨some 8,.call 34 [],none,[]⟩,U 3 8])
 (.seq (.seq (.af [U 9 0,eF 10 9,ca 11 0])
 (.block 0 (.loop Nr)))
 (.seq (.seq (.af [U 26 0,eF 27 26,ca 28 0])
 (.block 2 (.loop Ns)))
 (.seq (.af [ca 2 0])
 (.ret)))))
theorem XS:cb 21 36 Tryz.f21 c21 [.t 2]:=⟨Tryz.func21,by kernel_rfl⟩
def Nt:bD:=
 .seq (.af [fL 3 1])
 (.block 0 (.seq (.af [dT 8 3,a7 9 8,p6 10 9 10,U 7 10])
 (.cond (.t 7)
 (.af [U 11 0,cc 12 3,cq 13 11 12 38])
 (.seq (.af [dT 15 3,a7 16 15,p6 17 16 20,U 14 17])
 (.cond (.t 14)
 (.af [U 18 0,cc 19 3,cq 20 18 19 39])
 (.seq (.af [dT 22 3,a7 23 22,p6 24 23 45,U 21 24])
 (.cond (.t 21)
 (.af [U 25 0,cc 26 3,cq 27 25 26 40])
 (.af [U 4 0,cc 5 3,cq 6 4 5 41]))))))))
theorem XT:cb 23 28 Tryz.f23 Nt []:=⟨Tryz.func23,by kernel_rfl⟩
def Nv:bD:=
 .seq (.af [fQ 10 9 8])
 (.seq (.cond (.t 10)
 (.skip)
 (.exit 0))
 (.seq (.block 1 (.seq (.af [q4 11 7 9,a7 12 11,U 5 12])
 (.seq (.af [ca 6 7])
 (.seq (.seq (.af [U 13 5,tp 14 13,C5 15 14 97,U 16 15,fB 17 5 16,C1 18 17 16 0,C7 19 18 16 122,er 20 16 19])
 (.cond (.t 20)
 (.af [ca 6 6])
 (.skip)))
 (.af [U 21 0,U 22 0,dA 23 22,c4 24 23,a7 25 24,U 26 6,U 27 5,Ae 28 26 27,vg 29 28,ve 30 25 29,dA 31 21,c4 32 31,⟨none,.st 1 (.t 32) (.t 30),none,[32,30]⟩])))))
 (.af [eK 33 9 1,U 9 33])))
def Hu:bD:=
 .seq (.af [U 7 1,eF 8 7,ca 9 0])
 (.block 0 (.loop Nv))
theorem Nu:cb 24 34 Tryz.f24 Hu []:=⟨Tryz.func24,by kernel_rfl⟩
def Nx:bD:=
 .seq (.seq (.af [U 5 3,U 6 0,eF 7 6,fQ 8 5 7])
 (.cond (.t 8)
 (.skip)
 (.exit 0)))
 (.seq (.block 1 (.seq (.af [U 11 0,U 12 3,hJ 13 11 12,dT 14 13,a7 15 14,eL 16 15 42,tm 17 16 7,U 18 17,gj 19 0 18,gj 20 3 18,⟨some 21,.dj 5 (.t 19) (.t 20),(some (18,false)),[19,20,18]⟩,vj 22 21 18,vh 23 22 18 43,r7 24 23 18,fk 25 18 24])
 (.cond (.t 25)
 (.seq (.af [ca 2 2])
 (.ret))
 (.skip))))
 (.af [U 9 3,eK 10 9 1,U 3 10]))
def Ny:bD:=
 .seq (.seq (.af [U 26 4,U 27 0,eF 28 27,fQ 29 26 28])
 (.cond (.t 29)
 (.skip)
 (.exit 2)))
 (.seq (.block 3 (.seq (.af [U 32 0,U 33 4,hJ 34 32 33,cc 35 34,eL 36 35 44,kp 37 36 200])
 (.cond (.t 37)
 (.seq (.af [ca 2 260])
 (.ret))
 (.skip))))
 (.af [U 30 4,eK 31 30 1,U 4 31]))
def Nw:bD:=
 .seq (.af [ca 2 0])
 (.seq (.seq (.af [ca 3 0])
 (.block 0 (.loop Nx)))
 (.seq (.seq (.af [ca 4 0])
 (.block 2 (.loop Ny)))
 (.seq (.af [ca 2 0])
 (.ret))))
theorem XU:cb 25 38 Tryz.f25 Nw [.t 2]:=⟨Tryz.func25,by kernel_rfl⟩
def Hv:bD:=
 .seq (.seq (.af [U 40 4,c9 41 3,a7 42 41,eF 43 42,fQ 44 40 43])
 (.cond (.t 44)
 (.skip)
 (.exit 1)))
 (.seq (.block 2 (.seq (.seq (.af [U 47 4,c4 48 3,a7 49 48,⟨some 50,.bin (.int .gtr) (.t 47) (.t 49),none,[47,49]⟩])
 (.cond (.t 50)
 (.af [U 51 0,⟨some 52,.call 45 [(.t 51),(.c (.str [124]))],none,[51]⟩])
 (.skip)))
 (.af [U 53 0,c9 54 3,a7 55 54,U 56 4,hJ 57 55 56,cc 58 57,cq 59 53 58 48])))
 (.af [U 45 4,eK 46 45 1,U 4 46]))
def Nz:bD:=
 .seq (.af [fL 3 1])
 (.seq (.seq (.af [dT 5 3,a7 6 5])
 (.block 0 (.seq (.af [bo 12 6 50,U 11 12])
 (.cond (.t 11)
 (.seq (.af [U 13 0,⟨some 14,.call 45 [(.t 13),(.c (.str [116,121,112,101]))],none,[13]⟩])
 (.seq (.seq (.af [c4 15 3,a7 16 15,kp 17 16 1])
 (.cond (.t 17)
 (.af [U 18 0,xD 19 18])
 (.skip)))
 (.seq (.af [U 20 0,c9 21 3,a7 22 21,c4 23 3,a7 24 23,C3 25 22 24,GH 26 20 25 46 1])
 (.seq (.seq (.af [c4 27 3,a7 28 27,kp 29 28 1])
 (.cond (.t 29)
 (.af [U 30 0,xE 31 30])
 (.skip)))
 (.seq (.af [U 32 0,fV 33 3,a7 34 33,gB 35 32 34 47 3])
 (.seq (.af [U 36 0,Dl 37 36])
 (.seq (.af [c4 38 3,a7 39 38,U 4 39])
 (.block 1 (.loop Hv)))))))))
 (.seq (.af [bo 61 6 51,U 60 61])
 (.cond (.t 60)
 (.seq (.af [U 62 0,⟨some 63,.call 45 [(.t 62),(.c (.str [101,120,99,101,112,116,105,111,110]))],none,[62]⟩])
 (.af [U 64 0,cc 65 3,cq 66 64 65 48]))
 (.seq (.af [bo 68 6 52,U 67 68])
 (.cond (.t 67)
 (.seq (.af [U 69 0,GI 70 69])
 (.seq (.af [U 71 0,c9 72 3,a7 73 72,gi 74 73 0,cc 75 74,cq 76 71 75 49])
 (.seq (.af [U 77 0,Dl 78 77])
 (.af [U 79 0,c9 80 3,a7 81 80,gi 82 81 1,cc 83 82,cq 84 79 83 49]))))
 (.af [U 7 0,c9 8 3,a7 9 8,cq 10 7 9 50])))))))))
 (.af [U 85 0,⟨some 86,.call 45 [(.t 85),(.c (.str [59,59]))],none,[85]⟩]))
theorem XV:cb 26 87 Tryz.f26 Nz []:=⟨Tryz.func26,by kernel_rfl⟩
def NA:bD:=
 .seq (.af [fL 2 0,fL 3 1,e2 4])
 (.seq (.af [dT 5 2,a7 6 5,dT 7 3,a7 8 7,⟨some 9,.bin (.int .eql) (.t 6) (.t 8),none,[6,8]⟩,U 10 9,p7 11 2 10,fu 12 11 10,p7 13 3 10,fu 14 13 10,Gx 15 12 14 10,er 16 10 15,U 17 16,⟨some 18,.gP 2 (.t 2),(some (17,true)),[2,17]⟩,fu 19 18 17,⟨some 20,.gP 2 (.t 3),(some (17,true)),[3,17]⟩,fu 21 20 17,Gx 22 19 21 17,er 23 17 22,U 24 23,nN 25 2 24,fu 26 25 24,nN 27 3 24,fu 28 27 24,⟨some 29,.bin (.str .eql) (.t 26) (.t 28),(some (24,true)),[26,28,24]⟩,er 30 24 29,U 31 30,xF 32 2 31,fu 33 32 31,xF 34 3 31,fu 35 34 31,tn 36 33 35 31 13,er 37 31 36,U 4 37])
 (.ret))
theorem XW:cb 27 38 Tryz.f27 NA [.t 4]:=⟨Tryz.func27,by kernel_rfl⟩
def NB:bD:=
 .seq (.af [fL 1 0,e2 2])
 (.seq (.seq (.af [dT 3 1,a7 4 3])
 (.block 0 (.seq (.af [bo 6 4 1,U 5 6])
 (.cond (.t 5)
 (.seq (.af [fV 7 1,a7 8 7,Ad 9 8,U 10 9,p7 11 1 10,fu 12 11 10,⟨some 13,.bin (.int .geq) (.t 12) (.c (.int .i64 (-1073741824))),(some (10,true)),[12,10]⟩,er 14 10 13,U 15 14,p7 16 1 15,fu 17 16 15,nM 18 17 15 1073741823,er 19 15 18,U 2 19])
 (.ret))
 (.seq (.af [bo 21 4 2,U 20 21])
 (.cond (.t 20)
 (.seq (.af [c4 22 1,a7 23 22,bo 24 23 0,U 25 24,nN 26 1 25,fu 27 26 25,Ai 28 27 25,nM 29 28 25 4096,er 30 25 29,U 2 30])
 (.ret))
 (.seq (.seq (.af [bo 32 4 3,U 31 32])
 (.cond (.t 31)
 (.skip)
 (.seq (.af [bo 33 4 4,U 31 33])
 (.cond (.t 31)
 (.skip)
 (.af [bo 34 4 5,U 31 34])))))
 (.cond (.t 31)
 (.seq (.af [c4 35 1,a7 36 35,bo 37 36 0,U 38 37,r6 39 1 38,fu 40 39 38,nN 41 1 38,fu 42 41 38,tn 43 40 42 38 51,er 44 38 43,U 2 44])
 (.ret))
 (.seq (.af [bo 46 4 6,U 45 46])
 (.cond (.t 45)
 (.seq (.af [c4 47 1,a7 48 47,bo 49 48 0,U 50 49,nN 51 1 50,fu 52 51 50,⟨some 53,.bin (.str .neq) (.t 52) (.c (.str [])),(some (50,true)),[52,50]⟩,er 54 50 53,U 55 54,nN 56 1 55,fu 57 56 55,⟨some 58,.call 52 [(.t 57),(.c (.str [32]))],(some (55,true)),[57,55]⟩,⟨some 59,.un .not (.t 58),(some (55,true)),[58,55]⟩,er 60 55 59,U 61 60,nN 62 1 61,fu 63 62 61,GC 64 63 61,GB 65 64 61,GJ 66 65 61,er 67 61 66,U 2 67])
 (.ret))
 (.seq (.af [bo 69 4 7,U 68 69])
 (.cond (.t 68)
 (.seq (.draw [c4 70 1,a7 71 70,bo 72 71 0,U 73 72,nN 75 1 73,fu 76 75 73,Ag 74 73 54,tn 77 74 76 73 53,er 78 73 77,U 2 78] [(1,[6]),(5,[6,7])])
 (.ret))
 (.skip)))))))))))))
 (.seq (.af [e2 2])
 (.ret)))
theorem XX:cb 28 79 Tryz.f28 NB [.t 2]:=⟨Tryz.func28,by kernel_rfl⟩
def ND:bD:=
 .seq (.af [fQ 11 10 9])
 (.seq (.cond (.t 11)
 (.skip)
 (.exit 0))
 (.seq (.block 1 (.seq (.af [q4 12 8 10,a7 13 12,U 5 13])
 (.block 2 (.seq (.af [U 19 5,xw 20 19 34,U 21 20,gj 22 5 21,q3 23 22 21 92,fk 24 21 23,U 18 24])
 (.cond (.t 18)
 (.af [U 25 3,U 26 5,⟨some 27,.e4 2 1 [(.int .u8 0)] [(0,1,(.c (.int .u8 92))),(1,1,(.t 26))],none,[26]⟩,lR 28 25 27,U 3 28])
 (.seq (.af [U 30 5,GA 31 30,U 32 31,gj 33 5 32,⟨some 34,.bin (.int .geq) (.t 33) (.c (.int .u8 127)),(some (32,false)),[33,32]⟩,fk 35 32 34,U 29 35])
 (.cond (.t 29)
 (.af [U 36 3,U 37 5,C8 38 37 100,xv 39 38,U 40 5,C8 41 40 10,C9 42 41,xv 43 42,U 44 5,C9 45 44,xv 46 45,LP 47 39 43 46,lR 48 36 47,U 3 48])
 (.af [U 14 3,U 15 5,Da 16 15,lR 17 14 16,U 3 17]))))))))
 (.af [eK 49 10 1,U 10 49])))
def NC:bD:=
 .seq (.af [mA 2])
 (.seq (.af [xA 6 34,U 3 6])
 (.seq (.seq (.af [U 7 0,⟨some 8,.ia .bytes (.t 7),none,[7]⟩,eF 9 8,ca 10 0])
 (.block 0 (.loop ND)))
 (.seq (.af [U 50 3,xA 51 34,lR 52 50 51,⟨some 53,.ia .str (.t 52),none,[52]⟩,U 2 53])
 (.ret))))
theorem XY:cb 30 54 Tryz.f30 NC [.t 2]:=⟨Tryz.func30,by kernel_rfl⟩
def tC:bD:=
 .seq (.af [fL 1 0,e2 2])
 (.seq (.seq (.af [dT 3 1,a7 4 3])
 (.block 0 (.seq (.af [bo 6 4 1,U 5 6])
 (.cond (.t 5)
 (.seq (.af [c4 7 1,a7 8 7,⟨some 9,.bin (.int .geq) (.t 8) (.c (.int .i64 (-1073741824))),none,[8]⟩,U 10 9,p7 11 1 10,fu 12 11 10,nM 13 12 10 1073741823,er 14 10 13,U 15 14,nN 16 1 15,fu 17 16 15,⟨some 18,.bin (.str .eql) (.t 17) (.c (.str [])),(some (15,true)),[17,15]⟩,er 19 15 18,U 2 19])
 (.ret))
 (.seq (.af [bo 21 4 2,U 20 21])
 (.cond (.t 20)
 (.seq (.af [c4 22 1,a7 23 22,bo 24 23 0,U 25 24,nN 26 1 25,fu 27 26 25,Ai 28 27 25,nM 29 28 25 4096,er 30 25 29,U 2 30])
 (.ret))
 (.seq (.seq (.af [bo 32 4 3,U 31 32])
 (.cond (.t 31)
 (.skip)
 (.seq (.af [bo 33 4 4,U 31 33])
 (.cond (.t 31)
 (.skip)
 (.af [bo 34 4 5,U 31 34])))))
 (.cond (.t 31)
 (.seq (.af [c4 35 1,a7 36 35,bo 37 36 0,U 38 37,r6 39 1 38,fu 40 39 38,nN 41 1 38,fu 42 41 38,tn 43 40 42 38 59,er 44 38 43,U 2 44])
 (.ret))
 (.seq (.af [bo 46 4 6,U 45 46])
 (.cond (.t 45)
 (.seq (.draw [c4 47 1,a7 48 47,bo 49 48 0,U 50 49,nN 51 1 50,fu 52 51 50,Ag 53 50 61,tn 54 52 53 50 60,er 55 50 54,U 2 55] [(1,[6]),(5,[6,7])])
 (.ret))
 (.seq (.af [bo 57 4 7,U 56 57])
 (.cond (.t 56)
 (.seq (.draw [c4 58 1,a7 59 58,bo 60 59 0,U 61 60,nN 62 1 61,fu 63 62 61,Ag 64 61 62,tn 65 63 64 61 60,er 66 61 65,U 2 66] [(1,[6]),(5,[6,7])])
 (.ret))
 (.skip)))))))))))))
 (.seq (.af [e2 2])
 (.ret)))
theorem XZ:cb 32 67 Tryz.f32 tC [.t 2]:=⟨Tryz.func32,by kernel_rfl⟩
def xY:bD:=
 .seq (.af [fL 1 0,mA 2])
 (.seq (.seq (.af [dT 3 1,a7 4 3])
 (.block 0 (.seq (.af [bo 6 4 1,U 5 6])
 (.cond (.t 5)
 (.seq (.seq (.af [c4 7 1,a7 8 7,p6 9 8 0])
 (.cond (.t 9)
 (.seq (.af [c4 10 1,a7 11 10,eK 12 11 2147483648,eL 13 12 63,U 2 13])
 (.ret))
 (.skip)))
 (.seq (.af [c4 14 1,a7 15 14,eL 16 15 63,U 2 16])
 (.ret)))
 (.seq (.af [bo 18 4 2,U 17 18])
 (.cond (.t 17)
 (.seq (.af [fV 19 1,a7 20 19,eL 21 20 64,U 2 21])
 (.ret))
 (.seq (.af [bo 23 4 5,U 22 23])
 (.cond (.t 22)
 (.seq (.af [fV 24 1,a7 25 24,C' 26 25,U 2 26])
 (.ret))
 (.skip)))))))))
 (.seq (.af [fV 27 1,a7 28 27,U 2 28])
 (.ret)))
theorem X0:cb 33 29 Tryz.f33 xY [.t 2]:=⟨Tryz.func33,by kernel_rfl⟩
def NF:bD:=
 .seq (.af [ca 2 0])
 (.seq (.block 0 (.seq (.af [U 4 0,lS 5 4 1,U 6 5,fB 7 0 6,nM 8 7 6 4,er 9 6 8,U 3 9])
 (.cond (.t 3)
 (.seq (.af [ca 2 1])
 (.ret))
 (.seq (.af [U 11 0,lS 12 11 10,U 13 12,fB 14 0 13,nM 15 14 13 16,er 16 13 15,U 10 16])
 (.cond (.t 10)
 (.seq (.af [ca 2 2])
 (.ret))
 (.seq (.af [U 18 0,lS 19 18 20,U 20 19,fB 21 0 20,nM 22 21 20 39,er 23 20 22,U 17 23])
 (.cond (.t 17)
 (.seq (.af [ca 2 3])
 (.ret))
 (.seq (.af [U 25 0,bo 26 25 45,U 24 26])
 (.cond (.t 24)
 (.seq (.af [ca 2 4])
 (.ret))
 (.seq (.af [U 28 0,bo 29 28 46,U 27 29])
 (.cond (.t 27)
 (.seq (.af [ca 2 5])
 (.ret))
 (.seq (.af [U 31 0,bo 32 31 47,U 30 32])
 (.cond (.t 30)
 (.seq (.af [ca 2 6])
 (.ret))
 (.seq (.af [U 34 0,lS 35 34 50,U 36 35,fB 37 0 36,nM 38 37 36 53,er 39 36 38,U 33 39])
 (.cond (.t 33)
 (.seq (.af [ca 2 7])
 (.ret))
 (.skip))))))))))))))))
 (.seq (.af [ca 2 0])
 (.ret)))
theorem X1:cb 35 40 Tryz.f35 NF [.t 2]:=⟨Tryz.func35,by kernel_rfl⟩
def NH:bD:=
 .seq (.af [fQ 88 87 86])
 (.seq (.cond (.t 88)
 (.skip)
 (.exit 0))
 (.seq (.block 1 (.seq (.af [U 89 87,hJ 90 85 87,cc 91 90,o9 10,U 9 89,⟨none,.st 5 (.t 10) (.t 91),none,[10,91]⟩])
 (.seq (.af [c4 92 5,a7 93 92,U 11 93])
 (.seq (.block 2 (.seq (.af [U 95 9,U 96 7,eF 97 96,fQ 98 95 97,U 94 98])
 (.cond (.t 94)
 (.af [U 99 7,U 100 9,q4 101 99 100,a7 102 101,U 11 102])
 (.seq (.af [U 104 9,U 105 7,eF 106 105,U 107 8,Ac 108 106 107,xx 109 104 108,U 103 109])
 (.cond (.t 103)
 (.af [c9 110 5,a7 111 110,U 112 9,U 113 7,eF 114 113,xz 115 112 114,U 116 8,xz 117 115 116,q4 118 111 117,a7 119 118,U 11 119])
 (.skip))))))
 (.seq (.af [cc 120 10,U 121 11,cq 122 120 121 67,r8 123 122,U 124 123,gj 125 0 124,vj 126 10 124,Af 127 125 126 124 36,r7 128 127 124,fk 129 124 128])
 (.cond (.t 129)
 (.seq (.af [e2 4])
 (.ret))
 (.skip)))))))
 (.af [eK 130 87 1,U 87 130])))
def NG:bD:=
 .seq (.af [fL 3 1,e2 4])
 (.seq (.af [U 13 0,dT 14 3,a7 15 14,⟨some 16,.look .int (.agg [.cr,(.int .i64 0),(.int .i64 0),(.int .i64 0),.cr,(.int .i64 0),(.int .i64 0),(.int .i64 0)]) true (.t 13) (.t 15),none,[13,15]⟩,U 12 16,k4 17 12,k5 18 12,⟨some 5,.new [.cr,(.int .i64 0),(.int .i64 0),(.int .i64 0),.cr,(.int .i64 0),(.int .i64 0),(.int .i64 0)],none,[]⟩,⟨none,.st 8 (.t 5) (.t 17),none,[5,17]⟩,U 6 18])
 (.seq (.seq (.af [U 19 6,r8 20 19,U 21 20,⟨some 22,.gP 1 (.t 3),(some (21,false)),[3,21]⟩,mz 23 22 21,⟨some 24,.gP 5 (.t 5),(some (21,false)),[5,21]⟩,⟨some 25,.t_ 2 1 (.t 24) (.c (.int .i64 0)),(some (21,false)),[24,21]⟩,mz 26 25 21,⟨some 27,.bin (.int .lss) (.t 23) (.t 26),(some (21,false)),[23,26,21]⟩,fk 28 21 27,U 29 28,⟨some 30,.gP 1 (.t 3),(some (29,false)),[3,29]⟩,mz 31 30 29,⟨some 32,.gP 5 (.t 5),(some (29,false)),[5,29]⟩,⟨some 33,.t_ 2 1 (.t 32) (.c (.int .i64 1)),(some (29,false)),[32,29]⟩,mz 34 33 29,⟨some 35,.bin (.int .gtr) (.t 31) (.t 34),(some (29,false)),[31,34,29]⟩,fk 36 29 35,U 37 36,Dn 38 3 37,mz 39 38 37,⟨some 40,.bin (.int .lss) (.t 39) (.c (.int .i64 0)),(some (37,false)),[39,37]⟩,fk 41 37 40,U 42 41,Dn 43 3 42,mz 44 43 42,C6 45 44 42 65536,fk 46 42 45,U 47 46,⟨some 48,.gP 7 (.t 5),(some (47,false)),[5,47]⟩,mz 49 48 47,⟨some 50,.gP 3 (.t 3),(some (47,false)),[3,47]⟩,mz 51 50 47,Af 52 49 51 47 65,r7 53 52 47,fk 54 47 53])
 (.cond (.t 54)
 (.seq (.af [e2 4])
 (.ret))
 (.skip)))
 (.seq (.af [dT 55 5,a7 56 55,U 7 56])
 (.seq (.seq (.af [dT 57 3,a7 58 57,bo 59 58 50])
 (.cond (.t 59)
 (.af [GD 60 8,c4 61 3,a7 62 61,cq 63 60 62 66,U 7 63])
 (.skip)))
 (.seq (.af [c9 64 3,a7 65 64,eF 66 65,U 67 7,eF 68 67,xz 69 66 68,c9 70 5,a7 71 70,eF 72 71,xz 73 69 72,U 8 73])
 (.seq (.seq (.af [U 74 8,oI 75 5,a7 76 75,fQ 77 74 76,U 78 77,gj 79 8 78,⟨some 80,.gP 3 (.t 5),(some (78,false)),[5,78]⟩,mz 81 80 78,⟨some 82,.bin (.int .gtr) (.t 79) (.t 81),(some (78,false)),[79,81,78]⟩,fk 83 78 82])
 (.cond (.t 83)
 (.seq (.af [e2 4])
 (.ret))
 (.skip)))
 (.seq (.seq (.af [c9 84 3,a7 85 84,eF 86 85,ca 87 0])
 (.block 0 (.loop NH)))
 (.seq (.af [xH 4])
 (.ret)))))))))
theorem X2:cb 36 131 Tryz.f36 NG [.t 4]:=⟨Tryz.func36,by kernel_rfl⟩
def NJ:bD:=
 .seq (.af [fQ 10 9 8])
 (.seq (.cond (.t 10)
 (.skip)
 (.exit 0))
 (.seq (.block 1 (.seq (.af [hJ 11 7 9,cc 12 11,o9 5,⟨none,.st 5 (.t 5) (.t 12),none,[5,12]⟩])
 (.af [U 13 3,cc 14 5,eL 15 14 37,⟨some 16,.eZ [(.t 13),(.t 15)],none,[13,15]⟩,U 3 16])))
 (.af [eK 17 9 1,U 9 17])))
def NI:bD:=
 .seq (.af [fL 1 0,ca 2 0])
 (.seq (.af [ca 3 0])
 (.seq (.seq (.af [c9 6 1,a7 7 6,eF 8 7,ca 9 0])
 (.block 0 (.loop NJ)))
 (.seq (.af [U 18 3,eK 19 18 1,U 2 19])
 (.ret))))
theorem X3:cb 37 20 Tryz.f37 NI [.t 2]:=⟨Tryz.func37,by kernel_rfl⟩
def NK:bD:=
 .seq (.af [fL 3 1])
 (.seq (.af [dT 4 3,a7 5 4])
 (.block 0 (.seq (.af [bo 37 5 1,U 36 37])
 (.cond (.t 36)
 (.af [U 38 0,fV 39 3,a7 40 39,gB 41 38 40 68 5])
 (.seq (.af [bo 43 5 4,U 42 43])
 (.cond (.t 42)
 (.af [U 44 0,cc 45 3,Dh 46 44 45 69 2 1])
 (.seq (.af [bo 48 5 3,U 47 48])
 (.cond (.t 47)
 (.af [U 49 0,cc 50 3,⟨some 51,.call 69 [(.t 49),(.t 50),(.c (.int .i64 3)),(.c (.str [42])),(.c (.int .i64 2))],none,[49,50]⟩])
 (.seq (.seq (.af [c9 6 3,a7 7 6,eF 8 7,bo 9 8 1])
 (.cond (.t 9)
 (.af [U 10 0,c9 11 3,a7 12 11,gi 13 12 0,cc 14 13,gB 15 10 14 70 3])
 (.skip)))
 (.seq (.seq (.af [c9 16 3,a7 17 16,eF 18 17,kp 19 18 1])
 (.cond (.t 19)
 (.seq (.af [U 20 0,Db 21,cq 22 20 21 24])
 (.seq (.af [U 23 0,c9 24 3,a7 25 24,U 26 0,⟨some 27,.uA 72 [(.t 26)],none,[26]⟩,⟨some 28,.call 71 [(.t 23),(.t 25),(.c (.str [44])),(.t 27)],none,[23,25,27]⟩])
 (.af [U 29 0,Dc 30,cq 31 29 30 24])))
 (.skip)))
 (.af [U 32 0,fV 33 3,a7 34 33,gB 35 32 34 68 3])))))))))))
theorem X4:cb 38 52 Tryz.f38 NK []:=⟨Tryz.func38,by kernel_rfl⟩
def NM:bD:=
 .seq (.af [fQ 16 15 14])
 (.seq (.cond (.t 16)
 (.skip)
 (.exit 1))
 (.seq (.block 2 (.seq (.af [hJ 17 13 15,cc 18 17,o9 5,⟨none,.st 5 (.t 5) (.t 18),none,[5,18]⟩])
 (.af [U 19 0,cc 20 5,gB 21 19 20 70 3])))
 (.af [eK 22 15 1,U 15 22])))
def NL:bD:=
 .seq (.af [fL 3 1])
 (.seq (.af [dT 6 3,a7 7 6])
 (.block 0 (.seq (.af [bo 24 7 10,U 23 24])
 (.cond (.t 23)
 (.af [U 25 0,⟨some 26,.e4 1 1 [(.str [])] [(0,1,(.c (.str [95])))],none,[]⟩,cq 27 25 26 24])
 (.seq (.af [bo 29 7 11,U 28 29])
 (.cond (.t 28)
 (.af [U 30 0,fV 31 3,a7 32 31,gB 33 30 32 68 3])
 (.seq (.af [bo 35 7 12,U 34 35])
 (.cond (.t 34)
 (.af [U 36 0,c4 37 3,a7 38 37,cq 39 36 38 73])
 (.seq (.af [bo 41 7 13,U 40 41])
 (.cond (.t 40)
 (.af [U 42 0,⟨some 43,.e4 2 1 [(.str [])] [(0,1,(.c (.str [40]))),(1,1,(.c (.str [41])))],none,[]⟩,cq 44 42 43 24])
 (.seq (.af [bo 46 7 14,U 45 46])
 (.cond (.t 45)
 (.af [U 47 0,c4 48 3,a7 49 48,cq 50 47 49 74])
 (.seq (.af [bo 52 7 15,U 51 52])
 (.cond (.t 51)
 (.af [U 53 0,cc 54 3,Dg 55 53 54 69 2 1])
 (.seq (.af [U 8 0,fV 9 3,a7 10 9,gB 11 8 10 68 4])
 (.seq (.af [c9 12 3,a7 13 12,eF 14 13,ca 15 0])
 (.block 1 (.loop NM))))))))))))))))))
theorem X5:cb 39 56 Tryz.f39 NL []:=⟨Tryz.func39,by kernel_rfl⟩
def NP:bD:=
 .seq (.af [fQ 53 52 51])
 (.seq (.cond (.t 53)
 (.skip)
 (.exit 1))
 (.seq (.block 2 (.seq (.af [hJ 54 50 52,cc 55 54,o9 5,⟨none,.st 5 (.t 5) (.t 55),none,[5,55]⟩])
 (.af [U 56 0,cc 57 5,gB 58 56 57 70 10])))
 (.af [eK 59 52 1,U 52 59])))
def NO:bD:=
 .seq (.af [fL 3 1])
 (.seq (.af [dT 9 3,a7 10 9])
 (.block 0 (.seq (.af [bo 15 10 20,U 14 15])
 (.cond (.t 14)
 (.af [U 16 0,c4 17 3,a7 18 17,cq 19 16 18 73])
 (.seq (.af [bo 21 10 21,U 20 21])
 (.cond (.t 20)
 (.af [U 22 0,fV 23 3,a7 24 23,gB 25 22 24 68 2])
 (.seq (.af [bo 27 10 22,U 26 27])
 (.cond (.t 26)
 (.af [U 28 0,⟨some 29,.e4 2 1 [(.str [])] [(0,1,(.c (.str [40]))),(1,1,(.c (.str [41])))],none,[]⟩,cq 30 28 29 24])
 (.seq (.af [bo 32 10 23,U 31 32])
 (.cond (.t 31)
 (.af [U 33 0,c4 34 3,a7 35 34,cq 36 33 35 74])
 (.seq (.af [bo 38 10 24,U 37 38])
 (.cond (.t 37)
 (.af [U 39 0,fV 40 3,a7 41 40,gB 42 39 41 68 3])
 (.seq (.af [bo 44 10 25,U 43 44])
 (.cond (.t 43)
 (.seq (.af [U 45 0,fV 46 3,a7 47 46,gB 48 45 47 68 4])
 (.seq (.af [c9 49 3,a7 50 49,eF 51 50,ca 52 0])
 (.block 1 (.loop NP))))
 (.seq (.af [bo 61 10 26,U 60 61])
 (.cond (.t 60)
 (.af [U 62 0,cc 63 3,Dg 64 62 63 69 5 4])
 (.seq (.af [bo 66 10 35,U 65 66])
 (.cond (.t 65)
 (.af [U 67 0,cc 68 3,⟨some 69,.call 69 [(.t 67),(.t 68),(.c (.int .i64 2)),(.c (.str [59])),(.c (.int .i64 1))],none,[67,68]⟩])
 (.seq (.af [bo 71 10 37,U 70 71])
 (.cond (.t 70)
 (.af [U 72 0,cc 73 3,⟨some 74,.call 69 [(.t 72),(.t 73),(.c (.int .i64 4)),(.c (.str [58,61])),(.c (.int .i64 2))],none,[72,73]⟩])
 (.seq (.af [bo 76 10 38,U 75 76])
 (.cond (.t 75)
 (.seq (.af [fV 77 3,a7 78 77,eL 79 78 75,U 6 79])
 (.seq (.af [U 80 6,U 7 80])
 (.seq (.seq (.af [U 81 6,bo 82 81 5])
 (.cond (.t 82)
 (.af [ca 7 6])
 (.skip)))
 (.af [U 83 0,cc 84 3,U 85 7,fV 86 3,a7 87 86,U 88 6,eK 89 88 1,⟨some 90,.call 69 [(.t 83),(.t 84),(.t 85),(.t 87),(.t 89)],none,[83,84,85,87,89]⟩]))))
 (.seq (.af [bo 92 10 28,U 91 92])
 (.cond (.t 91)
 (.seq (.af [c9 93 3,a7 94 93,gi 95 94 0,cc 96 95,o9 8,⟨none,.st 5 (.t 8) (.t 96),none,[8,96]⟩])
 (.seq (.draw [U 97 0,U 98 0,dA 99 98,dT 100 99,a7 101 100,cc 102 8,cc 115 8,cq 103 101 102 77,p6 104 103 9,U 105 104,⟨some 106,.gP 0 (.t 8),(some (105,false)),[8,105]⟩,mz 107 106 105,C4 108 107 105 25,fk 109 105 108,U 110 109,⟨some 111,.gP 0 (.t 8),(some (110,false)),[8,110]⟩,mz 112 111 110,C4 113 112 110 34,fk 114 110 113,Df 116 97 114 115 76] [(4,[7]),(5,[7]),(11,[19]),(16,[19]),(6,[7,19])])
 (.af [U 117 0,c9 118 3,a7 119 118,gi 120 119 1,cc 121 120,gB 122 117 121 70 10])))
 (.seq (.af [bo 124 10 34,U 123 124])
 (.cond (.t 123)
 (.seq (.af [U 125 0,⟨some 126,.e4 1 1 [(.str [])] [(0,1,(.c (.str [114,97,105,115,101])))],none,[]⟩,cq 127 125 126 24])
 (.af [U 128 0,c9 129 3,a7 130 129,gi 131 130 0,cc 132 131,gB 133 128 132 70 10]))
 (.seq (.af [bo 135 10 36,U 134 135])
 (.cond (.t 134)
 (.seq (.af [U 136 0,⟨some 137,.e4 1 1 [(.str [])] [(0,1,(.c (.str [33])))],none,[]⟩,cq 138 136 137 24])
 (.af [U 139 0,c9 140 3,a7 141 140,gi 142 141 0,cc 143 142,gB 144 139 143 70 8]))
 (.seq (.af [bo 146 10 39,U 145 146])
 (.cond (.t 145)
 (.seq (.af [U 147 0,⟨some 148,.e4 1 1 [(.str [])] [(0,1,(.c (.str [45])))],none,[]⟩,cq 149 147 148 24])
 (.af [U 150 0,c9 151 3,a7 152 151,gi 153 152 0,cc 154 153,gB 155 150 154 70 8]))
 (.af [U 11 0,cc 12 3,cq 13 11 12 78])))))))))))))))))))))))))))))))
theorem X7:cb 40 156 Tryz.f40 NO []:=⟨Tryz.func40,by kernel_rfl⟩
def Hw:bD:=
 .seq (.af [fQ 45 44 43])
 (.seq (.cond (.t 45)
 (.skip)
 (.exit 1))
 (.seq (.block 2 (.seq (.af [hJ 46 42 44,cc 47 46,o9 5,⟨none,.st 5 (.t 5) (.t 47),none,[5,47]⟩])
 (.seq (.af [U 48 0,⟨some 49,.e4 1 1 [(.str [])] [(0,1,(.c (.str [111,102])))],none,[]⟩,cq 50 48 49 24])
 (.af [U 51 0,cc 52 5,gB 53 51 52 70 1]))))
 (.af [eK 54 44 1,U 44 54])))
def NQ:bD:=
 .seq (.af [fL 3 1])
 (.seq (.af [dT 6 3,a7 7 6])
 (.block 0 (.seq (.af [bo 9 7 45,U 8 9])
 (.cond (.t 8)
 (.af [U 10 0,cc 11 3,Dh 12 10 11 69 1 1])
 (.seq (.af [bo 14 7 46,U 13 14])
 (.cond (.t 13)
 (.seq (.af [U 15 0,fV 16 3,a7 17 16,gB 18 15 17 68 3])
 (.seq (.af [U 19 0,⟨some 20,.e4 1 1 [(.str [])] [(0,1,(.c (.str [61])))],none,[]⟩,cq 21 19 20 24])
 (.af [U 22 0,c9 23 3,a7 24 23,gi 25 24 0,cc 26 25,gB 27 22 26 70 1])))
 (.seq (.seq (.af [bo 29 7 47,U 28 29])
 (.cond (.t 28)
 (.skip)
 (.af [bo 30 7 51,U 28 30])))
 (.cond (.t 28)
 (.seq (.seq (.af [dT 31 3,a7 32 31,bo 33 32 51])
 (.cond (.t 33)
 (.af [U 34 0,⟨some 35,.e4 1 1 [(.str [])] [(0,1,(.c (.str [101,120,99,101,112,116,105,111,110])))],none,[]⟩,cq 36 34 35 24])
 (.skip)))
 (.seq (.af [U 37 0,fV 38 3,a7 39 38,gB 40 37 39 68 4])
 (.seq (.af [c9 41 3,a7 42 41,eF 43 42,ca 44 0])
 (.block 1 (.loop Hw)))))
 (.seq (.af [bo 56 7 52,U 55 56])
 (.cond (.t 55)
 (.seq (.af [U 57 0,⟨some 58,.e4 1 1 [(.str [])] [(0,1,(.c (.str [108,101,116])))],none,[]⟩,cq 59 57 58 24])
 (.af [U 60 0,cc 61 3,LR 62 60 61]))
 (.seq (.af [bo 64 7 53,U 63 64])
 (.cond (.t 63)
 (.seq (.af [U 65 0,LO 66,cq 67 65 66 24])
 (.af [U 68 0,c9 69 3,a7 70 69,U 71 0,Aj 72 71,⟨some 73,.call 71 [(.t 68),(.t 70),(.c (.str [97,110,100])),(.t 72)],none,[68,70,72]⟩]))
 (.seq (.af [bo 75 7 50,U 74 75])
 (.cond (.t 74)
 (.seq (.af [U 76 0,⟨some 77,.e4 1 1 [(.str [])] [(0,1,(.c (.str [116,121,112,101])))],none,[]⟩,cq 78 76 77 24])
 (.seq (.seq (.af [c4 79 3,a7 80 79,kp 81 80 1])
 (.cond (.t 81)
 (.af [U 82 0,Db 83,cq 84 82 83 24])
 (.skip)))
 (.seq (.af [U 85 0,c9 86 3,a7 87 86,c4 88 3,a7 89 88,C3 90 87 89,U 91 0,Aj 92 91,⟨some 93,.call 71 [(.t 85),(.t 90),(.c (.str [44])),(.t 92)],none,[85,90,92]⟩])
 (.seq (.seq (.af [c4 94 3,a7 95 94,kp 96 95 1])
 (.cond (.t 96)
 (.af [U 97 0,Dc 98,cq 99 97 98 24])
 (.skip)))
 (.seq (.af [U 100 0,fV 101 3,a7 102 101,gB 103 100 102 68 3])
 (.seq (.af [U 104 0,⟨some 105,.e4 1 1 [(.str [])] [(0,1,(.c (.str [61])))],none,[]⟩,cq 106 104 105 24])
 (.af [U 107 0,c9 108 3,a7 109 108,c4 110 3,a7 111 110,⟨some 112,.dZ 5 (.t 109) (some (.t 111)) none none,none,[109,111]⟩,U 113 0,Aj 114 113,⟨some 115,.call 71 [(.t 107),(.t 112),(.c (.str [124])),(.t 114)],none,[107,112,114]⟩])))))))
 (.skip)))))))))))))))
theorem X8:cb 41 116 Tryz.f41 NQ []:=⟨Tryz.func41,by kernel_rfl⟩
def NR:bD:=
 .seq (.af [ca 2 0])
 (.seq (.block 0 (.seq (.af [U 4 0,lS 5 4 1,U 6 5,fB 7 0 6,nM 8 7 6 4,er 9 6 8,U 3 9])
 (.cond (.t 3)
 (.seq (.af [ca 2 1])
 (.ret))
 (.seq (.af [U 11 0,lS 12 11 10,U 13 12,fB 14 0 13,nM 15 14 13 16,er 16 13 15,U 10 16])
 (.cond (.t 10)
 (.seq (.af [ca 2 2])
 (.ret))
 (.seq (.af [U 18 0,lS 19 18 20,U 20 19,fB 21 0 20,nM 22 21 20 39,er 23 20 22,U 17 23])
 (.cond (.t 17)
 (.seq (.af [ca 2 3])
 (.ret))
 (.seq (.af [U 25 0,bo 26 25 45,U 24 26])
 (.cond (.t 24)
 (.seq (.af [ca 2 4])
 (.ret))
 (.seq (.af [U 28 0,bo 29 28 46,U 27 29])
 (.cond (.t 27)
 (.seq (.af [ca 2 5])
 (.ret))
 (.seq (.af [U 31 0,bo 32 31 47,U 30 32])
 (.cond (.t 30)
 (.seq (.af [ca 2 6])
 (.ret))
 (.seq (.af [U 34 0,lS 35 34 50,U 36 35,fB 37 0 36,nM 38 37 36 53,er 39 36 38,U 33 39])
 (.cond (.t 33)
 (.seq (.af [ca 2 7])
 (.ret))
 (.skip))))))))))))))))
 (.seq (.af [ca 2 0])
 (.ret)))
theorem X9:cb 42 40 Tryz.f42 NR [.t 2]:=⟨Tryz.func42,by kernel_rfl⟩
def NT:bD:=
 .seq (.seq (.af [U 38 5,c9 39 1,a7 40 39,eF 41 40,fQ 42 38 41])
 (.cond (.t 42)
 (.skip)
 (.exit 0)))
 (.seq (.block 1 (.seq (.af [e2 6])
 (.seq (.seq (.af [U 45 3,U 46 5,q4 47 45 46,a7 48 47,bo 49 48 8])
 (.cond (.t 49)
 (.af [c9 50 1,a7 51 50,U 52 5,hJ 53 51 52,dT 54 53,a7 55 54,bo 56 55 1,U 6 56])
 (.draw [c9 57 1,a7 58 57,U 59 5,hJ 60 58 59,dT 61 60,a7 62 61,U 64 3,U 65 5,q4 66 64 65,a7 67 66,eL 63 62 42,⟨some 68,.bin (.int .eql) (.t 63) (.t 67),none,[63,67]⟩,U 6 68] [(1,[10]),(5,[10]),(9,[10,13])])))
 (.seq (.af [U 69 6,r8 70 69,U 71 70,⟨some 72,.gP 4 (.t 1),(some (71,false)),[1,71]⟩,mz 73 72 71,gj 74 5 71,⟨some 75,.dj 5 (.t 73) (.t 74),(some (71,false)),[73,74,71]⟩,vj 76 75 71,vh 77 76 71 43,r7 78 77 71,fk 79 71 78])
 (.cond (.t 79)
 (.seq (.af [e2 2])
 (.ret))
 (.skip))))))
 (.af [U 43 5,eK 44 43 1,U 5 44]))
def NS:bD:=
 .seq (.af [fL 1 0,e2 2])
 (.seq (.seq (.af [dT 7 1,a7 8 7,eL 9 8 42,bo 10 9 0,U 11 10,vj 12 1 11,vh 13 12 11 79,r7 14 13 11,fk 15 11 14,U 16 15,vj 17 1 16,vh 18 17 16 80,r7 19 18 16,fk 20 16 19,U 21 20,Dn 22 1 21,mz 23 22 21,⟨some 24,.bin (.int .lss) (.t 23) (.c (.int .i64 0)),(some (21,false)),[23,21]⟩,fk 25 21 24,U 26 25,Dn 27 1 26,mz 28 27 26,C6 29 28 26 65536,fk 30 26 29])
 (.cond (.t 30)
 (.seq (.af [e2 2])
 (.ret))
 (.skip)))
 (.seq (.af [cc 32 1,eL 33 32 81,U 31 33,k4 34 31,k5 35 31,U 3 34,U 4 35])
 (.seq (.seq (.af [U 36 4,r8 37 36])
 (.cond (.t 37)
 (.seq (.af [e2 2])
 (.ret))
 (.skip)))
 (.seq (.seq (.af [ca 5 0])
 (.block 0 (.loop NT)))
 (.seq (.af [xH 2])
 (.ret))))))
theorem X':cb 43 80 Tryz.f43 NS [.t 2]:=⟨Tryz.func43,by kernel_rfl⟩
def NV:bD:=
 .seq (.seq (.af [U 5 4,c9 6 1,a7 7 6,eF 8 7,fQ 9 5 8])
 (.cond (.t 9)
 (.skip)
 (.exit 0)))
 (.seq (.block 1 (.af [U 12 3,c9 13 1,a7 14 13,U 15 4,hJ 16 14 15,cc 17 16,eL 18 17 44,⟨some 19,.eZ [(.t 12),(.t 18)],none,[12,18]⟩,U 3 19]))
 (.af [U 10 4,eK 11 10 1,U 4 11]))
def NU:bD:=
 .seq (.af [fL 1 0,ca 2 0])
 (.seq (.af [ca 3 0])
 (.seq (.seq (.af [ca 4 0])
 (.block 0 (.loop NV)))
 (.seq (.af [U 20 3,eK 21 20 1,U 2 21])
 (.ret))))
theorem X_:cb 44 22 Tryz.f44 NU [.t 2]:=⟨Tryz.func44,by kernel_rfl⟩
def NW:bD:=
 .seq (.af [ca 4 7])
 (.seq (.seq (.af [U 5 1,⟨some 6,.call 61 [],none,[]⟩,cq 7 5 6 60])
 (.cond (.t 7)
 (.af [ca 4 6])
 (.skip)))
 (.af [U 8 0,U 9 0,dA 10 9,dT 11 10,a7 12 11,U 13 4,U 14 1,Ae 15 13 14,vg 16 15,ve 17 12 16,dA 18 8,dT 19 18,⟨none,.st 1 (.t 19) (.t 17),none,[19,17]⟩]))
theorem Ya:cb 45 20 Tryz.f45 NW []:=⟨Tryz.func45,by kernel_rfl⟩
def NY:bD:=
 .seq (.seq (.af [U 9 8,U 10 1,eF 11 10,fQ 12 9 11])
 (.cond (.t 12)
 (.skip)
 (.exit 0)))
 (.seq (.block 1 (.seq (.seq (.af [U 15 8,kp 16 15 0])
 (.cond (.t 16)
 (.af [U 17 0,U 18 2,cq 19 17 18 45])
 (.skip)))
 (.af [U 20 0,U 21 1,U 22 8,hJ 23 21 22,cc 24 23,U 25 3,Dm 26 20 24 25])))
 (.af [U 13 8,eK 14 13 1,U 8 14]))
def NX:bD:=
 .seq (.af [ca 8 0])
 (.block 0 (.loop NY))
theorem Yb:cb 46 27 Tryz.f46 NX []:=⟨Tryz.func46,by kernel_rfl⟩
def NZ:bD:=
 .af [U 6 0,U 7 0,dA 8 7,dT 9 8,a7 10 9,U 11 1,U 12 2,Ae 13 11 12,vg 14 13,ve 15 10 14,dA 16 6,dT 17 16,⟨none,.st 1 (.t 17) (.t 15),none,[17,15]⟩]
theorem Yc:cb 47 18 Tryz.f47 NZ []:=⟨Tryz.func47,by kernel_rfl⟩
def N0:bD:=
 .seq (.af [fL 3 1])
 (.seq (.af [U 4 0,fV 5 3,a7 6 5,gB 7 4 6 47 4])
 (.seq (.af [c9 8 3,a7 9 8,eF 10 9,bo 11 10 1])
 (.cond (.t 11)
 (.seq (.af [U 12 0,⟨some 13,.call 45 [(.t 12),(.c (.str [111,102]))],none,[12]⟩])
 (.af [U 14 0,c9 15 3,a7 16 15,gi 17 16 0,cc 18 17,cq 19 14 18 49]))
 (.skip))))
theorem Yd:cb 48 20 Tryz.f48 N0 []:=⟨Tryz.func48,by kernel_rfl⟩
def c49:bD:=
 .seq (.af [fL 3 1])
 (.block 0 (.seq (.af [dT 8 3,a7 9 8,p6 10 9 10,U 7 10])
 (.cond (.t 7)
 (.af [U 11 0,cc 12 3,cq 13 11 12 83])
 (.seq (.af [dT 15 3,a7 16 15,p6 17 16 20,U 14 17])
 (.cond (.t 14)
 (.af [U 18 0,cc 19 3,cq 20 18 19 84])
 (.af [U 4 0,cc 5 3,cq 6 4 5 85]))))))
theorem Ye:cb 49 21 Tryz.f49 c49 []:=⟨Tryz.func49,by kernel_rfl⟩
def N2:bD:=
 .seq (.seq (.af [U 9 4,U 10 1,eF 11 10,fQ 12 9 11])
 (.cond (.t 12)
 (.skip)
 (.exit 0)))
 (.seq (.block 1 (.seq (.seq (.af [U 15 4,kp 16 15 0])
 (.cond (.t 16)
 (.af [U 17 0,⟨some 18,.call 45 [(.t 17),(.c (.str [97,110,100]))],none,[17]⟩])
 (.skip)))
 (.seq (.af [U 19 0,U 20 1,U 21 4,hJ 22 20 21,fV 23 22,a7 24 23,gB 25 19 24 47 3])
 (.seq (.af [U 26 0,Dl 27 26])
 (.af [U 28 0,U 29 1,U 30 4,hJ 31 29 30,c9 32 31,a7 33 32,gi 34 33 0,cc 35 34,cq 36 28 35 49])))))
 (.af [U 13 4,eK 14 13 1,U 4 14]))
def N1:bD:=
 .seq (.af [U 5 0,GI 6 5])
 (.seq (.af [U 7 0,⟨some 8,.call 45 [(.t 7),(.c (.str [114,101,99]))],none,[7]⟩])
 (.seq (.af [ca 4 0])
 (.block 0 (.loop N2))))
theorem Yf:cb 50 37 Tryz.f50 N1 []:=⟨Tryz.func50,by kernel_rfl⟩
def c51:bD:=
 .seq (.af [e2 4])
 (.seq (.seq (.af [U 5 1,Ad 6 5,U 7 6,gj 8 1 7,⟨some 9,.len .str (.t 8),(some (7,false)),[8,7]⟩,C6 10 9 7 64,fk 11 7 10,U 12 11,gj 13 1 12,⟨some 14,.ia .bytes (.t 13),(some (12,false)),[13,12]⟩,⟨some 15,.call 86 [(.t 14),(.c (.func 87 []))],(some (12,false)),[14,12]⟩,fk 16 12 15])
 (.cond (.t 16)
 (.seq (.af [e2 4])
 (.ret))
 (.skip)))
 (.seq (.seq (.af [U 17 0])
 (.block 0 (.seq (.af [bo 19 17 3,U 18 19])
 (.cond (.t 18)
 (.seq (.af [U 20 1,tp 21 20,eL 22 21 89,U 23 22,gj 24 1 23,⟨some 25,.oj (.t 24) (.c (.int .i64 0)),(some (23,false)),[24,23]⟩,q3 26 25 23 95,fk 27 23 26,U 28 27,fB 29 1 28,⟨some 30,.bin (.str .neq) (.t 29) (.c (.str [95])),(some (28,true)),[29,28]⟩,er 31 28 30,U 32 31,fB 33 1 32,GC 34 33 32,GB 35 34 32,GJ 36 35 32,⟨some 37,.un .not (.t 36),(some (32,true)),[36,32]⟩,er 38 32 37,U 4 38])
 (.ret))
 (.seq (.af [bo 40 17 4,U 39 40])
 (.cond (.t 39)
 (.seq (.af [U 41 1,tp 42 41,eL 43 42 90,U 4 43])
 (.ret))
 (.skip)))))))
 (.seq (.af [U 44 1,tp 45 44,eL 46 45 89,U 4 46])
 (.ret))))
theorem Yg:cb 51 47 Tryz.f51 c51 [.t 4]:=⟨Tryz.func51,by kernel_rfl⟩
def N3:bD:=
 .seq (.af [e2 4])
 (.seq (.af [U 5 0,U 6 1,cq 7 5 6 92,lS 8 7 0,U 4 8])
 (.ret))
theorem Yh:cb 53 9 Tryz.f53 N3 [.t 4]:=⟨Tryz.func53,by kernel_rfl⟩
def N6:bD:=
 .seq (.seq (.af [U 13 5,U 14 1,kq 15 14,fQ 16 13 15])
 (.cond (.t 16)
 (.skip)
 (.exit 0)))
 (.seq (.block 1 (.seq (.af [U 19 1,U 20 5,Ah 21 19 20,eL 22 21 96,r8 23 22])
 (.cond (.t 23)
 (.seq (.af [e2 4])
 (.ret))
 (.skip))))
 (.af [U 17 5,eK 18 17 1,U 5 18]))
def N5:bD:=
 .seq (.af [e2 4])
 (.seq (.seq (.af [U 6 1,Ad 7 6,U 8 7,gj 9 1 8,⟨some 10,.len .str (.t 9),(some (8,false)),[9,8]⟩,C6 11 10 8 64,fk 12 8 11])
 (.cond (.t 12)
 (.seq (.af [e2 4])
 (.ret))
 (.skip)))
 (.seq (.seq (.af [ca 5 0])
 (.block 0 (.loop N6)))
 (.seq (.seq (.af [U 24 0])
 (.block 2 (.seq (.af [bo 26 24 4,U 25 26])
 (.cond (.t 25)
 (.seq (.af [U 27 1,tp 28 27,Dj 29 28 97 65 90,U 4 29])
 (.ret))
 (.seq (.af [bo 31 24 5,U 30 31])
 (.cond (.t 30)
 (.seq (.af [U 32 1,tp 33 32,Dj 34 33 97 97 122,U 4 34])
 (.ret))
 (.skip)))))))
 (.seq (.af [U 35 1,tp 36 35,Dj 37 36 97 97 122,U 38 37,gj 39 1 38,⟨some 40,.oj (.t 39) (.c (.int .i64 0)),(some (38,false)),[39,38]⟩,q3 41 40 38 95,fk 42 38 41,U 43 42,fB 44 1 43,⟨some 45,.bin (.str .neq) (.t 44) (.c (.str [95])),(some (43,true)),[44,43]⟩,er 46 43 45,U 47 46,fB 48 1 47,Ag 49 47 61,tn 50 48 49 47 60,⟨some 51,.un .not (.t 50),(some (47,true)),[50,47]⟩,er 52 47 51,U 4 52])
 (.ret)))))
theorem Yj:cb 59 53 Tryz.f59 N5 [.t 4]:=⟨Tryz.func59,by kernel_rfl⟩
def N':bD:=
 .seq (.af [jw 0])
 (.seq (.af [LN 1,U 0 1])
 (.ret))
theorem Yn:cb 62 2 Tryz.f62 N' [.t 0]:=⟨Tryz.func62,by kernel_rfl⟩
def N_:bD:=
 .seq (.af [mA 2])
 (.seq (.seq (.af [U 3 0,p6 4 3 10])
 (.cond (.t 4)
 (.seq (.af [U 5 0,U 6 0,eK 7 6 1,⟨some 8,.qS (.c (.str [48,49,50,51,52,53,54,55,56,57])) (some (.t 5)) (some (.t 7)) none,none,[5,7]⟩,U 2 8])
 (.ret))
 (.skip)))
 (.seq (.af [U 9 0,⟨some 10,.bin (.int .quo) (.t 9) (.c (.int .i64 10)),none,[9]⟩,eL 11 10 63,U 12 0,⟨some 13,.bin (.int .rem) (.t 12) (.c (.int .i64 10)),none,[12]⟩,eL 14 13 63,⟨some 15,.bin (.str .add) (.t 11) (.t 14),none,[11,14]⟩,U 2 15])
 (.ret)))
theorem Yo:cb 63 16 Tryz.f63 N_ [.t 2]:=⟨Tryz.func63,by kernel_rfl⟩
def Ob:bD:=
 .seq (.seq (.af [U 7 4,U 8 0,kq 9 8,fQ 10 7 9])
 (.cond (.t 10)
 (.skip)
 (.exit 0)))
 (.seq (.block 1 (.seq (.af [U 13 0,U 14 4,Ah 15 13 14,U 5 15])
 (.seq (.seq (.af [U 16 5,GA 17 16,U 18 17,gj 19 5 18,⟨some 20,.bin (.int .gtr) (.t 19) (.c (.int .u8 126)),(some (18,false)),[19,18]⟩,fk 21 18 20])
 (.cond (.t 21)
 (.seq (.af [U 22 3,U 23 5,C8 24 23 100,xv 25 24,U 26 5,C8 27 26 10,C9 28 27,xv 29 28,U 30 5,C9 31 30,xv 32 31,LP 33 25 29 32,lR 34 22 33,U 3 34])
 (.exit 1))
 (.skip)))
 (.seq (.seq (.af [U 35 5,xw 36 35 34,U 37 36,gj 38 5 37,q3 39 38 37 92,fk 40 37 39])
 (.cond (.t 40)
 (.af [U 41 3,xA 42 92,lR 43 41 42,U 3 43])
 (.skip)))
 (.af [U 44 3,U 45 5,Da 46 45,lR 47 44 46,U 3 47])))))
 (.af [U 11 4,eK 12 11 1,U 4 12]))
def Oa:bD:=
 .seq (.af [mA 2])
 (.seq (.af [xA 6 34,U 3 6])
 (.seq (.seq (.af [ca 4 0])
 (.block 0 (.loop Ob)))
 (.seq (.af [U 48 3,xA 49 34,lR 50 48 49,⟨some 51,.ia .str (.t 50),none,[50]⟩,U 2 51])
 (.ret))))
theorem Yp:cb 64 52 Tryz.f64 Oa [.t 2]:=⟨Tryz.func64,by kernel_rfl⟩
def Oc:bD:=
 .seq (.af [e2 4])
 (.seq (.seq (.af [U 5 0])
 (.block 0 (.seq (.af [bo 7 5 1,U 6 7])
 (.cond (.t 6)
 (.seq (.af [U 8 1,nc 9 8 98 3,U 4 9])
 (.ret))
 (.seq (.af [bo 11 5 2,U 10 11])
 (.cond (.t 10)
 (.seq (.af [U 12 1,nc 13 12 98 4,U 4 13])
 (.ret))
 (.seq (.af [bo 15 5 3,U 14 15])
 (.cond (.t 14)
 (.seq (.af [U 16 1,nc 17 16 98 5,U 4 17])
 (.ret))
 (.seq (.af [bo 19 5 4,U 18 19])
 (.cond (.t 18)
 (.seq (.af [U 20 1,kq 21 20,xy 22 21 4096,U 4 22])
 (.ret))
 (.seq (.af [bo 24 5 5,U 23 24])
 (.cond (.t 23)
 (.seq (.af [LQ 25,U 26 1,cq 27 25 26 53,U 4 27])
 (.ret))
 (.skip)))))))))))))
 (.seq (.af [U 28 1,Ad 29 28,U 4 29])
 (.ret)))
theorem Yq:cb 65 30 Tryz.f65 Oc [.t 4]:=⟨Tryz.func65,by kernel_rfl⟩
def Oe:bD:=
 .seq (.seq (.af [U 34 8,U 35 7,eF 36 35,fQ 37 34 36])
 (.cond (.t 37)
 (.skip)
 (.exit 0)))
 (.block 1 (.draw [U 38 8,U 39 7,U 40 8,⟨some 41,.dZ 1 (.t 39) (some (.t 40)) none none,none,[39,40]⟩,U 42 7,U 43 8,⟨some 44,.dZ 1 (.t 42) none (some (.t 43)) none,none,[42,43]⟩,⟨some 45,.copy 1 (.t 41) (.t 44),none,[41,44]⟩,Ac 46 38 45,U 8 46] []))
def Od:bD:=
 .seq (.af [jw 4])
 (.seq (.seq (.af [U 9 1,p6 10 9 0])
 (.cond (.t 10)
 (.af [⟨some 11,.sN 9 (.c (.str [99,97,110,110,111,116,32,98,101,32,110,101,103,97,116,105,118,101])),none,[]⟩,⟨none,.bad,none,[11]⟩])
 (.skip)))
 (.seq (.af [U 13 0,eF 14 13,⟨some 15,.ia (.int .u64) (.t 14),none,[14]⟩,U 16 1,⟨some 17,.ia (.int .u64) (.t 16),none,[16]⟩,cq 18 15 17 99,U 12 18,k4 19 12,k5 20 12,U 5 19,U 6 20])
 (.seq (.seq (.af [U 21 5,⟨some 22,.bin (.int .gtr) (.t 21) (.c (.int .u64 0)),none,[21]⟩,U 23 22,gj 24 6 23,⟨some 25,.bin (.int .gtr) (.t 24) (.c (.int .u64 9223372036854775807)),(some (23,false)),[24,23]⟩,fk 26 23 25])
 (.cond (.t 26)
 (.af [⟨some 27,.sN 9 (.c (.str [116,104,101,32,114,101,115,117,108,116,32,111,102,32,40,108,101,110,40,120,41,32,42,32,99,111,117,110,116,41,32,111,118,101,114,102,108,111,119,115])),none,[]⟩,⟨none,.bad,none,[27]⟩])
 (.skip)))
 (.seq (.af [U 28 6,⟨some 29,.ia (.int .i64) (.t 28),none,[28]⟩,⟨some 30,.ze 1 [(.int .i64 0)] (.t 29) (.t 29),none,[29,29]⟩,U 7 30])
 (.seq (.af [U 31 7,U 32 0,⟨some 33,.copy 1 (.t 31) (.t 32),none,[31,32]⟩,U 8 33])
 (.seq (.block 0 (.loop Oe))
 (.seq (.af [U 47 7,U 4 47])
 (.ret))))))))
theorem Yr:cb 66 48 Tryz.f66 Od [.t 4]:=⟨Tryz.func66,by kernel_rfl⟩
def Of:bD:=
 .seq (.af [fL 2 0,e2 4])
 (.seq (.seq (.af [U 5 1])
 (.block 0 (.seq (.af [bo 7 5 8,U 6 7])
 (.cond (.t 6)
 (.seq (.af [dT 8 2,a7 9 8,bo 10 9 1,U 4 10])
 (.ret))
 (.seq (.af [bo 12 5 9,U 11 12])
 (.cond (.t 11)
 (.seq (.af [dT 13 2,a7 14 13,bo 15 14 27,U 4 15])
 (.ret))
 (.skip)))))))
 (.seq (.af [dT 16 2,a7 17 16,eL 18 17 35,U 19 1,⟨some 20,.bin (.int .eql) (.t 18) (.t 19),none,[18,19]⟩,U 4 20])
 (.ret)))
theorem Ys:cb 67 21 Tryz.f67 Of [.t 4]:=⟨Tryz.func67,by kernel_rfl⟩
def Og:bD:=
 .af [U 6 0,U 7 0,dA 8 7,c4 9 8,a7 10 9,U 11 1,U 12 2,Ae 13 11 12,vg 14 13,ve 15 10 14,dA 16 6,c4 17 16,⟨none,.st 1 (.t 17) (.t 15),none,[17,15]⟩]
theorem Yt:cb 68 18 Tryz.f68 Og []:=⟨Tryz.func68,by kernel_rfl⟩
def Oh:bD:=
 .seq (.af [fL 6 1])
 (.seq (.af [U 10 0,U 11 2,c9 12 6,a7 13 12,gi 14 13 0,cc 15 14,Df 16 10 11 15 70])
 (.seq (.af [U 17 0,U 18 3,GF 19 18,cq 20 17 19 24])
 (.af [U 21 0,U 22 4,c9 23 6,a7 24 23,gi 25 24 1,cc 26 25,Df 27 21 22 26 70])))
theorem Yu:cb 69 28 Tryz.f69 Oh []:=⟨Tryz.func69,by kernel_rfl⟩
def Oi:bD:=
 .seq (.af [fL 5 2])
 (.draw [U 6 0,U 7 0,dA 8 7,dT 9 8,a7 10 9,cc 11 5,U 13 1,cc 15 5,cq 12 10 11 77,fQ 14 12 13,Df 16 6 14 15 76] [(4,[8]),(5,[8]),(7,[8,10])])
theorem Yv:cb 70 17 Tryz.f70 Oi []:=⟨Tryz.func70,by kernel_rfl⟩
def Ok:bD:=
 .seq (.af [fQ 13 12 11])
 (.seq (.cond (.t 13)
 (.skip)
 (.exit 0))
 (.seq (.block 1 (.seq (.af [U 14 12,hJ 15 10 12,cc 16 15,o9 9,U 8 14,⟨none,.st 5 (.t 9) (.t 16),none,[9,16]⟩])
 (.seq (.seq (.af [U 17 8,kp 18 17 0])
 (.cond (.t 18)
 (.af [U 19 0,U 20 2,GF 21 20,cq 22 19 21 24])
 (.skip)))
 (.af [U 23 3,cc 24 9,⟨some 25,.qc (.t 23) [(.t 24)],none,[23,24]⟩]))))
 (.af [eK 26 12 1,U 12 26])))
def Oj:bD:=
 .seq (.af [U 10 1,eF 11 10,ca 12 0])
 (.block 0 (.loop Ok))
theorem Yw:cb 71 27 Tryz.f71 Oj []:=⟨Tryz.func71,by kernel_rfl⟩
def Ol:bD:=
 .seq (.af [fL 3 1])
 (.af [U 4 0,cc 5 3,gB 6 4 5 70 1])
theorem Yx:cb 72 7 Tryz.f72 Ol []:=⟨Tryz.func72,by kernel_rfl⟩
def Om:bD:=
 .af [U 4 0,U 5 0,dA 6 5,c4 7 6,a7 8 7,U 9 1,GG 10 9,vg 11 10,ve 12 8 11,dA 13 4,c4 14 13,⟨none,.st 1 (.t 14) (.t 12),none,[14,12]⟩]
theorem Yy:cb 73 15 Tryz.f73 Om []:=⟨Tryz.func73,by kernel_rfl⟩
def On:bD:=
 .seq (.seq (.af [U 4 1,bo 5 4 1])
 (.cond (.t 5)
 (.seq (.af [U 6 0,⟨some 7,.e4 1 1 [(.str [])] [(0,1,(.c (.str [116,114,117,101])))],none,[]⟩,cq 8 6 7 24])
 (.ret))
 (.skip)))
 (.af [U 9 0,⟨some 10,.e4 1 1 [(.str [])] [(0,1,(.c (.str [102,97,108,115,101])))],none,[]⟩,cq 11 9 10 24])
theorem Yz:cb 74 12 Tryz.f74 On []:=⟨Tryz.func74,by kernel_rfl⟩
def Oo:bD:=
 .seq (.af [ca 2 0])
 (.seq (.seq (.af [U 3 0])
 (.block 0 (.seq (.seq (.af [⟨some 5,.bin (.str .eql) (.t 3) (.c (.str [61])),none,[3]⟩,U 4 5])
 (.cond (.t 4)
 (.skip)
 (.seq (.af [⟨some 6,.bin (.str .eql) (.t 3) (.c (.str [60])),none,[3]⟩,U 4 6])
 (.cond (.t 4)
 (.skip)
 (.af [⟨some 7,.bin (.str .eql) (.t 3) (.c (.str [60,61])),none,[3]⟩,U 4 7])))))
 (.cond (.t 4)
 (.seq (.af [ca 2 5])
 (.ret))
 (.seq (.seq (.af [⟨some 9,.bin (.str .eql) (.t 3) (.c (.str [43])),none,[3]⟩,U 8 9])
 (.cond (.t 8)
 (.skip)
 (.af [⟨some 10,.bin (.str .eql) (.t 3) (.c (.str [45])),none,[3]⟩,U 8 10])))
 (.cond (.t 8)
 (.seq (.af [ca 2 6])
 (.ret))
 (.skip)))))))
 (.seq (.af [ca 2 7])
 (.ret)))
theorem YA:cb 75 11 Tryz.f75 Oo [.t 2]:=⟨Tryz.func75,by kernel_rfl⟩
def Oq:bD:=
 .seq (.af [fL 5 2])
 (.seq (.seq (.af [U 6 1,U 7 6,r6 8 5 7,fu 9 8 7,⟨some 10,.bin (.int .neq) (.t 9) (.c (.int .i64 32)),(some (7,true)),[9,7]⟩,er 11 7 10,U 12 11,r6 13 5 12,fu 14 13 12,⟨some 15,.bin (.int .neq) (.t 14) (.c (.int .i64 33)),(some (12,true)),[14,12]⟩,er 16 12 15])
 (.cond (.t 16)
 (.seq (.af [U 17 0,Db 18,cq 19 17 18 24])
 (.af [U 20 0,Dc 21,⟨some 17179869185,.gp (.c (.func 24 [])) [(.t 20),(.t 21)],none,[17179869185,20,21]⟩]))
 (.skip)))
 (.af [U 22 0,cc 23 5,cq 24 22 23 23]))
theorem YB:Gr 76 25 Tryz.f76 Oq []:=⟨Tryz.func76,by kernel_rfl⟩
def Ot:bD:=
 .seq (.af [fL 3 1,ca 4 0])
 (.seq (.seq (.af [U 8 0,dT 9 3,a7 10 9,⟨some 11,.look .int (.int .i64 0) true (.t 8) (.t 10),none,[8,10]⟩,U 7 11,k4 12 7,k5 13 7,U 5 12,U 6 13])
 (.seq (.af [U 14 6])
 (.cond (.t 14)
 (.seq (.af [U 15 5,U 4 15])
 (.ret))
 (.skip))))
 (.seq (.block 0 (.seq (.af [dT 17 3,a7 18 17,bo 19 18 16,U 20 19,xF 21 3 20,fu 22 21 20,C2 23 22 20,Gz 24 23 20,er 25 20 24,U 16 25])
 (.cond (.t 16)
 (.seq (.af [ca 4 2])
 (.ret))
 (.seq (.af [dT 27 3,a7 28 27,bo 29 28 25,U 30 29,xF 31 3 30,fu 32 31 30,C2 33 32 30,Gz 34 33 30,er 35 30 34,U 26 35])
 (.cond (.t 26)
 (.seq (.af [ca 4 9])
 (.ret))
 (.seq (.af [dT 37 3,a7 38 37,bo 39 38 38,U 36 39])
 (.cond (.t 36)
 (.seq (.af [fV 40 3,a7 41 40,eL 42 41 75,U 4 42])
 (.ret))
 (.seq (.af [dT 44 3,a7 45 44,p6 46 45 20,U 43 46])
 (.cond (.t 43)
 (.seq (.af [ca 4 3])
 (.ret))
 (.skip))))))))))
 (.seq (.af [ca 4 10])
 (.ret))))
theorem YC:cb 77 47 Tryz.f77 Ot [.t 4]:=⟨Tryz.func77,by kernel_rfl⟩
def Ou:bD:=
 .seq (.af [fL 3 1])
 (.seq (.af [dT 5 3,a7 6 5])
 (.block 0 (.seq (.af [bo 39 6 27,U 38 39])
 (.cond (.t 38)
 (.seq (.af [U 40 0,⟨some 41,.e4 1 1 [(.str [])] [(0,1,(.c (.str [102,117,110])))],none,[]⟩,cq 42 40 41 24])
 (.af [U 43 0,cc 44 3,Dh 45 43 44 69 1 1]))
 (.seq (.af [bo 47 6 29,U 46 47])
 (.cond (.t 46)
 (.seq (.af [U 48 0,⟨some 49,.e4 1 1 [(.str [])] [(0,1,(.c (.str [108,101,116])))],none,[]⟩,cq 50 48 49 24])
 (.seq (.af [U 51 0,cc 52 3,LR 53 51 52])
 (.seq (.af [U 54 0,⟨some 55,.e4 1 1 [(.str [])] [(0,1,(.c (.str [105,110])))],none,[]⟩,cq 56 54 55 24])
 (.af [U 57 0,c9 58 3,a7 59 58,gi 60 59 2,cc 61 60,gB 62 57 61 70 1]))))
 (.seq (.af [bo 64 6 30,U 63 64])
 (.cond (.t 63)
 (.seq (.af [c9 65 3,a7 66 65,eF 67 66,vf 68 67 1,U 4 68])
 (.seq (.af [U 69 0,LO 70,cq 71 69 70 24])
 (.seq (.af [U 72 0,c9 73 3,a7 74 73,U 75 4,C3 76 74 75,U 77 0,Aj 78 77,⟨some 79,.call 71 [(.t 72),(.t 76),(.c (.str [97,110,100])),(.t 78)],none,[72,76,78]⟩])
 (.seq (.af [U 80 0,⟨some 81,.e4 1 1 [(.str [])] [(0,1,(.c (.str [105,110])))],none,[]⟩,cq 82 80 81 24])
 (.af [U 83 0,c9 84 3,a7 85 84,U 86 4,hJ 87 85 86,cc 88 87,gB 89 83 88 70 1])))))
 (.seq (.af [bo 91 6 31,U 90 91])
 (.cond (.t 90)
 (.seq (.af [U 92 0,⟨some 93,.e4 1 1 [(.str [])] [(0,1,(.c (.str [105,102])))],none,[]⟩,cq 94 92 93 24])
 (.seq (.af [U 95 0,c9 96 3,a7 97 96,gi 98 97 0,cc 99 98,gB 100 95 99 70 1])
 (.seq (.af [U 101 0,⟨some 102,.e4 1 1 [(.str [])] [(0,1,(.c (.str [116,104,101,110])))],none,[]⟩,cq 103 101 102 24])
 (.seq (.af [U 104 0,c9 105 3,a7 106 105,gi 107 106 1,cc 108 107,gB 109 104 108 70 3])
 (.seq (.af [U 110 0,⟨some 111,.e4 1 1 [(.str [])] [(0,1,(.c (.str [101,108,115,101])))],none,[]⟩,cq 112 110 111 24])
 (.af [U 113 0,c9 114 3,a7 115 114,gi 116 115 2,cc 117 116,gB 118 113 117 70 3]))))))
 (.seq (.af [U 7 0,Db 8,cq 9 7 8 24])
 (.seq (.seq (.af [dT 10 3,a7 11 10,bo 12 11 32])
 (.cond (.t 12)
 (.af [U 13 0,⟨some 14,.e4 1 1 [(.str [])] [(0,1,(.c (.str [109,97,116,99,104])))],none,[]⟩,cq 15 13 14 24])
 (.af [U 16 0,⟨some 17,.e4 1 1 [(.str [])] [(0,1,(.c (.str [116,114,121])))],none,[]⟩,cq 18 16 17 24])))
 (.seq (.af [U 19 0,c9 20 3,a7 21 20,gi 22 21 0,cc 23 22,gB 24 19 23 70 1])
 (.seq (.af [U 25 0,⟨some 26,.e4 1 1 [(.str [])] [(0,1,(.c (.str [119,105,116,104])))],none,[]⟩,cq 27 25 26 24])
 (.seq (.af [U 28 0,c9 29 3,a7 30 29,⟨some 31,.dZ 5 (.t 30) (some (.c (.int .i64 1))) none none,none,[30]⟩,U 32 0,Aj 33 32,⟨some 34,.call 71 [(.t 28),(.t 31),(.c (.str [124])),(.t 33)],none,[28,31,33]⟩])
 (.af [U 35 0,Dc 36,cq 37 35 36 24]))))))))))))))))
theorem YD:cb 78 119 Tryz.f78 Ou []:=⟨Tryz.func78,by kernel_rfl⟩
def Ov:bD:=
 .seq (.af [fL 1 0,e2 2])
 (.seq (.seq (.af [dT 3 1,a7 4 3])
 (.block 0 (.seq (.af [bo 6 4 1,U 5 6])
 (.cond (.t 5)
 (.seq (.af [fV 7 1,a7 8 7,nc 9 8 59 5,U 2 9])
 (.ret))
 (.seq (.seq (.af [bo 11 4 2,U 10 11])
 (.cond (.t 10)
 (.skip)
 (.seq (.af [bo 12 4 11,U 10 12])
 (.cond (.t 10)
 (.skip)
 (.seq (.af [bo 13 4 24,U 10 13])
 (.cond (.t 10)
 (.skip)
 (.seq (.af [bo 14 4 46,U 10 14])
 (.cond (.t 10)
 (.skip)
 (.af [bo 15 4 50,U 10 15])))))))))
 (.cond (.t 10)
 (.seq (.af [fV 16 1,a7 17 16,nc 18 17 59 3,U 2 18])
 (.ret))
 (.seq (.seq (.af [bo 20 4 16,U 19 20])
 (.cond (.t 19)
 (.skip)
 (.seq (.af [bo 21 4 25,U 19 21])
 (.cond (.t 19)
 (.skip)
 (.seq (.af [bo 22 4 47,U 19 22])
 (.cond (.t 19)
 (.skip)
 (.af [bo 23 4 51,U 19 23])))))))
 (.cond (.t 19)
 (.seq (.af [fV 24 1,a7 25 24,nc 26 25 59 4,U 2 26])
 (.ret))
 (.seq (.af [bo 28 4 21,U 27 28])
 (.cond (.t 27)
 (.seq (.af [fV 29 1,a7 30 29,kq 31 30,xy 32 31 4096,U 2 32])
 (.ret))
 (.seq (.af [bo 34 4 38,U 33 34])
 (.cond (.t 33)
 (.seq (.draw [fV 35 1,a7 36 35,⟨some 37,.call 100 [],none,[]⟩,cq 38 36 37 60,U 2 38] [(1,[2,3])])
 (.ret))
 (.skip)))))))))))))
 (.seq (.af [fV 39 1,a7 40 39,Ad 41 40,U 2 41])
 (.ret)))
theorem YE:cb 79 42 Tryz.f79 Ov [.t 2]:=⟨Tryz.func79,by kernel_rfl⟩
def Ox:bD:=
 .seq (.af [fL 1 0,e2 2])
 (.seq (.seq (.af [dT 3 1,a7 4 3])
 (.block 0 (.seq (.seq (.af [bo 6 4 12,U 5 6])
 (.cond (.t 5)
 (.skip)
 (.af [bo 7 4 20,U 5 7])))
 (.cond (.t 5)
 (.seq (.af [c4 8 1,a7 9 8,⟨some 10,.bin (.int .geq) (.t 9) (.c (.int .i64 (-1073741824))),none,[9]⟩,U 11 10,p7 12 1 11,fu 13 12 11,nM 14 13 11 1073741823,er 15 11 14,U 2 15])
 (.ret))
 (.seq (.seq (.af [bo 17 4 14,U 16 17])
 (.cond (.t 16)
 (.skip)
 (.af [bo 18 4 23,U 16 18])))
 (.cond (.t 16)
 (.seq (.af [c4 19 1,a7 20 19,bo 21 20 0,U 22 21,⟨some 23,.gP 1 (.t 1),(some (22,false)),[1,22]⟩,mz 24 23 22,C4 25 24 22 1,fk 26 22 25,U 2 26])
 (.ret))
 (.seq (.af [bo 28 4 50,U 27 28])
 (.cond (.t 27)
 (.seq (.af [c4 29 1,a7 30 29,lS 31 30 0,U 32 31,p7 33 1 32,fu 34 33 32,nM 35 34 32 64,er 36 32 35,U 37 36,p7 38 1 37,fu 39 38 37,xF 40 1 37,fu 41 40 37,C2 42 41 37,⟨some 43,.bin (.int .lss) (.t 39) (.t 42),(some (37,true)),[39,42,37]⟩,er 44 37 43,U 2 44])
 (.ret))
 (.skip)))))))))
 (.seq (.af [c4 45 1,a7 46 45,bo 47 46 0,U 2 47])
 (.ret)))
theorem YG:cb 80 48 Tryz.f80 Ox [.t 2]:=⟨Tryz.func80,by kernel_rfl⟩
def Oy:bD:=
 .seq (.af [fL 1 0,jw 2,e2 3])
 (.seq (.af [c9 5 1,a7 6 5,eF 7 6,U 4 7])
 (.seq (.seq (.af [dT 8 1,a7 9 8])
 (.block 0 (.seq (.af [bo 11 9 2,U 10 11])
 (.cond (.t 10)
 (.seq (.af [U 12 4,nc 13 12 101 1,U 14 4,xy 15 14 64,U 2 13,U 3 15])
 (.ret))
 (.seq (.seq (.af [bo 17 9 3,U 16 17])
 (.cond (.t 16)
 (.skip)
 (.af [bo 18 9 4,U 16 18])))
 (.cond (.t 16)
 (.seq (.af [xC 19 101 1 2,U 20 4,bo 21 20 2,U 2 19,U 3 21])
 (.ret))
 (.seq (.af [bo 23 9 15,U 22 23])
 (.cond (.t 22)
 (.seq (.af [xC 24 101 2 2,U 25 4,bo 26 25 2,U 2 24,U 3 26])
 (.ret))
 (.seq (.af [bo 28 9 16,U 27 28])
 (.cond (.t 27)
 (.seq (.af [U 29 4,nc 30 29 101 2,U 31 4,xy 32 31 1,U 2 30,U 3 32])
 (.ret))
 (.seq (.af [bo 34 9 25,U 33 34])
 (.cond (.t 33)
 (.seq (.af [U 35 4,nc 36 35 101 3,U 37 4,xy 38 37 1,U 2 36,U 3 38])
 (.ret))
 (.seq (.seq (.af [bo 40 9 26,U 39 40])
 (.cond (.t 39)
 (.skip)
 (.seq (.af [bo 41 9 28,U 39 41])
 (.cond (.t 39)
 (.skip)
 (.seq (.af [bo 42 9 35,U 39 42])
 (.cond (.t 39)
 (.skip)
 (.seq (.af [bo 43 9 37,U 39 43])
 (.cond (.t 39)
 (.skip)
 (.af [bo 44 9 38,U 39 44])))))))))
 (.cond (.t 39)
 (.seq (.af [xC 45 101 3 2,U 46 4,bo 47 46 2,U 2 45,U 3 47])
 (.ret))
 (.seq (.seq (.af [bo 49 9 34,U 48 49])
 (.cond (.t 48)
 (.skip)
 (.seq (.af [bo 50 9 36,U 48 50])
 (.cond (.t 48)
 (.skip)
 (.af [bo 51 9 39,U 48 51])))))
 (.cond (.t 48)
 (.seq (.af [xC 52 101 3 1,U 53 4,bo 54 53 1,U 2 52,U 3 54])
 (.ret))
 (.seq (.af [bo 56 9 31,U 55 56])
 (.cond (.t 55)
 (.seq (.af [xC 57 101 3 3,U 58 4,bo 59 58 3,U 2 57,U 3 59])
 (.ret))
 (.seq (.seq (.af [bo 61 9 27,U 60 61])
 (.cond (.t 60)
 (.skip)
 (.seq (.af [bo 62 9 45,U 60 62])
 (.cond (.t 60)
 (.skip)
 (.af [bo 63 9 52,U 60 63])))))
 (.cond (.t 60)
 (.seq (.af [⟨some 64,.e4 2 1 [(.int .i64 0)] [(0,1,(.c (.int .i64 2))),(1,1,(.c (.int .i64 3)))],none,[]⟩,U 65 4,bo 66 65 2,U 2 64,U 3 66])
 (.ret))
 (.seq (.af [bo 68 9 29,U 67 68])
 (.cond (.t 67)
 (.seq (.af [⟨some 69,.e4 3 1 [(.int .i64 0)] [(0,1,(.c (.int .i64 2))),(1,1,(.c (.int .i64 3))),(2,1,(.c (.int .i64 3)))],none,[]⟩,U 70 4,bo 71 70 3,U 2 69,U 3 71])
 (.ret))
 (.seq (.af [bo 73 9 30,U 72 73])
 (.cond (.t 72)
 (.seq (.af [U 74 4,vf 75 74 1,nc 76 75 101 5,GD 77 3,lR 78 76 77,U 79 4,lS 80 79 2,U 2 78,U 3 80])
 (.ret))
 (.seq (.seq (.af [bo 82 9 32,U 81 82])
 (.cond (.t 81)
 (.skip)
 (.af [bo 83 9 33,U 81 83])))
 (.cond (.t 81)
 (.seq (.af [GD 84 3,U 85 4,vf 86 85 1,nc 87 86 101 4,lR 88 84 87,U 89 4,lS 90 89 2,U 2 88,U 3 90])
 (.ret))
 (.seq (.af [bo 92 9 46,U 91 92])
 (.cond (.t 91)
 (.seq (.draw [U 94 4,bo 95 94 1,xC 93 101 3 1,U 96 95,xF 97 1 96,fu 98 97 96,⟨some 99,.dj 5 (.t 98) (.c (.int .i64 0)),(some (96,true)),[98,96]⟩,r6 100 99 96,fu 101 100 96,Gy 102 101 96 27,er 103 96 102,U 2 93,U 3 103] [(5,[13]),(8,[13])])
 (.ret))
 (.seq (.seq (.af [bo 105 9 47,U 104 105])
 (.cond (.t 104)
 (.skip)
 (.af [bo 106 9 51,U 104 106])))
 (.cond (.t 104)
 (.seq (.af [U 107 4,nc 108 107 101 1,U 109 4,xy 110 109 1,U 2 108,U 3 110])
 (.ret))
 (.seq (.af [bo 112 9 50,U 111 112])
 (.cond (.t 111)
 (.seq (.draw [c4 113 1,a7 114 113,U 116 4,c4 117 1,a7 118 117,xz 119 116 118,nc 115 114 101 8,nc 120 119 101 6,lR 121 115 120,U 2 121,xH 3] [(1,[6]),(4,[6,7])])
 (.ret))
 (.seq (.af [bo 123 9 53,U 122 123])
 (.cond (.t 122)
 (.seq (.af [U 124 4,nc 125 124 101 5,U 126 4,lS 127 126 1,U 2 125,U 3 127])
 (.ret))
 (.skip)))))))))))))))))))))))))))))))))))
 (.seq (.af [U 128 4,bo 129 128 0,jw 2,U 3 129])
 (.ret))))
theorem YH:cb 81 130 Tryz.f81 Oy [.t 2,.t 3]:=⟨Tryz.func81,by kernel_rfl⟩
def Oz:bD:=
 .seq (.af [fL 5 1])
 (.seq (.af [U 8 3,U 9 8,vj 10 5 9,vh 11 10 9 102,gj 12 2 9,⟨some 13,.bin (.int .lss) (.t 11) (.t 12),(some (9,false)),[11,12,9]⟩,fk 14 9 13,U 3 14])
 (.seq (.seq (.af [U 15 3])
 (.cond (.t 15)
 (.af [U 16 0,xD 17 16])
 (.skip)))
 (.seq (.af [U 18 0,cc 19 5,cq 20 18 19 49])
 (.seq (.af [U 21 3])
 (.cond (.t 21)
 (.af [U 22 0,xE 23 22])
 (.skip))))))
theorem YI:cb 82 24 Tryz.f82 Oz []:=⟨Tryz.func82,by kernel_rfl⟩
def OA:bD:=
 .seq (.af [fL 3 1])
 (.seq (.af [dT 4 3,a7 5 4])
 (.block 0 (.seq (.af [bo 27 5 1,U 26 27])
 (.cond (.t 26)
 (.af [U 28 0,fV 29 3,a7 30 29,gB 31 28 30 47 5])
 (.seq (.af [bo 33 5 3,U 32 33])
 (.cond (.t 32)
 (.af [U 34 0,cc 35 3,⟨some 36,.call 103 [(.t 34),(.t 35),(.c (.int .i64 3)),(.c (.str [42])),(.c (.int .i64 2))],none,[34,35]⟩])
 (.seq (.af [bo 38 5 4,U 37 38])
 (.cond (.t 37)
 (.af [U 39 0,cc 40 3,Dh 41 39 40 103 2 1])
 (.seq (.seq (.af [c9 6 3,a7 7 6,eF 8 7,kp 9 8 1])
 (.cond (.t 9)
 (.seq (.af [U 10 0,xD 11 10])
 (.seq (.af [U 12 0,c9 13 3,a7 14 13,GH 15 12 14 46 1])
 (.af [U 16 0,xE 17 16])))
 (.af [U 18 0,c9 19 3,a7 20 19,GH 21 18 20 46 3])))
 (.af [U 22 0,fV 23 3,a7 24 23,gB 25 22 24 47 3]))))))))))
theorem YJ:cb 83 42 Tryz.f83 OA []:=⟨Tryz.func83,by kernel_rfl⟩
def OB:bD:=
 .seq (.af [fL 3 1])
 (.seq (.af [dT 4 3,a7 5 4])
 (.block 0 (.seq (.af [bo 10 5 10,U 9 10])
 (.cond (.t 9)
 (.af [U 11 0,⟨some 12,.call 45 [(.t 11),(.c (.str [95]))],none,[11]⟩])
 (.seq (.af [bo 14 5 11,U 13 14])
 (.cond (.t 13)
 (.af [U 15 0,fV 16 3,a7 17 16,gB 18 15 17 47 3])
 (.seq (.af [bo 20 5 12,U 19 20])
 (.cond (.t 19)
 (.af [U 21 0,c4 22 3,a7 23 22,cq 24 21 23 104])
 (.seq (.af [bo 26 5 13,U 25 26])
 (.cond (.t 25)
 (.seq (.af [U 27 0,xD 28 27])
 (.af [U 29 0,xE 30 29]))
 (.seq (.af [bo 32 5 14,U 31 32])
 (.cond (.t 31)
 (.af [U 33 0,c4 34 3,a7 35 34,cq 36 33 35 105])
 (.seq (.af [bo 38 5 15,U 37 38])
 (.cond (.t 37)
 (.af [U 39 0,cc 40 3,Dg 41 39 40 103 2 1])
 (.af [U 6 0,cc 7 3,⟨some 8,.call 106 [(.t 6),(.t 7),(.c (.int .i64 3))],none,[6,7]⟩])))))))))))))))
theorem YK:cb 84 42 Tryz.f84 OB []:=⟨Tryz.func84,by kernel_rfl⟩
def OC:bD:=
 .seq (.af [fL 3 1])
 (.seq (.af [dT 5 3,a7 6 5])
 (.block 0 (.seq (.af [bo 11 6 25,U 10 11])
 (.cond (.t 10)
 (.af [U 12 0,cc 13 3,⟨some 14,.call 106 [(.t 12),(.t 13),(.c (.int .i64 10))],none,[12,13]⟩])
 (.seq (.af [bo 16 6 26,U 15 16])
 (.cond (.t 15)
 (.af [U 17 0,cc 18 3,Dg 19 17 18 103 5 4])
 (.seq (.af [bo 21 6 35,U 20 21])
 (.cond (.t 20)
 (.af [U 22 0,cc 23 3,⟨some 24,.call 103 [(.t 22),(.t 23),(.c (.int .i64 2)),(.c (.str [59])),(.c (.int .i64 1))],none,[22,23]⟩])
 (.seq (.af [bo 26 6 37,U 25 26])
 (.cond (.t 25)
 (.af [U 27 0,cc 28 3,⟨some 29,.call 103 [(.t 27),(.t 28),(.c (.int .i64 4)),(.c (.str [58,61])),(.c (.int .i64 2))],none,[27,28]⟩])
 (.seq (.af [bo 31 6 38,U 30 31])
 (.cond (.t 30)
 (.af [U 32 0,cc 33 3,cq 34 32 33 107])
 (.seq (.af [bo 36 6 28,U 35 36])
 (.cond (.t 35)
 (.seq (.af [c9 37 3,a7 38 37,gi 39 38 0,cc 40 39,o9 4,⟨none,.st 5 (.t 4) (.t 40),none,[4,40]⟩])
 (.seq (.af [U 41 0,cc 42 4,dT 43 4,a7 44 43,bo 45 44 25,U 46 45,⟨some 47,.gP 0 (.t 4),(some (46,false)),[4,46]⟩,mz 48 47 46,C4 49 48 46 34,fk 50 46 49,⟨some 51,.call 82 [(.t 41),(.t 42),(.c (.int .i64 9)),(.t 50)],none,[41,42,50]⟩])
 (.af [U 52 0,c9 53 3,a7 54 53,gi 55 54 1,cc 56 55,xB 57 52 56 82 10])))
 (.seq (.af [bo 59 6 34,U 58 59])
 (.cond (.t 58)
 (.seq (.af [U 60 0,⟨some 61,.call 45 [(.t 60),(.c (.str [114,97,105,115,101]))],none,[60]⟩])
 (.af [U 62 0,c9 63 3,a7 64 63,gi 65 64 0,cc 66 65,xB 67 62 66 82 10]))
 (.seq (.af [bo 69 6 36,U 68 69])
 (.cond (.t 68)
 (.seq (.af [U 70 0,⟨some 71,.call 45 [(.t 70),(.c (.str [33]))],none,[70]⟩])
 (.af [U 72 0,c9 73 3,a7 74 73,gi 75 74 0,cc 76 75,xB 77 72 76 82 8]))
 (.seq (.af [bo 79 6 39,U 78 79])
 (.cond (.t 78)
 (.seq (.af [U 80 0,⟨some 81,.call 45 [(.t 80),(.c (.str [45]))],none,[80]⟩])
 (.af [U 82 0,c9 83 3,a7 84 83,gi 85 84 0,cc 86 85,xB 87 82 86 82 8]))
 (.seq (.af [bo 89 6 27,U 88 89])
 (.cond (.t 88)
 (.seq (.af [U 90 0,⟨some 91,.call 45 [(.t 90),(.c (.str [102,117,110]))],none,[90]⟩])
 (.seq (.af [U 92 0,c9 93 3,a7 94 93,gi 95 94 0,cc 96 95,cq 97 92 96 49])
 (.seq (.af [U 98 0,⟨some 99,.call 45 [(.t 98),(.c (.str [45,62]))],none,[98]⟩])
 (.af [U 100 0,c9 101 3,a7 102 101,gi 103 102 1,cc 104 103,cq 105 100 104 49]))))
 (.seq (.seq (.af [bo 107 6 29,U 106 107])
 (.cond (.t 106)
 (.skip)
 (.af [bo 108 6 31,U 106 108])))
 (.cond (.t 106)
 (.af [U 109 0,cc 110 3,cq 111 109 110 108])
 (.seq (.af [bo 113 6 30,U 112 113])
 (.cond (.t 112)
 (.seq (.af [U 114 0,c9 115 3,a7 116 115,c9 117 3,a7 118 117,eF 119 118,vf 120 119 1,C3 121 116 120,cq 122 114 121 50])
 (.seq (.af [U 123 0,⟨some 124,.call 45 [(.t 123),(.c (.str [105,110]))],none,[123]⟩])
 (.af [U 125 0,c9 126 3,a7 127 126,c9 128 3,a7 129 128,eF 130 129,vf 131 130 1,hJ 132 127 131,cc 133 132,cq 134 125 133 49])))
 (.seq (.af [bo 136 6 32,U 135 136])
 (.cond (.t 135)
 (.af [U 137 0,c9 138 3,a7 139 138,⟨some 140,.call 109 [(.t 137),(.c (.str [109,97,116,99,104])),(.t 139)],none,[137,139]⟩])
 (.seq (.af [bo 142 6 33,U 141 142])
 (.cond (.t 141)
 (.af [U 143 0,c9 144 3,a7 145 144,⟨some 146,.call 109 [(.t 143),(.c (.str [116,114,121])),(.t 145)],none,[143,145]⟩])
 (.af [U 7 0,cc 8 3,cq 9 7 8 110])))))))))))))))))))))))))))))))
theorem YL:cb 85 147 Tryz.f85 OC []:=⟨Tryz.func85,by kernel_rfl⟩
def OD:bD:=
 .seq (.af [e2 4])
 (.seq (.af [U 5 0,U 6 1,cq 7 5 6 111,lS 8 7 0,U 4 8])
 (.ret))
theorem YM:cb 86 9 Tryz.f86 OD [.t 4]:=⟨Tryz.func86,by kernel_rfl⟩
def OE:bD:=
 .seq (.af [e2 2])
 (.seq (.af [U 3 0,eL 4 3 88,r8 5 4,U 2 5])
 (.ret))
theorem YN:cb 87 6 Tryz.f87 OE [.t 2]:=⟨Tryz.func87,by kernel_rfl⟩
def OK:bD:=
 .seq (.af [fQ 9 8 7])
 (.seq (.cond (.t 9)
 (.skip)
 (.exit 0))
 (.seq (.block 1 (.seq (.af [U 10 8,U 5 10])
 (.seq (.af [U 11 1,U 12 0,U 13 5,q4 14 12 13,a7 15 14,C_ 16 11 15])
 (.cond (.t 16)
 (.seq (.af [U 17 5,U 4 17])
 (.ret))
 (.skip)))))
 (.af [eK 18 8 1,U 8 18])))
def OJ:bD:=
 .seq (.af [ca 4 0])
 (.seq (.seq (.af [U 6 0,eF 7 6,ca 8 0])
 (.block 0 (.loop OK)))
 (.seq (.af [⟨some 4,.bk (.c (.int .i64 (-1))),none,[]⟩])
 (.ret)))
theorem YS:cb 92 19 Tryz.f92 OJ [.t 4]:=⟨Tryz.func92,by kernel_rfl⟩
def ON:bD:=
 .seq (.af [e2 4])
 (.seq (.seq (.af [U 7 1,kq 8 7,kp 9 8 64,U 10 9,gj 11 1 10,⟨some 12,.bin (.str .eql) (.t 11) (.c (.str [])),(some (10,false)),[11,10]⟩,fk 13 10 12])
 (.cond (.t 13)
 (.seq (.af [e2 4])
 (.ret))
 (.skip)))
 (.seq (.seq (.af [U 14 0,bo 15 14 5])
 (.cond (.t 15)
 (.af [U 16 1,C' 17 16,U 1 17])
 (.skip)))
 (.seq (.af [U 19 1,eL 20 19 120,U 18 20,k4 21 18,k5 22 18,⟨some 6,.new [(.int .i64 0),(.int .i64 0)],none,[]⟩,U 5 21,⟨none,.st 2 (.t 6) (.t 22),none,[6,22]⟩])
 (.seq (.af [dT 23 6,a7 24 23,bo 25 24 0,U 26 25,fB 27 5 26,C2 28 27 26,Gy 29 28 26 1,er 30 26 29,U 31 30,fB 32 5 31,C0 33 32 31,r6 34 33 31,fu 35 34 31,fB 36 0 31,Gx 37 35 36 31,er 38 31 37,U 39 38,fB 40 5 39,C0 41 40 39,⟨some 42,.gP 2 (.t 41),(some (39,true)),[41,39]⟩,fu 43 42 39,Gy 44 43 39 0,er 45 39 44,U 46 45,fB 47 5 46,C0 48 47 46,nN 49 48 46,fu 50 49 46,Ai 51 50 46,Gz 52 51 46,er 53 46 52,U 54 53,fB 55 5 54,C0 56 55 54,⟨some 57,.jM 4 (.t 56),(some (54,true)),[56,54]⟩,fB 58 1 54,tn 59 57 58 54 121,er 60 54 59,U 4 60])
 (.ret)))))
theorem YV:cb 98 61 Tryz.f98 ON [.t 4]:=⟨Tryz.func98,by kernel_rfl⟩
def MC:bD:=
 .seq (.af [jw 0])
 (.seq (.af [LQ 1,U 0 1])
 (.ret))
theorem Xj:cb 100 2 Tryz.f100 MC [.t 0]:=⟨Tryz.func100,by kernel_rfl⟩
def ME:bD:=
 .seq (.seq (.af [U 7 6,U 8 1,fQ 9 7 8])
 (.cond (.t 9)
 (.skip)
 (.exit 0)))
 (.seq (.block 1 (.af [U 12 5,U 13 0,⟨some 14,.e4 1 1 [(.int .i64 0)] [(0,1,(.t 13))],none,[13]⟩,lR 15 12 14,U 5 15]))
 (.af [U 10 6,eK 11 10 1,U 6 11]))
def MD:bD:=
 .seq (.af [jw 4])
 (.seq (.af [jw 5])
 (.seq (.seq (.af [ca 6 0])
 (.block 0 (.loop ME)))
 (.seq (.af [U 16 5,U 4 16])
 (.ret))))
theorem Xk:cb 101 17 Tryz.f101 MD [.t 4]:=⟨Tryz.func101,by kernel_rfl⟩
def MF:bD:=
 .seq (.af [fL 1 0,ca 2 0])
 (.seq (.seq (.af [dT 3 1,a7 4 3])
 (.block 0 (.seq (.seq (.af [bo 6 4 35,U 5 6])
 (.cond (.t 5)
 (.skip)
 (.seq (.af [bo 7 4 29,U 5 7])
 (.cond (.t 5)
 (.skip)
 (.seq (.af [bo 8 4 30,U 5 8])
 (.cond (.t 5)
 (.skip)
 (.seq (.af [bo 9 4 27,U 5 9])
 (.cond (.t 5)
 (.skip)
 (.seq (.af [bo 10 4 15,U 5 10])
 (.cond (.t 5)
 (.skip)
 (.af [bo 11 4 4,U 5 11])))))))))))
 (.cond (.t 5)
 (.seq (.af [ca 2 1])
 (.ret))
 (.seq (.seq (.af [bo 13 4 31,U 12 13])
 (.cond (.t 12)
 (.skip)
 (.af [bo 14 4 3,U 12 14])))
 (.cond (.t 12)
 (.seq (.af [ca 2 2])
 (.ret))
 (.seq (.af [bo 16 4 37,U 15 16])
 (.cond (.t 15)
 (.seq (.af [ca 2 3])
 (.ret))
 (.seq (.af [bo 18 4 26,U 17 18])
 (.cond (.t 17)
 (.seq (.af [ca 2 4])
 (.ret))
 (.seq (.af [bo 20 4 38,U 19 20])
 (.cond (.t 19)
 (.seq (.seq (.af [fV 21 1,a7 22 21,⟨some 23,.e4 3 1 [(.str [])] [(0,1,(.c (.str [61]))),(1,1,(.c (.str [60]))),(2,1,(.c (.str [60,61])))],none,[]⟩,cq 24 22 23 60])
 (.cond (.t 24)
 (.seq (.af [ca 2 5])
 (.ret))
 (.skip)))
 (.seq (.seq (.af [fV 25 1,a7 26 25,⟨some 27,.e4 2 1 [(.str [])] [(0,1,(.c (.str [43]))),(1,1,(.c (.str [45])))],none,[]⟩,cq 28 26 27 60])
 (.cond (.t 28)
 (.seq (.af [ca 2 6])
 (.ret))
 (.skip)))
 (.seq (.af [ca 2 7])
 (.ret))))
 (.seq (.seq (.af [bo 30 4 39,U 29 30])
 (.cond (.t 29)
 (.skip)
 (.af [bo 31 4 36,U 29 31])))
 (.cond (.t 29)
 (.seq (.af [ca 2 8])
 (.ret))
 (.seq (.seq (.af [bo 33 4 28,U 32 33])
 (.cond (.t 32)
 (.skip)
 (.af [bo 34 4 34,U 32 34])))
 (.cond (.t 32)
 (.seq (.af [ca 2 9])
 (.ret))
 (.seq (.af [bo 36 4 16,U 35 36])
 (.cond (.t 35)
 (.seq (.seq (.af [c9 37 1,a7 38 37,eF 39 38,bo 40 39 1])
 (.cond (.t 40)
 (.seq (.af [ca 2 2])
 (.ret))
 (.skip)))
 (.seq (.af [ca 2 3])
 (.ret)))
 (.seq (.af [bo 42 4 25,U 41 42])
 (.cond (.t 41)
 (.seq (.af [c9 43 1,a7 44 43,eF 45 44,bo 46 45 1])
 (.cond (.t 46)
 (.seq (.af [ca 2 9])
 (.ret))
 (.skip)))
 (.skip)))))))))))))))))))))
 (.seq (.af [ca 2 10])
 (.ret)))
theorem Xl:cb 102 47 Tryz.f102 MF [.t 2]:=⟨Tryz.func102,by kernel_rfl⟩
def MG:bD:=
 .seq (.af [fL 6 1])
 (.seq (.af [U 10 0,c9 11 6,a7 12 11,gi 13 12 0,cc 14 13,U 15 2,Dm 16 10 14 15])
 (.seq (.af [U 17 0,U 18 3,cq 19 17 18 45])
 (.af [U 20 0,c9 21 6,a7 22 21,gi 23 22 1,cc 24 23,U 25 4,Dm 26 20 24 25])))
theorem Xm:cb 103 27 Tryz.f103 MG []:=⟨Tryz.func103,by kernel_rfl⟩
def MH:bD:=
 .af [U 4 0,U 5 0,dA 6 5,dT 7 6,a7 8 7,U 9 1,GG 10 9,vg 11 10,ve 12 8 11,dA 13 4,dT 14 13,⟨none,.st 1 (.t 14) (.t 12),none,[14,12]⟩]
theorem Xn:cb 104 15 Tryz.f104 MH []:=⟨Tryz.func104,by kernel_rfl⟩
def MI:bD:=
 .seq (.seq (.af [U 4 1,bo 5 4 1])
 (.cond (.t 5)
 (.seq (.af [U 6 0,⟨some 7,.call 45 [(.t 6),(.c (.str [116,114,117,101]))],none,[6]⟩])
 (.ret))
 (.skip)))
 (.af [U 8 0,⟨some 9,.call 45 [(.t 8),(.c (.str [102,97,108,115,101]))],none,[8]⟩])
theorem Xo:cb 105 10 Tryz.f105 MI []:=⟨Tryz.func105,by kernel_rfl⟩
def MJ:bD:=
 .seq (.af [fL 4 1])
 (.seq (.af [U 6 0,fV 7 4,a7 8 7,gB 9 6 8 47 4])
 (.seq (.af [c9 10 4,a7 11 10,eF 12 11,bo 13 12 1])
 (.cond (.t 13)
 (.af [U 14 0,c9 15 4,a7 16 15,gi 17 16 0,cc 18 17,U 19 2,Dm 20 14 18 19])
 (.skip))))
theorem Xp:cb 106 21 Tryz.f106 MJ []:=⟨Tryz.func106,by kernel_rfl⟩
def MK:bD:=
 .seq (.af [fL 3 1])
 (.seq (.af [cc 6 3,eL 7 6 102,U 4 7])
 (.seq (.af [U 8 4,U 5 8])
 (.seq (.seq (.af [U 9 4,bo 10 9 5])
 (.cond (.t 10)
 (.af [ca 5 6])
 (.skip)))
 (.af [U 11 0,cc 12 3,U 13 5,fV 14 3,a7 15 14,U 16 4,eK 17 16 1,⟨some 18,.call 103 [(.t 11),(.t 12),(.t 13),(.t 15),(.t 17)],none,[11,12,13,15,17]⟩]))))
theorem Xq:cb 107 19 Tryz.f107 MK []:=⟨Tryz.func107,by kernel_rfl⟩
def ML:bD:=
 .seq (.af [fL 3 1])
 (.seq (.seq (.af [dT 4 3,a7 5 4,bo 6 5 31])
 (.cond (.t 6)
 (.seq (.af [U 7 0,⟨some 8,.call 45 [(.t 7),(.c (.str [105,102]))],none,[7]⟩])
 (.seq (.af [U 9 0,c9 10 3,a7 11 10,gi 12 11 0,cc 13 12,cq 14 9 13 49])
 (.seq (.af [U 15 0,⟨some 16,.call 45 [(.t 15),(.c (.str [116,104,101,110]))],none,[15]⟩])
 (.seq (.af [U 17 0,c9 18 3,a7 19 18,gi 20 19 1,cc 21 20,xB 22 17 21 82 3])
 (.seq (.af [U 23 0,⟨some 24,.call 45 [(.t 23),(.c (.str [101,108,115,101]))],none,[23]⟩])
 (.seq (.af [U 25 0,c9 26 3,a7 27 26,gi 28 27 2,cc 29 28,xB 30 25 29 82 3])
 (.ret)))))))
 (.skip)))
 (.seq (.af [U 31 0,GI 32 31])
 (.seq (.af [U 33 0,c9 34 3,a7 35 34,gi 36 35 0,cc 37 36,cq 38 33 37 49])
 (.seq (.af [U 39 0,Dl 40 39])
 (.seq (.af [U 41 0,c9 42 3,a7 43 42,gi 44 43 1,cc 45 44,cq 46 41 45 49])
 (.seq (.af [U 47 0,⟨some 48,.call 45 [(.t 47),(.c (.str [105,110]))],none,[47]⟩])
 (.af [U 49 0,c9 50 3,a7 51 50,gi 52 51 2,cc 53 52,cq 54 49 53 49])))))))
theorem Xr:cb 108 55 Tryz.f108 ML []:=⟨Tryz.func108,by kernel_rfl⟩
def MN:bD:=
 .seq (.seq (.af [U 19 6,U 20 2,eF 21 20,fQ 22 19 21])
 (.cond (.t 22)
 (.skip)
 (.exit 0)))
 (.seq (.block 1 (.seq (.seq (.af [U 25 6,kp 26 25 1])
 (.cond (.t 26)
 (.af [U 27 0,⟨some 28,.call 45 [(.t 27),(.c (.str [124]))],none,[27]⟩])
 (.skip)))
 (.seq (.af [U 29 0,U 30 2,U 31 6,hJ 32 30 31,c9 33 32,a7 34 33,gi 35 34 0,cc 36 35,cq 37 29 36 49])
 (.seq (.af [U 38 0,⟨some 39,.call 45 [(.t 38),(.c (.str [45,62]))],none,[38]⟩])
 (.af [U 40 0,U 41 2,U 42 6,hJ 43 41 42,c9 44 43,a7 45 44,gi 46 45 1,cc 47 46,cq 48 40 47 49])))))
 (.af [U 23 6,eK 24 23 1,U 6 24]))
def MM:bD:=
 .seq (.af [U 7 0,xD 8 7])
 (.seq (.af [U 9 0,U 10 1,cq 11 9 10 45])
 (.seq (.af [U 12 0,U 13 2,gi 14 13 0,cc 15 14,cq 16 12 15 49])
 (.seq (.af [U 17 0,⟨some 18,.call 45 [(.t 17),(.c (.str [119,105,116,104]))],none,[17]⟩])
 (.seq (.seq (.af [ca 6 1])
 (.block 0 (.loop MN)))
 (.af [U 49 0,xE 50 49])))))
theorem Xs:cb 109 51 Tryz.f109 MM []:=⟨Tryz.func109,by kernel_rfl⟩
def MQ:bD:=
 .seq (.af [fL 3 1])
 (.seq (.af [dT 4 3,a7 5 4])
 (.block 0 (.seq (.af [bo 7 5 20,U 6 7])
 (.cond (.t 6)
 (.af [U 8 0,c4 9 3,a7 10 9,cq 11 8 10 104])
 (.seq (.af [bo 13 5 21,U 12 13])
 (.cond (.t 12)
 (.af [U 14 0,fV 15 3,a7 16 15,gB 17 14 16 47 2])
 (.seq (.af [bo 19 5 22,U 18 19])
 (.cond (.t 18)
 (.seq (.af [U 20 0,xD 21 20])
 (.af [U 22 0,xE 23 22]))
 (.seq (.af [bo 25 5 23,U 24 25])
 (.cond (.t 24)
 (.af [U 26 0,c4 27 3,a7 28 27,cq 29 26 28 105])
 (.seq (.af [bo 31 5 24,U 30 31])
 (.cond (.t 30)
 (.af [U 32 0,fV 33 3,a7 34 33,gB 35 32 34 47 3])
 (.skip)))))))))))))
theorem Xu:cb 110 36 Tryz.f110 MQ []:=⟨Tryz.func110,by kernel_rfl⟩
def MS:bD:=
 .seq (.af [fQ 9 8 7])
 (.seq (.cond (.t 9)
 (.skip)
 (.exit 0))
 (.seq (.block 1 (.seq (.af [U 10 8,U 5 10])
 (.seq (.af [U 11 1,U 12 0,U 13 5,q4 14 12 13,a7 15 14,⟨some 16,.qc (.t 11) [(.t 15)],none,[11,15]⟩])
 (.cond (.t 16)
 (.seq (.af [U 17 5,U 4 17])
 (.ret))
 (.skip)))))
 (.af [eK 18 8 1,U 8 18])))
def MR:bD:=
 .seq (.af [ca 4 0])
 (.seq (.seq (.af [U 6 0,eF 7 6,ca 8 0])
 (.block 0 (.loop MS)))
 (.seq (.af [⟨some 4,.bk (.c (.int .i64 (-1))),none,[]⟩])
 (.ret)))
theorem Xv:cb 111 19 Tryz.f111 MR [.t 4]:=⟨Tryz.func111,by kernel_rfl⟩
def MY:bD:=
 .seq (.af [fL 2 0,e2 4])
 (.seq (.seq (.af [dT 5 2,a7 6 5,bo 7 6 5])
 (.cond (.t 7)
 (.seq (.af [U 8 1,fV 9 2,a7 10 9,C' 11 10,C_ 12 8 11,U 4 12])
 (.ret))
 (.skip)))
 (.seq (.af [U 13 1,fV 14 2,a7 15 14,C_ 16 13 15,U 4 16])
 (.ret)))
theorem Xz:cb 121 17 Tryz.f121 MY [.t 4]:=⟨Tryz.func121,by kernel_rfl⟩
def N4:bD:=
 .seq (.af [jw 0])
 (.seq (.af [LN 1,U 0 1])
 (.ret))
theorem Yi:cb 54 2 Tryz.f54 N4 [.t 0]:=⟨Tryz.func54,by kernel_rfl⟩
def N8:bD:=
 .seq (.seq (.af [U 6 5,U 7 1,eF 8 7,fQ 9 6 8])
 (.cond (.t 9)
 (.skip)
 (.exit 0)))
 (.seq (.block 1 (.seq (.af [U 12 1,U 13 5,q4 14 12 13,a7 15 14,U 16 0,C_ 17 15 16])
 (.cond (.t 17)
 (.seq (.af [xH 4])
 (.ret))
 (.skip))))
 (.af [U 10 5,eK 11 10 1,U 5 11]))
def N7:bD:=
 .seq (.af [e2 4])
 (.seq (.seq (.af [ca 5 0])
 (.block 0 (.loop N8)))
 (.seq (.af [e2 4])
 (.ret)))
theorem Yl:cb 60 18 Tryz.f60 N7 [.t 4]:=⟨Tryz.func60,by kernel_rfl⟩
def N9:bD:=
 .seq (.af [jw 0])
 (.seq (.af [⟨some 1,.e4 20 1 [(.str [])] [(0,1,(.c (.str [97,110,100]))),(1,1,(.c (.str [98,101,103,105,110]))),(2,1,(.c (.str [101,108,115,101]))),(3,1,(.c (.str [101,110,100]))),(4,1,(.c (.str [101,120,99,101,112,116,105,111,110]))),(5,1,(.c (.str [102,97,108,115,101]))),(6,1,(.c (.str [102,117,110]))),(7,1,(.c (.str [105,102]))),(8,1,(.c (.str [105,110]))),(9,1,(.c (.str [108,101,116]))),(10,1,(.c (.str [109,97,116,99,104]))),(11,1,(.c (.str [109,111,100]))),(12,1,(.c (.str [111,102]))),(13,1,(.c (.str [114,97,105,115,101]))),(14,1,(.c (.str [114,101,99]))),(15,1,(.c (.str [116,104,101,110]))),(16,1,(.c (.str [116,114,117,101]))),(17,1,(.c (.str [116,114,121]))),(18,1,(.c (.str [116,121,112,101]))),(19,1,(.c (.str [119,105,116,104])))],none,[]⟩,U 0 1])
 (.ret))
theorem Ym:cb 61 2 Tryz.f61 N9 [.t 0]:=⟨Tryz.func61,by kernel_rfl⟩
def OF:bD:=
 .seq (.af [e2 2])
 (.seq (.af [U 3 0,eL 4 3 112,U 5 4,gj 6 0 5,vh 7 6 5 89,fk 8 5 7,U 9 8,gj 10 0 9,vh 11 10 9 90,fk 12 9 11,U 13 12,gj 14 0 13,q3 15 14 13 95,fk 16 13 15,U 17 16,gj 18 0 17,q3 19 18 17 39,fk 20 17 19,U 2 20])
 (.ret))
theorem YO:cb 88 21 Tryz.f88 OF [.t 2]:=⟨Tryz.func88,by kernel_rfl⟩
def OG:bD:=
 .seq (.af [e2 2])
 (.seq (.af [U 3 0,C5 4 3 97,U 5 4,fB 6 0 5,C7 7 6 5 122,er 8 5 7,U 2 8])
 (.ret))
theorem YP:cb 89 9 Tryz.f89 OG [.t 2]:=⟨Tryz.func89,by kernel_rfl⟩
def OI:bD:=
 .seq (.af [e2 2])
 (.seq (.af [U 3 0,C5 4 3 65,U 5 4,fB 6 0 5,C7 7 6 5 90,er 8 5 7,U 2 8])
 (.ret))
theorem YR:cb 90 9 Tryz.f90 OI [.t 2]:=⟨Tryz.func90,by kernel_rfl⟩
def OL:bD:=
 .seq (.af [e2 2])
 (.seq (.af [U 3 0,Dj 4 3 97 97 122,U 5 4,gj 6 0 5,⟨some 7,.call 97 [(.t 6),(.c (.int .u8 65)),(.c (.int .u8 90))],(some (5,false)),[6,5]⟩,fk 8 5 7,U 9 8,gj 10 0 9,⟨some 11,.call 97 [(.t 10),(.c (.int .u8 48)),(.c (.int .u8 57))],(some (9,false)),[10,9]⟩,fk 12 9 11,U 13 12,gj 14 0 13,q3 15 14 13 95,fk 16 13 15,U 17 16,gj 18 0 17,q3 19 18 17 39,fk 20 17 19,U 2 20])
 (.ret))
theorem YT:cb 96 21 Tryz.f96 OL [.t 2]:=⟨Tryz.func96,by kernel_rfl⟩
def OM:bD:=
 .seq (.af [e2 6])
 (.seq (.af [U 7 0,U 8 1,xx 9 7 8,U 10 9,fB 11 0 10,fB 12 2 10,⟨some 13,.bin (.int .leq) (.t 11) (.t 12),(some (10,true)),[11,12,10]⟩,er 14 10 13,U 6 14])
 (.ret))
theorem YU:cb 97 15 Tryz.f97 OM [.t 6]:=⟨Tryz.func97,by kernel_rfl⟩
def MT:bD:=
 .seq (.af [e2 2])
 (.seq (.af [U 3 0,C5 4 3 48,U 5 4,fB 6 0 5,C7 7 6 5 57,er 8 5 7,U 2 8])
 (.ret))
theorem Xw:cb 112 9 Tryz.f112 MT [.t 2]:=⟨Tryz.func112,by kernel_rfl⟩
def MX:bD:=
 .block 1 (.seq (.af [U 24 5,dA 25 24,c4 26 25,a7 27 26,U 7 27])
 (.seq (.block 2 (.seq (.af [U 37 7,U 38 0,kq 39 38,xx 40 37 39,U 36 40])
 (.cond (.t 36)
 (.exit 0)
 (.seq (.af [U 42 0,U 43 7,Ah 44 42 43,⟨some 45,.call 134 [(.c (.str [9,10,13,32])),(.t 44)],none,[44]⟩,lS 46 45 0,U 41 46])
 (.cond (.t 41)
 (.af [U 47 5,dA 48 47,c4 49 48,a7 50 49,eK 51 50 1,dA 52 47,c4 53 52,⟨none,.st 1 (.t 53) (.t 51),none,[53,51]⟩])
 (.seq (.af [U 55 5,⟨some 56,.call 135 [(.t 55),(.c (.str [40,42]))],none,[55]⟩,U 54 56])
 (.cond (.t 54)
 (.af [U 57 5,eL 58 57 136])
 (.seq (.af [U 28 5,eL 29 28 137,xI 8,⟨none,.st 4 (.t 8) (.t 29),none,[8,29]⟩])
 (.seq (.af [U 30 7,oI 31 8,⟨none,.st 1 (.t 31) (.t 30),none,[31,30]⟩])
 (.af [U 32 6,vi 33 8,vg 34 33,ve 35 32 34,U 6 35]))))))))))
 (.seq (.af [U 59 5,dA 60 59,oI 61 60,a7 62 61,tm 63 62 0])
 (.cond (.t 63)
 (.seq (.draw [U 64 5,dA 65 64,oI 66 65,a7 67 66,U 68 7,⟨some 69,.build [(.int .i64 0),(.int .i64 0)] [(0,1,(.t 67)),(1,1,(.t 68))],none,[67,68]⟩,jw 2,⟨none,.st 2 (.t 3) (.t 69),none,[3,69]⟩] [(3,[7])])
 (.ret))
 (.skip)))))
def MW:bD:=
 .seq (.af [jw 2,⟨some 3,.new [(.int .i64 0),(.int .i64 0)],none,[]⟩])
 (.seq (.seq (.af [U 9 0,kq 10 9,kp 11 10 65536])
 (.cond (.t 11)
 (.seq (.af [⟨some 12,.build [(.int .i64 0),(.int .i64 0)] [(0,1,(.c (.int .i64 3)))],none,[]⟩,jw 2,⟨none,.st 2 (.t 3) (.t 12),none,[3,12]⟩])
 (.ret))
 (.skip)))
 (.seq (.seq (.af [U 13 0,eL 14 13 133,U 4 14])
 (.seq (.af [U 15 4,U 16 0,kq 17 16,fQ 18 15 17])
 (.cond (.t 18)
 (.seq (.af [U 19 4,⟨some 20,.build [(.int .i64 0),(.int .i64 0)] [(0,1,(.c (.int .i64 250))),(1,1,(.t 19))],none,[19]⟩,jw 2,⟨none,.st 2 (.t 3) (.t 20),none,[3,20]⟩])
 (.ret))
 (.skip))))
 (.seq (.af [U 21 0,⟨some 22,.build [(.str []),(.int .i64 0),(.int .i64 0)] [(0,1,(.t 21))],none,[21]⟩,fL 23 22,U 5 23])
 (.seq (.af [jw 6])
 (.seq (.skip)
 (.seq (.block 0 (.loop MX))
 (.seq (.af [U 70 6,⟨some 71,.build [(.int .i64 0),(.int .i64 0)] [],none,[]⟩,U 2 70,⟨none,.st 2 (.t 3) (.t 71),none,[3,71]⟩])
 (.ret))))))))
theorem Xy:cb 120 72 Tryz.f120 MW [.t 2,.vy 3 2]:=⟨Tryz.func120,by kernel_rfl⟩
def MZ:bD:=
 .seq (.af [ca 4 0])
 (.seq (.af [U 5 0,U 6 1,cq 7 5 6 138,U 4 7])
 (.ret))
theorem XA:cb 124 8 Tryz.f124 MZ [.t 4]:=⟨Tryz.func124,by kernel_rfl⟩
def M4:bD:=
 .seq (.af [⟨some 9,.zk (.t 8),none,[8]⟩,k4 10 9])
 (.seq (.cond (.t 10)
 (.skip)
 (.exit 0))
 (.block 1 (.seq (.af [k5 11 9,⟨some 12,.ext (.t 9) 2,none,[9]⟩,U 3 11,U 4 12])
 (.seq (.af [U 13 4,⟨some 14,.bin (.int .eql) (.t 13) (.c (.int .i32 65533)),none,[13]⟩])
 (.cond (.t 14)
 (.seq (.af [U 16 0,U 17 3,GK 18 16 17,eL 19 18 142,U 15 19,k4 20 15,k5 21 15,U 5 20,U 6 21])
 (.seq (.af [U 22 6,bo 23 22 1])
 (.cond (.t 23)
 (.seq (.af [U 24 3,U 2 24])
 (.ret))
 (.skip))))
 (.skip))))))
def M3:bD:=
 .seq (.af [ca 2 0])
 (.seq (.seq (.af [U 7 0,⟨some 8,.zx (.t 7),none,[7]⟩])
 (.block 0 (.loop M4)))
 (.seq (.af [U 25 0,kq 26 25,U 2 26])
 (.ret)))
theorem XC:cb 133 27 Tryz.f133 M3 [.t 2]:=⟨Tryz.func133,by kernel_rfl⟩
def M5:bD:=
 .seq (.af [ca 4 0])
 (.seq (.af [U 5 0,U 6 1,cq 7 5 6 124,U 4 7])
 (.ret))
theorem XD:cb 134 8 Tryz.f134 M5 [.t 4]:=⟨Tryz.func134,by kernel_rfl⟩
def M6:bD:=
 .seq (.af [e2 4])
 (.seq (.draw [U 5 0,dA 6 5,dT 7 6,a7 8 7,U 9 0,dA 10 9,c4 11 10,a7 12 11,GK 13 8 12,U 14 1,cq 15 13 14 143,U 4 15] [(3,[10]),(7,[10])])
 (.ret))
theorem XE:cb 135 16 Tryz.f135 M6 [.t 4]:=⟨Tryz.func135,by kernel_rfl⟩
def M8:bD:=
 .block 1 (.block 2 (.seq (.draw [U 11 0,dA 12 11,c4 13 12,a7 14 13,U 15 0,dA 16 15,dT 17 16,a7 18 17,kq 19 18,xx 20 14 19,U 10 20] [])
 (.cond (.t 10)
 (.seq (.af [U 21 0,dA 22 21,oI 23 22,⟨none,.st 1 (.t 23) (.c (.int .i64 253)),none,[23]⟩])
 (.ret))
 (.seq (.af [U 25 0,⟨some 26,.call 135 [(.t 25),(.c (.str [40,42]))],none,[25]⟩,U 24 26])
 (.cond (.t 24)
 (.seq (.af [U 27 2,eK 28 27 1,U 2 28])
 (.af [U 29 0,dA 30 29,c4 31 30,a7 32 31,eK 33 32 2,dA 34 29,c4 35 34,⟨none,.st 1 (.t 35) (.t 33),none,[35,33]⟩]))
 (.seq (.af [U 37 0,⟨some 38,.call 135 [(.t 37),(.c (.str [42,41]))],none,[37]⟩,U 36 38])
 (.cond (.t 36)
 (.seq (.af [U 39 2,vf 40 39 1,U 2 40])
 (.seq (.af [U 41 0,dA 42 41,c4 43 42,a7 44 43,eK 45 44 2,dA 46 41,c4 47 46,⟨none,.st 1 (.t 47) (.t 45),none,[47,45]⟩])
 (.seq (.af [U 48 2,bo 49 48 0])
 (.cond (.t 49)
 (.ret)
 (.skip)))))
 (.af [U 3 0,dA 4 3,c4 5 4,a7 6 5,eK 7 6 1,dA 8 3,c4 9 8,⟨none,.st 1 (.t 9) (.t 7),none,[9,7]⟩]))))))))
def M7:bD:=
 .seq (.af [ca 2 0])
 (.block 0 (.loop M8))
theorem XF:cb 136 50 Tryz.f136 M7 []:=⟨Tryz.func136,by kernel_rfl⟩
def M':bD:=
 .seq (.af [fQ 80 79 78])
 (.seq (.cond (.t 80)
 (.skip)
 (.exit 1))
 (.seq (.block 2 (.seq (.af [q4 81 77 79,a7 82 81,U 5 82])
 (.seq (.af [U 83 0,U 84 5,cq 85 83 84 135])
 (.cond (.t 85)
 (.seq (.af [U 86 0,dA 87 86,c4 88 87,a7 89 88,U 90 5,kq 91 90,Ac 92 89 91,dA 93 86,c4 94 93,⟨none,.st 1 (.t 94) (.t 92),none,[94,92]⟩])
 (.seq (.af [U 95 5,Dd 96 95 7,⟨none,.st 4 (.t 2) (.t 96),none,[2,96]⟩])
 (.ret)))
 (.skip)))))
 (.af [eK 97 79 1,U 79 97])))
def M9:bD:=
 .seq (.af [xI 2])
 (.seq (.draw [U 6 0,dA 7 6,dT 8 7,a7 9 8,U 10 0,dA 11 10,c4 12 11,a7 13 12,Ah 14 9 13,U 3 14] [])
 (.seq (.block 0 (.seq (.af [U 16 3,eL 17 16 112,U 15 17])
 (.cond (.t 15)
 (.seq (.af [U 18 0,eL 19 18 144,⟨none,.st 4 (.t 2) (.t 19),none,[2,19]⟩])
 (.ret))
 (.seq (.af [U 21 3,xw 22 21 34,U 20 22])
 (.cond (.t 20)
 (.seq (.af [U 23 0,eL 24 23 145,⟨none,.st 4 (.t 2) (.t 24),none,[2,24]⟩])
 (.ret))
 (.seq (.af [U 26 3,eL 27 26 89,U 28 27,gj 29 3 28,q3 30 29 28 95,fk 31 28 30,U 25 31])
 (.cond (.t 25)
 (.seq (.af [U 32 0,Di 33 32 146 3,⟨none,.st 4 (.t 2) (.t 33),none,[2,33]⟩])
 (.ret))
 (.seq (.af [U 35 3,eL 36 35 90,U 34 36])
 (.cond (.t 34)
 (.seq (.af [U 37 0,Di 38 37 146 4,⟨none,.st 4 (.t 2) (.t 38),none,[2,38]⟩])
 (.ret))
 (.seq (.draw [U 40 3,xw 41 40 39,U 42 41,fB 43 0 42,xJ 44 43 42,p7 45 44 42,fu 46 45 42,⟨some 47,.bin (.int .add) (.t 46) (.c (.int .i64 1)),(some (42,true)),[46,42]⟩,fB 48 0 42,xJ 49 48 42,r6 50 49 42,fu 51 50 42,Ai 52 51 42,⟨some 53,.bin (.int .lss) (.t 47) (.t 52),(some (42,true)),[47,52,42]⟩,er 54 42 53,U 55 54,fB 56 0 55,xJ 57 56 55,r6 58 57 55,fu 59 58 55,fB 60 0 55,xJ 61 60 55,p7 62 61 55,fu 63 62 55,⟨some 64,.bin (.int .add) (.t 63) (.c (.int .i64 1)),(some (55,true)),[63,55]⟩,⟨some 65,.oj (.t 59) (.t 64),(some (55,true)),[59,64,55]⟩,Dk 66 65 55 89,er 67 55 66,U 39 67] [(6,[26]),(11,[26]),(19,[26]),(23,[26])])
 (.cond (.t 39)
 (.seq (.af [U 68 0,dA 69 68,c4 70 69,a7 71 70,eK 72 71 1,dA 73 68,c4 74 73,⟨none,.st 1 (.t 74) (.t 72),none,[74,72]⟩])
 (.seq (.af [U 75 0,Di 76 75 146 5,⟨none,.st 4 (.t 2) (.t 76),none,[2,76]⟩])
 (.ret)))
 (.skip))))))))))))
 (.seq (.seq (.af [⟨some 77,.call 54 [],none,[]⟩,eF 78 77,ca 79 0])
 (.block 1 (.loop M')))
 (.seq (.af [U 98 0,dA 99 98,oI 100 99,⟨none,.st 1 (.t 100) (.c (.int .i64 251)),none,[100]⟩])
 (.seq (.af [De 101,⟨none,.st 4 (.t 2) (.t 101),none,[2,101]⟩])
 (.ret))))))
theorem XG:cb 137 102 Tryz.f137 M9 [.vy 2 4]:=⟨Tryz.func137,by kernel_rfl⟩
def Na:bD:=
 .seq (.af [e2 4])
 (.seq (.af [U 5 0,U 6 1,cq 7 5 6 148,U 4 7])
 (.ret))
theorem XI:cb 143 8 Tryz.f143 Na [.t 4]:=⟨Tryz.func143,by kernel_rfl⟩
def Nb:bD:=
 .seq (.af [xI 2])
 (.seq (.af [U 7 0,⟨some 8,.call 150 [(.t 7),(.c (.func 112 []))],none,[7]⟩,⟨some 9,.call 149 [(.t 8),(.c (.int .i64 10)),(.c (.int .i64 64))],none,[8]⟩,U 6 9,k4 10 6,k5 11 6,U 3 10,U 4 11])
 (.seq (.seq (.af [U 12 4,⟨some 13,.bin (.lX true 5) (.t 12) (.c .nilIface),none,[12]⟩,U 14 13,gj 15 3 14,⟨some 16,.bin (.int .gtr) (.t 15) (.c (.int .u64 2147483647)),(some (14,false)),[15,14]⟩,fk 17 14 16])
 (.cond (.t 17)
 (.seq (.af [U 18 0,dA 19 18,oI 20 19,⟨none,.st 1 (.t 20) (.c (.int .i64 254)),none,[20]⟩])
 (.seq (.af [De 21,⟨none,.st 4 (.t 2) (.t 21),none,[2,21]⟩])
 (.ret)))
 (.skip)))
 (.seq (.af [U 22 3,⟨some 23,.ia (.int .i64) (.t 22),none,[22]⟩,U 5 23])
 (.seq (.seq (.af [U 24 5,kp 25 24 1073741823])
 (.cond (.t 25)
 (.af [U 26 5,vf 27 26 2147483648,U 5 27])
 (.skip)))
 (.seq (.af [U 28 5,GG 29 28,⟨none,.st 4 (.t 2) (.t 29),none,[2,29]⟩])
 (.ret))))))
theorem XJ:cb 144 30 Tryz.f144 Nb [.vy 2 4]:=⟨Tryz.func144,by kernel_rfl⟩
def Nd:bD:=
 .seq (.seq (.af [U 12 0,dA 13 12,oI 14 13,a7 15 14,bo 16 15 0])
 (.cond (.t 16)
 (.skip)
 (.exit 0)))
 (.block 1 (.seq (.seq (.draw [U 17 0,dA 18 17,c4 19 18,a7 20 19,U 21 0,dA 22 21,dT 23 22,a7 24 23,kq 25 24,xx 26 20 25] [])
 (.cond (.t 26)
 (.seq (.af [U 27 0,dA 28 27,oI 29 28,⟨none,.st 1 (.t 29) (.c (.int .i64 252)),none,[29]⟩])
 (.exit 0))
 (.skip)))
 (.seq (.draw [U 30 0,dA 31 30,dT 32 31,a7 33 32,U 34 0,dA 35 34,c4 36 35,a7 37 36,Ah 38 33 37,U 4 38] [])
 (.block 2 (.seq (.af [U 51 4,xw 52 51 34,U 50 52])
 (.cond (.t 50)
 (.seq (.af [U 53 0,dA 54 53,c4 55 54,a7 56 55,eK 57 56 1,dA 58 53,c4 59 58,⟨none,.st 1 (.t 59) (.t 57),none,[59,57]⟩])
 (.seq (.seq (.af [U 60 3,eF 61 60,kp 62 61 4096])
 (.cond (.t 62)
 (.af [U 63 0,dA 64 63,oI 65 64,⟨none,.st 1 (.t 65) (.c (.int .i64 255)),none,[65]⟩])
 (.skip)))
 (.seq (.af [U 66 3,⟨some 67,.ia .str (.t 66),none,[66]⟩,Dd 68 67 2,⟨none,.st 4 (.t 2) (.t 68),none,[2,68]⟩])
 (.ret))))
 (.seq (.af [U 70 4,xw 71 70 92,U 69 71])
 (.cond (.t 69)
 (.af [U 72 3,U 73 0,eL 74 73 151,Da 75 74,lR 76 72 75,U 3 76])
 (.seq (.af [U 78 4,GA 79 78,U 80 79,gj 81 4 80,q3 82 81 80 127,fk 83 80 82,U 77 83])
 (.cond (.t 77)
 (.af [U 84 0,dA 85 84,oI 86 85,⟨none,.st 1 (.t 86) (.c (.int .i64 252)),none,[86]⟩])
 (.seq (.af [U 39 0,dA 40 39,c4 41 40,a7 42 41,eK 43 42 1,dA 44 39,c4 45 44,⟨none,.st 1 (.t 45) (.t 43),none,[45,43]⟩])
 (.af [U 46 3,U 47 4,Da 48 47,lR 49 46 48,U 3 49]))))))))))))
def Nc:bD:=
 .seq (.af [xI 2])
 (.seq (.af [U 5 0,dA 6 5,c4 7 6,a7 8 7,eK 9 8 1,dA 10 5,c4 11 10,⟨none,.st 1 (.t 11) (.t 9),none,[11,9]⟩])
 (.seq (.af [jw 3])
 (.seq (.block 0 (.loop Nd))
 (.seq (.af [De 87,⟨none,.st 4 (.t 2) (.t 87),none,[2,87]⟩])
 (.ret)))))
theorem XK:cb 145 88 Tryz.f145 Nc [.vy 2 4]:=⟨Tryz.func145,by kernel_rfl⟩
def Nf:bD:=
 .seq (.af [xI 4])
 (.seq (.af [U 6 0,⟨some 7,.call 150 [(.t 6),(.c (.func 88 []))],none,[6]⟩,U 5 7])
 (.seq (.block 0 (.seq (.af [U 9 1,bo 10 9 3,U 11 10,fB 12 5 11,⟨some 13,.bin (.str .eql) (.t 12) (.c (.str [95])),(some (11,true)),[12,11]⟩,er 14 11 13,U 8 14])
 (.cond (.t 8)
 (.seq (.af [U 15 5,Dd 16 15 7,⟨none,.st 4 (.t 4) (.t 16),none,[4,16]⟩])
 (.ret))
 (.seq (.af [U 18 1,bo 19 18 3,U 20 19,fB 21 5 20,GC 22 21 20,GB 23 22 20,GJ 24 23 20,er 25 20 24,U 17 25])
 (.cond (.t 17)
 (.seq (.af [U 26 5,Dd 27 26 6,⟨none,.st 4 (.t 4) (.t 27),none,[4,27]⟩])
 (.ret))
 (.seq (.af [U 29 5,kq 30 29,kp 31 30 64,U 28 31])
 (.cond (.t 28)
 (.af [U 32 0,dA 33 32,oI 34 33,⟨none,.st 1 (.t 34) (.c (.int .i64 255)),none,[34]⟩])
 (.skip))))))))
 (.seq (.af [U 35 1,U 36 5,Ae 37 35 36,⟨none,.st 4 (.t 4) (.t 37),none,[4,37]⟩])
 (.ret))))
theorem XL:cb 146 38 Tryz.f146 Nf [.vy 4 4]:=⟨Tryz.func146,by kernel_rfl⟩
def Ng:bD:=
 .seq (.af [e2 4])
 (.seq (.af [U 5 0,kq 6 5,U 7 1,kq 8 7,xx 9 6 8,U 10 9,fB 11 0 10,fB 12 1 10,Ai 13 12 10,⟨some 14,.qS (.t 11) none (some (.t 13)) none,(some (10,true)),[11,13,10]⟩,fB 15 1 10,⟨some 16,.bin (.str .eql) (.t 14) (.t 15),(some (10,true)),[14,15,10]⟩,er 17 10 16,U 4 17])
 (.ret))
theorem XM:cb 148 18 Tryz.f148 Ng [.t 4]:=⟨Tryz.func148,by kernel_rfl⟩
def Ni:bD:=
 .seq (.seq (.draw [U 10 0,dA 11 10,c4 12 11,a7 13 12,U 14 0,dA 15 14,dT 16 15,a7 17 16,kq 18 17,fQ 19 13 18,U 20 19,fB 21 1 20,fB 22 0 20,xJ 23 22 20,r6 24 23 20,fu 25 24 20,fB 26 0 20,xJ 27 26 20,p7 28 27 20,fu 29 28 20,⟨some 30,.oj (.t 25) (.t 29),(some (20,true)),[25,29,20]⟩,⟨some 31,.qc (.t 21) [(.t 30)],(some (20,true)),[21,30,20]⟩,er 32 20 31] [(3,[21]),(7,[21]),(15,[21]),(19,[21])])
 (.cond (.t 32)
 (.skip)
 (.exit 0)))
 (.block 1 (.af [U 33 0,dA 34 33,c4 35 34,a7 36 35,eK 37 36 1,dA 38 33,c4 39 38,⟨none,.st 1 (.t 39) (.t 37),none,[39,37]⟩]))
def Nh:bD:=
 .seq (.af [mA 4])
 (.seq (.af [U 6 0,dA 7 6,c4 8 7,a7 9 8,U 5 9])
 (.seq (.block 0 (.loop Ni))
 (.seq (.draw [U 40 0,dA 41 40,dT 42 41,a7 43 42,U 44 5,U 45 0,dA 46 45,c4 47 46,a7 48 47,⟨some 49,.qS (.t 43) (some (.t 44)) (some (.t 48)) none,none,[43,44,48]⟩,U 4 49] [])
 (.ret))))
theorem XN:cb 150 50 Tryz.f150 Nh [.t 4]:=⟨Tryz.func150,by kernel_rfl⟩
def Nj:bD:=
 .seq (.af [⟨some 2,.bk (.c (.int .u8 0)),none,[]⟩])
 (.seq (.af [U 7 0,dA 8 7,c4 9 8,a7 10 9,eK 11 10 1,dA 12 7,c4 13 12,⟨none,.st 1 (.t 13) (.t 11),none,[13,11]⟩])
 (.seq (.draw [U 14 0,dA 15 14,dT 16 15,a7 17 16,U 18 0,dA 19 18,c4 20 19,a7 21 20,GK 22 17 21,U 3 22] [])
 (.seq (.seq (.af [U 23 3,⟨some 24,.bin (.str .neq) (.t 23) (.c (.str [])),none,[23]⟩])
 (.cond (.t 24)
 (.seq (.af [U 25 3,tp 26 25,⟨some 27,.call 134 [(.c (.str [110,116,34,92])),(.t 26)],none,[26]⟩,U 4 27])
 (.seq (.af [U 28 4,lS 29 28 0])
 (.cond (.t 29)
 (.seq (.af [U 30 0,dA 31 30,c4 32 31,a7 33 32,eK 34 33 1,dA 35 30,c4 36 35,⟨none,.st 1 (.t 36) (.t 34),none,[36,34]⟩])
 (.seq (.af [U 37 4,⟨some 38,.oj (.c (.str [10,9,34,92])) (.t 37),none,[37]⟩,U 2 38])
 (.ret)))
 (.skip))))
 (.skip)))
 (.seq (.seq (.af [U 39 3,kq 40 39,lS 41 40 3,U 42 41,fB 43 3 42,C1 44 43 42 0,Dk 45 44 42 112,er 46 42 45,U 47 46,fB 48 3 47,C1 49 48 47 1,Dk 50 49 47 112,er 51 47 50,U 52 51,fB 53 3 52,C1 54 53 52 2,Dk 55 54 52 112,er 56 52 55])
 (.cond (.t 56)
 (.seq (.af [U 58 3,⟨some 59,.qS (.t 58) none (some (.c (.int .i64 3))) none,none,[58]⟩,eL 60 59 154,U 57 60,k4 61 57,k5 62 57,U 5 61,U 6 62])
 (.seq (.af [U 63 5,p6 64 63 256])
 (.cond (.t 64)
 (.seq (.af [U 65 0,dA 66 65,c4 67 66,a7 68 67,eK 69 68 3,dA 70 65,c4 71 70,⟨none,.st 1 (.t 71) (.t 69),none,[71,69]⟩])
 (.seq (.af [U 72 5,⟨some 73,.ia (.int .u8) (.t 72),none,[72]⟩,U 2 73])
 (.ret)))
 (.skip))))
 (.skip)))
 (.seq (.af [U 74 0,dA 75 74,oI 76 75,⟨none,.st 1 (.t 76) (.c (.int .i64 252)),none,[76]⟩])
 (.seq (.af [⟨some 2,.bk (.c (.int .u8 0)),none,[]⟩])
 (.ret)))))))
theorem XO:cb 151 77 Tryz.f151 Nj [.t 2]:=⟨Tryz.func151,by kernel_rfl⟩
theorem mm {f:FuncId} {args:List V} {h:ah} {v:V} (c:b8 Tryz.prog f args h fun x ab=>x=v/\ab=h):ff Tryz.prog f args h v h:=by obtain ⟨x,ab,q,rfl,rfl⟩:=c;exact q
def nY (c:Int):Bool:=decide (48<=c)&&decide (c<=57)
def hg (c:Int):Bool:=decide (97<=c)&&decide (c<=122)
def n2 (c:Int):Bool:=decide (65<=c)&&decide (c<=90)
def rO (c:Int):Bool:=nY c||hg c||n2 c||decide (c=95)||decide (c=39)
def oE (c a b:Int):Bool:=decide (a<=c)&&decide (c<=b)
theorem x1 (c:Int) (h:ah):ff Tryz.prog 112 [.int .u8 c] h (.bool (nY c)) h:=by refine mm (Xw.z rfl (ck ?_));unfold MT;simp +contextual only [↓aa,ae,simprocAttr];rfl
theorem zF (c:Int) (h:ah):ff Tryz.prog 89 [.int .u8 c] h (.bool (hg c)) h:=by refine mm (YP.z rfl (ck ?_));unfold OG;simp +contextual only [↓aa,ae,simprocAttr];rfl
theorem H8 (c:Int) (h:ah):ff Tryz.prog 90 [.int .u8 c] h (.bool (n2 c)) h:=by refine mm (YR.z rfl (ck ?_));unfold OI;simp +contextual only [↓aa,ae,simprocAttr];rfl
theorem zQ (c a b:Int) (h:ah):ff Tryz.prog 97 [.int .u8 c,.int .u8 a,.int .u8 b] h (.bool (oE c a b)) h:=by refine mm (YU.z rfl (ck ?_));unfold OM;simp +contextual only [↓aa,ae,simprocAttr];rfl
theorem ab2 (s p:List UInt8) (h:ah):ff Tryz.prog 148 [.str s,.str p] h (.bool (p.isPrefixOf s)) h:=by
 refine mm (XM.z rfl (ck ?_));unfold Ng;have a6:(0<=(p.length:Int))=True:=anJ (by omega);by_cases aw:p.length<=s.length
 . have J:((p.length:Int)<=(s.length:Int))=True:=anJ (by omega);simp +contextual only [a6,J,anI,↓aa,ae,simprocAttr];rw [aon,anM,aph,List.prefix_iff_eq_take];exact ⟨fun e=>e.symm,fun e=>e.symm⟩
 . have J:((p.length:Int)<=(s.length:Int))=False:=anA (by omega);simp +contextual only [a6,J,anI,↓aa,ae,simprocAttr];rw [eq_comm,<-aof,aph];exact fun e=>aw e.length_le
theorem ab1 (s p:List UInt8) (h:ah):ff Tryz.prog 143 [.str s,.str p] h (.bool (p.isPrefixOf s)) h:=by refine mm (XI.z rfl (ck ?_));unfold Na;simp +contextual only [↓aa,ae,simprocAttr];refine ey (ab2 s p h) ?_;simp +contextual only [↓aa,ae,simprocAttr]
theorem So (c:Int) (h:ah):ff Tryz.prog 88 [.int .u8 c] h (.bool (rO c)) h:=by refine mm (YO.z rfl (ck ?_));unfold OF;simp +contextual only [↓aa,ae,simprocAttr];refine ey (x1 c h) ?_;simp +contextual only [↓aa,ae,simprocAttr];refine Ea (.bool (hg c)) (fun ao=>by simp only [ao,↓aa,ae,simprocAttr];exact zF _ _) ?_;simp +contextual only [↓aa,ae,simprocAttr];refine Ea (.bool (n2 c)) (fun ao=>by simp only [ao,↓aa,ae,simprocAttr];exact H8 _ _) ?_;simp +contextual only [↓aa,ae,simprocAttr];rfl
theorem VP (c:Int) (h:ah):ff Tryz.prog 96 [.int .u8 c] h (.bool (oE c 97 122||oE c 65 90||oE c 48 57||decide (c=95)||decide (c=39))) h:=by refine mm (YT.z rfl (ck ?_));unfold OL;simp +contextual only [↓aa,ae,simprocAttr];refine ey (zQ c _ _ h) ?_;simp +contextual only [↓aa,ae,simprocAttr];refine Ea (.bool (oE c 65 90)) (fun ao=>by simp only [ao,↓aa,ae,simprocAttr];exact zQ _ _ _ _) ?_;simp +contextual only [↓aa,ae,simprocAttr];refine Ea (.bool (oE c 48 57)) (fun ao=>by simp only [ao,↓aa,ae,simprocAttr];exact zQ _ _ _ _) ?_;simp +contextual only [↓aa,ae,simprocAttr]
theorem Io (s p:List UInt8) (at':Int) (rest:List V) (b:aU) (cH:Nat) (st:Bool) (h:ah) (aj:h.get b=.a_ (.str s::.int .i64 at'::rest) cH st) (a6:0<=at') (J:at'<=s.length):
 ff Tryz.prog 135 [.ptr b 0,.str p] h (.bool (p.isPrefixOf (s.drop at'.toNat))) h:=by
 refine mm (XE.z rfl (ck ?_));unfold M6;have f0:(0<=at')=True:=anJ a6;have f1:(at'<=(s.length:Int))=True:=anJ J;simp +contextual only [aj,f0,f1,↓aa,ae,simprocAttr];refine ey (ab1 _ p h) ?_;simp +contextual only [aj,f0,f1,↓aa,ae,simprocAttr]
def jm:List UInt8->Int->Option Nat
 | [],_=>none
 | [_],_=>none
 | x::y::r,d=>if x=40/\y=42 then (jm r (d+1)).map (· +2) else if x=42/\y=41 then (if d-1=0 then some 2 else (jm r (d-1)).map (· +2)) else (jm (y::r) d).map (· +1)
theorem ahZ (r:List UInt8) (d:Int) (h:r≠[]):jm r d=if ([40,42]:List UInt8).isPrefixOf r=true then (jm (r.drop 2) (d+1)).map (· +2) else
 if ([42,41]:List UInt8).isPrefixOf r=true then (if d-1=0 then some 2 else (jm (r.drop 2) (d-1)).map (· +2)) else (jm (r.drop 1) d).map (· +1):=by
 match r,h with
 | [x],_=>simp [jm,List.isPrefixOf]
 | x::y::r,_=>
   have al:(([40,42]:List UInt8).isPrefixOf (x::y::r)=true)=(x=40/\y=42):=by simp only [List.isPrefixOf,aoz,anu,ao5];exact propext ⟨fun q=>⟨q.1.symm,q.2.symm⟩,fun q=>⟨q.1.symm,q.2.symm⟩⟩
   have aN:(([42,41]:List UInt8).isPrefixOf (x::y::r)=true)=(x=42/\y=41):=by simp only [List.isPrefixOf,aoz,anu,ao5];exact propext ⟨fun q=>⟨q.1.symm,q.2.symm⟩,fun q=>⟨q.1.symm,q.2.symm⟩⟩
   rw [jm];simp only [al,aN,aoM,aok]
theorem TD {a b:UInt8} {r:List UInt8} (h:([a,b]:List UInt8).isPrefixOf r=true):2<=r.length:=by rw [aph] at h;simpa using h.length_le
def fS (s:List UInt8) (at' e:Int):cn:=.a_ [.str s,.int .i64 at',.int .i64 e] 0 false
theorem ah0 (s:List UInt8) (a0:Nat) (dI:Int) (b:aU) (h:ah) (aj:h.get b=fS s a0 dI) (a6:a0<=s.length) (aL:s.length<=100000) (hp:Old h b):
 b8 Tryz.prog 136 [.ptr b 0] h fun x ab=>x=.tuple []/\Mod (fun x=>x=b) h ab/\(match jm (s.drop a0) 0 with
  | some n=>ab.get b=fS s ((a0+n:Nat):Int) dI/\a0+n<=s.length
  | none=>ab.get b=fS s (s.length:Int) 253):=by
 refine XF.z rfl (ck ?_);unfold M7;unfold fS at aj ⊢;simp only [aj,↓aa,ae,simprocAttr]
 refine fE (fun r ab=>∃(a:Nat) (d:Int),a0<=a/\a<=s.length/\r 0=.ptr b 0/\r 2=.int .i64 d/\ab.get b=.a_ [.str s,.int .i64 a,.int .i64 dI] 0 false/\Mod (fun x=>x=b) h ab/\-(a:Int)<=d/\d<=a/\
  jm (s.drop a0) 0=(jm (s.drop a) d).map (· + (a-a0))) (fun r ab=>s.length - ((jL (ab.get b) 1).getD .bad).toN) ?_ ?_
 . refine ⟨a0,0,anD _,a6,?_⟩;simp only [↓aa,ae,simprocAttr];refine ⟨aj,Mod.refl _ _,by omega,by omega,?_⟩;rw [apf];cases jm (s.drop a0) 0<;>rfl
 . rintro r ab ⟨a,d,cC,bX,ba,dw,an,hm,d0,d1,bz⟩;unfold M8;by_cases gE:(s.length:Int)<=(a:Int)
   . have bF:a=s.length:=by omega
     have aX:jm (s.drop a) d=none:=by rw [bF,apD];rfl
     rw [aX] at bz;simp only [ba,dw,an,gE,↓aa,ae,simprocAttr];rw [bz];refine ⟨hm.set (fun _=>rfl) _,?_⟩;simp only [bF,Option.map_none,fh,an7]
   . have eC:s.drop a≠[]:=by
      intro q;rw [List.drop_eq_nil_iff] at q;omega
     have Bw:∀p,ff Tryz.prog 135 [.ptr b 0,.str p] ab (.bool (p.isPrefixOf (s.drop a))) ab:=fun p=>by have:=Io s p (a:Int) [.int .i64 dI] b 0 false ab an (by omega) (by omega);simpa using this
     have iC:=ahZ (s.drop a) d eC;simp only [ba,dw,an,gE,↓aa,ae,simprocAttr];refine ey (Bw _) ?_;cases lo:([40,42]:List UInt8).isPrefixOf (s.drop a) with
     | true=>
       have ad:=TD lo;rw [an1] at ad;rw [lo,anL rfl] at iC;have b4:IntKind.i64.wrap (d+1)=d+1:=wrap_i64 (by omega) (by omega);have b1:IntKind.i64.wrap ((a:Int)+2)=((a+2:Nat):Int):=by rw [wrap_i64 (by omega) (by omega)];rfl
       simp only [ba,dw,an,b4,b1,↓aa,ae,simprocAttr];refine ⟨⟨a+2,d+1,by omega,by omega,rfl,rfl,hm.set (fun _=>rfl) _,by omega,by omega,?_⟩,by omega⟩;rw [bz,iC,aoK,apM];congr 1;funext q;simp only [Function.comp];omega
     | false=>
       rw [lo,anE (by decide)] at iC;simp only [ba,dw,an,↓aa,ae,simprocAttr];refine ey (Bw _) ?_;cases iQ:([42,41]:List UInt8).isPrefixOf (s.drop a) with
       | true=>
         have ad:=TD iQ;rw [an1] at ad;rw [iQ,anL rfl] at iC;have b4:IntKind.i64.wrap (d-1)=d-1:=wrap_i64 (by omega) (by omega);have b1:IntKind.i64.wrap ((a:Int)+2)=((a+2:Nat):Int):=by rw [wrap_i64 (by omega) (by omega)];rfl
         by_cases aZ:d-1=0
         . rw [anL aZ] at iC;obtain rfl:d=1:=by omega
           have aB:IntKind.i64.wrap 0=0:=rfl;simp only [ba,dw,an,aB,b1,↓aa,ae,simprocAttr];rw [bz,iC];refine ⟨hm.set (fun _=>rfl) _,?_⟩;simp only [ao2,fh,an7];refine ⟨?_,by omega⟩;rw [show a0 + (2 + (a-a0))=a+2 from by omega]
         . rw [anE aZ] at iC;simp only [ba,dw,an,b4,b1,aZ,↓aa,ae,simprocAttr];refine ⟨⟨a+2,d-1,by omega,by omega,rfl,rfl,hm.set (fun _=>rfl) _,by omega,by omega,?_⟩,by omega⟩;rw [bz,iC,aoK,apM];congr 1;funext q;simp only [Function.comp];omega
       | false=>
         rw [iQ,anE (by decide)] at iC;have b1:IntKind.i64.wrap ((a:Int)+1)=((a+1:Nat):Int):=by rw [wrap_i64 (by omega) (by omega)];rfl
         simp only [ba,dw,an,b1,↓aa,ae,simprocAttr];refine ⟨⟨a+1,d,by omega,by omega,rfl,rfl,hm.set (fun _=>rfl) _,by omega,by omega,?_⟩,by omega⟩;rw [bz,iC,aoK,apM];congr 1;funext q;simp only [Function.comp];omega
theorem drop_cons {s:List UInt8} {a:Nat} (h:a<s.length):s.drop a=s[a]::s.drop (a+1):=anZ h
theorem UX (p:UInt8->Bool):∀l:List UInt8,(l.takeWhile p).length<=l.length
 | []=>by simp
 | x::l=>by
   simp only [ao0]
   split
   . simpa using UX p l
   . simp
theorem Um (s:List UInt8) (a0:Nat) (dI:Int) (b:aU) (g:FuncId) (p:Int->Bool) (h:ah) (aj:h.get b=fS s a0 dI) (a6:a0<=s.length) (aL:s.length<=100000) (bc:(g=4294967296)=False)
 (ak:∀c h,ff Tryz.prog g [.int .u8 c] h (.bool (p c)) h):
 b8 Tryz.prog 150 [.ptr b 0,.func g []] h fun x ab=>x=.str ((s.drop a0).takeWhile fun c=>p c.toNat)/\Mod (fun x=>x=b) h ab/\ab.get b=fS s ((a0 + ((s.drop a0).takeWhile fun c=>p c.toNat).length:Nat):Int) dI:=by
 refine XN.z rfl (ck ?_);unfold Nh;unfold fS at aj ⊢;simp only [aj,↓aa,ae,simprocAttr]
 refine fE (fun r ab=>∃(a:Nat),a0<=a/\a<=s.length/\r 0=.ptr b 0/\r 1=.func g []/\r 5=.int .i64 a0/\ab.get b=.a_ [.str s,.int .i64 a,.int .i64 dI] 0 false/\Mod (fun x=>x=b) h ab/\
  ((s.drop a0).takeWhile fun c=>p c.toNat)=(s.drop a0).take (a-a0)++((s.drop a).takeWhile fun c=>p c.toNat)) (fun r ab=>s.length - ((jL (ab.get b) 1).getD .bad).toN) ?_ ?_
 . refine ⟨a0,anD _,a6,?_⟩;simp only [↓aa,ae,simprocAttr];refine ⟨aj,Mod.refl _ _,?_⟩;rw [apf];rfl
 . rintro r ab ⟨a,cC,bX,ba,bM,cW,an,hm,bz⟩;unfold Ni;have fin:((s.drop a).takeWhile fun c=>p c.toNat)=[]->V.str (((s.drop a0).take (a-a0)))=V.str ((s.drop a0).takeWhile fun c=>p c.toNat)/\Mod (fun x=>x=b) h ab/\cn.a_ [V.str s,V.int .i64 a,V.int .i64 dI] 0 false=cn.a_ [V.str s,V.int .i64 ((a0 + ((s.drop a0).takeWhile fun c=>p c.toNat).length:Nat):Int),V.int .i64 dI] 0 false:=by
    intro q;rw [q,an_] at bz;rw [bz,aod,an1];refine ⟨rfl,hm,?_⟩;rw [show a0+min (a-a0) (s.length-a0)=a from by omega]
   have f0:(0<=(a0:Int))=True:=anJ (by omega);have f1:((a0:Int)<=(a:Int))=True:=anJ (by omega);have f2:((a:Int)<=(s.length:Int))=True:=anJ (by omega);have f3:(0<=(a:Int))=True:=anJ (by omega);by_cases gE:(a:Int) < (s.length:Int)
   . have aH:a<s.length:=by omega
     rw [drop_cons aH,ao0] at bz fin;simp only [bc,an4,ba,bM,cW,an,gE,f0,f1,f2,f3,anv aH,anI,↓aa,ae,simprocAttr];refine ey (ak _ _) ?_;cases od:p ((s[a]).toNat:Int) with
     | true=>
       rw [od] at bz;have b1:IntKind.i64.wrap ((a:Int)+1)=((a+1:Nat):Int):=by rw [wrap_i64 (by omega) (by omega)];rfl
       simp only [od,ba,bM,cW,an,gE,f0,f1,f2,f3,b1,anv aH,anI,↓aa,ae,simprocAttr];refine ⟨⟨a+1,by omega,by omega,rfl,hm.set (fun _=>rfl) _,?_⟩,by omega⟩;rw [bz,anL rfl];have ps:a-a0 < (s.drop a0).length:=by rw [an1];omega
       rw [show a+1-a0=a-a0+1 from by omega,<-apn ps,anG];congr 1;rw [List.getElem_drop];simp only [show a0 + (a-a0)=a from by omega];rfl
     | false=>
       rw [od] at fin;simp only [od,ba,bM,cW,an,gE,f0,f1,f2,f3,anv aH,anI,↓aa,ae,simprocAttr];exact fin rfl
   . have bF:a=s.length:=by omega
     simp only [bc,an4,ba,bM,cW,an,gE,f0,f1,f2,f3,anI,↓aa,ae,simprocAttr];refine fin ?_;rw [bF,apD];rfl
end
end Go.Proofs.YtefceblncmdkhaaGreatDoor
