/- The chapter's functions, walked by the abstract machine: plain lemmas, no condition. Printed by a program from longer texts: names made short. -/
import Derived.Test.YtefceblncmdkhaaGreatDoorM5
import Derived.Test.YtefceblncmdkhaaGreatDoorM3
import Derived.Test.YtefceblncmdkhaaGreatDoorM4
import Derived.WalkSmall
import Derived.Shelf.Strings.Search3
import Derived.Shelf.Strings.OnBuilder
import Derived.Shelf.Strconv.Itoa3
import Derived.MakeChecks
import Derived.Shelf.Vars
import Derived.Lay
import Derived.LaidLaws
import Derived.Lib.LaidTab
import Derived.Lib.LaidU8T
import Derived.Test.YtefceblncmdkhaaGreatDoorRows
set_option linter.unusedSectionVars false
set_option linter.unusedSimpArgs false
set_option linter.unusedVariables false
set_option maxHeartbeats 64000000
noncomputable section
namespace Go.Proofs.YtefceblncmdkhaaGreatDoor
section
open Go bd
inductive aS where
 | mk (k n a:Int) (s:List UInt8) (l:List aS)
namespace aS
def k:aS->Int | mk k _ _ _ _=>k
def n:aS->Int | mk _ n _ _ _=>n
def a:aS->Int | mk _ _ a _ _=>a
def s:aS->List UInt8 | mk _ _ _ s _=>s
def l:aS->List aS | mk _ _ _ _ l=>l
end aS
mutual
def aS.size:aS->Nat
 | .mk _ _ _ _ l=>1+gg l
def gg:List aS->Nat
 | []=>0
 | t::l=>t.size+gg l
end
theorem rT {t:aS}:∀{l:List aS},t ∈ l->t.size<=gg l
 | [],h=>by cases h
 | u::l,h=>by
   simp only [gg];rcases ans.1 h with rfl | h
   . omega
   . have:=rT h;omega
theorem h1 {t u:aS} (h:u ∈ t.l):u.size<t.size:=by
 cases t with
 | mk k n a s l=>have:=rT h;simp only [aS.size];simp only [aS.l] at this;omega
theorem Fu:∀l:List aS,l.length<=gg l
 | []=>am6 _
 | t::l=>by have:=Fu l;have:1<=t.size:=by (cases t;simp only [aS.size];omega)
            simp only [gg,am0];omega
theorem w3 (t:aS):1<=t.size:=by cases t;simp only [aS.size];omega
mutual
def aS.enc:aS->List D
 | .mk k n a s l=>[.i .i64 k,.i .i64 n,.i .i64 a,.s s,.l 5 (Fm l)]
def Fm:List aS->List (List D)
 | []=>[]
 | t::l=>t.enc::Fm l
end
theorem S7:∀l:List aS,Fm l=l.map aS.enc
 | []=>rfl
 | t::l=>by rw [Fm,S7 l,anZ]
theorem Km (t:aS):t.enc=[.i .i64 t.k,.i .i64 t.n,.i .i64 t.a,.s t.s,.l 5 (t.l.map aS.enc)]:=by
 cases t with
 | mk k n a s l=>simp only [aS.enc,S7,aS.k,aS.n,aS.a,aS.s,aS.l]
mutual
def aS.deep:aS->Nat
 | .mk _ _ _ _ l=>jU l+1
def jU:List aS->Nat
 | []=>0
 | t::l=>max t.deep (jU l)
end
section
variable {F:aU->Prop} {h:ah} [Lay]
theorem aS.open {t:aS} {ai:List V} (H:cj F h t.enc ai):∃e3,ai=[.int .i64 t.k,.int .i64 t.n,.int .i64 t.a,.str t.s,e3]/\cq F h 5 (t.l.map aS.enc) e3/\t.s.length<=top:=by rw [Km] at H;obtain ⟨_,rfl,H1⟩:=H.int;obtain ⟨_,rfl,c6⟩:=H1.int;obtain ⟨_,rfl,Gk⟩:=c6.int;obtain ⟨_,rfl,aM,Gl⟩:=Gk.str;obtain ⟨e3,_,rfl,L,Gm⟩:=Gl.ek;obtain rfl:=Gm.no;exact ⟨e3,rfl,L,aM⟩
theorem aS.EG {l:List aS} {v:V} (H:cq F h 5 (l.map aS.enc) v) {k:IntKind} {i:Nat} (au:i<l.length):
 ∃b off e3,iL 5 v (.int k i)=some (.ptr b (off+i * 5))/\cj F h l[i].enc [.int .i64 l[i].k,.int .i64 l[i].n,.int .i64 l[i].a,.str l[i].s,e3]/\cq F h 5 (l[i].l.map aS.enc) e3/\
  ∀aa,Ext h aa->o2 5 (aa.get b) (off+i * 5)=some (.agg [.int .i64 l[i].k,.int .i64 l[i].n,.int .i64 l[i].a,.str l[i].s,e3]):=by
 obtain ⟨b,off,u,an,aN,cv,hh,_⟩:=H.at (k:=k) (i:=i) (by rw [anc];exact au);rw [List.getElem_map] at aN;obtain ⟨e3,rfl,L,_⟩:=aS.open aN;exact ⟨b,off,e3,an,aN,L,hh⟩
end
end
section
open Go bd Go.RowKit
theorem As {w:World} {p:Addr} {v:Value} (h:w.cell? p=some v):p.block<w.heap.size:=by
 unfold World.cell? at h;by_cases q:p.block<w.heap.size
 . exact q
 . rw [aoo (by omega)] at h;cases h
def xp (w:World) (g:Nat):Prop:=∃aV,w.cell? ⟨g,0,none⟩=some aV/\(aV=.nilIface\/∃ako S6,aV=.iface ako S6)
theorem xp.gp {w w':World} {g:Nat} (h:xp w g) (aj:Below w.heap.size w w'):xp w' g:=by obtain ⟨aV,J,ad⟩:=h;exact ⟨aV,by rw [aj.cell (As J)];exact J,ad⟩
structure GG (w:World):Prop where
 UL:Lib.Utf8Tabs 4 5 w
 maxLen:∃m,w.cell? ⟨0,0,none⟩=some (.int .i64 m)
 Pl:xp w 7
 Fs:Lib.TabIs Tryz.prog w "internal/strconv.uint64pow10" .u64 Lib.pow10Tab
instance lay:Lay where
 ok w:=GG w
 gp:=by
  intro w w' h aj;refine ⟨?_,?_,h.Pl.gp aj,?_⟩
  . obtain ⟨J,ad⟩:=h.UL;refine ⟨fun c ao=>?_,fun i au=>?_⟩
    . rw [aj.cell (As (J c ao))];exact J c ao
    . obtain ⟨ag,av⟩:=ad i au;rw [aj.cell (As ag),aj.cell (As av)];exact ⟨ag,av⟩
  . obtain ⟨m,q⟩:=h.maxLen;exact ⟨m,by rw [aj.cell (As q)];exact q⟩
  . have al:Tryz.prog.globalNamed "internal/strconv.uint64pow10"=some 1:=by kernel_rfl
    have ax:1<w.heap.size:=by
     have q:=h.Fs;unfold Lib.TabIs World.var? at q;rw [al] at q;by_cases aL:1<w.heap.size
     . exact aL
     . simp only [Option.bind_some] at q;rw [aoo (by omega)] at q;cases q
    exact var?_below aj al ax h.Fs
section
open Go.Shelf
def Tryz.agf:Go.Shelf.Ren:=⟨fun | 144=>52 | 143=>91 | 219=>113 | 217=>124 | 225=>125 | 224=>126 | 267=>127 | 266=>138 | 314=>139 | n=>n,fun | 9=>9 | 4=>4 | 3=>3 | 5=>5 | 46=>112 | 146=>135 | 51=>134 | n=>n,fun | 1=>0 | n=>n⟩
theorem Tryz.age:Go.Proofs.Lays.n144 Tryz.prog Tryz.agf:={
 mixed:=by kernel_rfl,
 f143:=Tryz.func91.trans (congrArg some (by kernel_rfl)),
 f144:=Tryz.func52.trans (congrArg some (by kernel_rfl)),
 f217:=Tryz.func124.trans (congrArg some (by kernel_rfl)),
 f219:=Tryz.func113.trans (congrArg some (by kernel_rfl)),
 f224:=Tryz.func126.trans (congrArg some (by kernel_rfl)),
 f225:=Tryz.func125.trans (congrArg some (by kernel_rfl)),
 f266:=Tryz.func138.trans (congrArg some (by kernel_rfl)),
 f267:=Tryz.func127.trans (congrArg some (by kernel_rfl)),
 f314:=Tryz.func139.trans (congrArg some (by kernel_rfl)),
 t3:=Tryz.underlying3,
 a3:=Tryz.isAgg3,
 z3:=Tryz.sizeOf3,
 v3:=Tryz.zeroValue3,
 t4:=Tryz.underlying4,
 a4:=Tryz.isAgg4,
 z4:=Tryz.sizeOf4,
 v4:=Tryz.zeroValue4,
 t5:=Tryz.underlying5,
 a5:=Tryz.isAgg5,
 z5:=Tryz.sizeOf5,
 v5:=Tryz.zeroValue5,
 t9:=Tryz.underlying9,
 a9:=Tryz.isAgg9,
 z9:=Tryz.sizeOf9,
 v9:=Tryz.zeroValue9,
 t46:=Tryz.underlying112,
 a46:=Tryz.isAgg112,
 z46:=Tryz.sizeOf112,
 v46:=Tryz.zeroValue112,
 t51:=Tryz.underlying134,
 a51:=Tryz.isAgg134,
 z51:=Tryz.sizeOf134,
 v51:=Tryz.zeroValue134,
 t146:=Tryz.underlying135,
 a146:=Tryz.isAgg135,
 z146:=Tryz.sizeOf135,
 v146:=Tryz.zeroValue135,
 g1:=by kernel_rfl}
def Tryz.RH:Go.Shelf.Ren:=⟨fun | 156=>31 | 165=>56 | 166=>57 | 169=>58 | 240=>94 | 241=>95 | 276=>118 | 277=>119 | n=>n,fun | 31=>59 | 9=>9 | 3=>3 | 4=>4 | 0=>0 | 20=>20 | 72=>81 | 76=>85 | 70=>79 | 37=>58 | 75=>84 | 127=>110 | 164=>126 | 5=>5 | 80=>87 | n=>n,fun | n=>n⟩
theorem Tryz.EK:Go.Proofs.Lays.n156 Tryz.prog Tryz.RH:={
 mixed:=by kernel_rfl,
 f156:=Tryz.func31.trans (congrArg some (by kernel_rfl)),
 f165:=Tryz.func56.trans (congrArg some (by kernel_rfl)),
 f166:=Tryz.func57.trans (congrArg some (by kernel_rfl)),
 f169:=Tryz.func58.trans (congrArg some (by kernel_rfl)),
 f240:=Tryz.func94.trans (congrArg some (by kernel_rfl)),
 f241:=Tryz.func95.trans (congrArg some (by kernel_rfl)),
 f276:=Tryz.func118.trans (congrArg some (by kernel_rfl)),
 f277:=Tryz.func119.trans (congrArg some (by kernel_rfl)),
 t0:=Tryz.underlying0,
 a0:=Tryz.isAgg0,
 z0:=Tryz.sizeOf0,
 v0:=Tryz.zeroValue0,
 t3:=Tryz.underlying3,
 a3:=Tryz.isAgg3,
 z3:=Tryz.sizeOf3,
 v3:=Tryz.zeroValue3,
 t4:=Tryz.underlying4,
 a4:=Tryz.isAgg4,
 z4:=Tryz.sizeOf4,
 v4:=Tryz.zeroValue4,
 t9:=Tryz.underlying9,
 a9:=Tryz.isAgg9,
 z9:=Tryz.sizeOf9,
 v9:=Tryz.zeroValue9,
 t20:=Tryz.underlying20,
 a20:=Tryz.isAgg20,
 z20:=Tryz.sizeOf20,
 v20:=Tryz.zeroValue20,
 t31:=Tryz.underlying59,
 a31:=Tryz.isAgg59,
 z31:=Tryz.sizeOf59,
 v31:=Tryz.zeroValue59,
 t37:=Tryz.underlying58,
 a37:=Tryz.isAgg58,
 z37:=Tryz.sizeOf58,
 v37:=Tryz.zeroValue58,
 t70:=Tryz.underlying79,
 a70:=Tryz.isAgg79,
 z70:=Tryz.sizeOf79,
 v70:=Tryz.zeroValue79,
 t72:=Tryz.underlying81,
 a72:=Tryz.isAgg81,
 z72:=Tryz.sizeOf81,
 v72:=Tryz.zeroValue81,
 t75:=Tryz.underlying84,
 a75:=Tryz.isAgg84,
 z75:=Tryz.sizeOf84,
 v75:=Tryz.zeroValue84,
 t76:=Tryz.underlying85,
 a76:=Tryz.isAgg85,
 z76:=Tryz.sizeOf85,
 v76:=Tryz.zeroValue85,
 t127:=Tryz.underlying110,
 a127:=Tryz.isAgg110,
 z127:=Tryz.sizeOf110,
 v127:=Tryz.zeroValue110,
 t164:=Tryz.underlying126,
 a164:=Tryz.isAgg126,
 z164:=Tryz.sizeOf126,
 v164:=Tryz.zeroValue126}
def Tryz.agh:Go.Shelf.Ren:=⟨fun | 171=>29 | 243=>55 | 246=>93 | 283=>114 | 284=>115 | 285=>116 | 286=>117 | 129=>129 | 317=>128 | 318=>130 | 319=>131 | 320=>132 | 337=>140 | 338=>141 | n=>n,fun | 3=>3 | 9=>9 | 2=>2 | 4=>4 | 171=>120 | 0=>0 | 53=>121 | 37=>58 | 5=>5 | 173=>124 | 212=>141 | 51=>134 | 20=>20 | 213=>142 | 46=>112 | 232=>154 | 233=>155 | n=>n,fun | 17=>1 | 18=>2 | 19=>3 | n=>n⟩
theorem Tryz.RI:Go.Proofs.LaysM.n171 Tryz.prog Tryz.agh:={
 mixed:=by kernel_rfl,
 f129:=Tryz.func129.trans (congrArg some (by kernel_rfl)),
 f171:=Tryz.func29.trans (congrArg some (by kernel_rfl)),
 f243:=Tryz.func55.trans (congrArg some (by kernel_rfl)),
 f246:=Tryz.func93.trans (congrArg some (by kernel_rfl)),
 f283:=Tryz.func114.trans (congrArg some (by kernel_rfl)),
 f284:=Tryz.func115.trans (congrArg some (by kernel_rfl)),
 f285:=Tryz.func116.trans (congrArg some (by kernel_rfl)),
 f286:=Tryz.func117.trans (congrArg some (by kernel_rfl)),
 f317:=Tryz.func128.trans (congrArg some (by kernel_rfl)),
 f318:=Tryz.func130.trans (congrArg some (by kernel_rfl)),
 f319:=Tryz.func131.trans (congrArg some (by kernel_rfl)),
 f320:=Tryz.func132.trans (congrArg some (by kernel_rfl)),
 f337:=Tryz.func140.trans (congrArg some (by kernel_rfl)),
 f338:=Tryz.func141.trans (congrArg some (by kernel_rfl)),
 t0:=Tryz.underlying0,
 a0:=Tryz.isAgg0,
 z0:=Tryz.sizeOf0,
 v0:=Tryz.zeroValue0,
 t2:=Tryz.underlying2,
 a2:=Tryz.isAgg2,
 z2:=Tryz.sizeOf2,
 v2:=Tryz.zeroValue2,
 t3:=Tryz.underlying3,
 a3:=Tryz.isAgg3,
 z3:=Tryz.sizeOf3,
 v3:=Tryz.zeroValue3,
 t4:=Tryz.underlying4,
 a4:=Tryz.isAgg4,
 z4:=Tryz.sizeOf4,
 v4:=Tryz.zeroValue4,
 t5:=Tryz.underlying5,
 a5:=Tryz.isAgg5,
 z5:=Tryz.sizeOf5,
 v5:=Tryz.zeroValue5,
 t9:=Tryz.underlying9,
 a9:=Tryz.isAgg9,
 z9:=Tryz.sizeOf9,
 v9:=Tryz.zeroValue9,
 t20:=Tryz.underlying20,
 a20:=Tryz.isAgg20,
 z20:=Tryz.sizeOf20,
 v20:=Tryz.zeroValue20,
 t37:=Tryz.underlying58,
 a37:=Tryz.isAgg58,
 z37:=Tryz.sizeOf58,
 v37:=Tryz.zeroValue58,
 t46:=Tryz.underlying112,
 a46:=Tryz.isAgg112,
 z46:=Tryz.sizeOf112,
 v46:=Tryz.zeroValue112,
 t51:=Tryz.underlying134,
 a51:=Tryz.isAgg134,
 z51:=Tryz.sizeOf134,
 v51:=Tryz.zeroValue134,
 t53:=Tryz.underlying121,
 a53:=Tryz.isAgg121,
 z53:=Tryz.sizeOf121,
 v53:=Tryz.zeroValue121,
 t171:=Tryz.underlying120,
 a171:=Tryz.isAgg120,
 z171:=Tryz.sizeOf120,
 v171:=Tryz.zeroValue120,
 t173:=Tryz.underlying124,
 a173:=Tryz.isAgg124,
 z173:=Tryz.sizeOf124,
 v173:=Tryz.zeroValue124,
 t212:=Tryz.underlying141,
 a212:=Tryz.isAgg141,
 z212:=Tryz.sizeOf141,
 v212:=Tryz.zeroValue141,
 t213:=Tryz.underlying142,
 a213:=Tryz.isAgg142,
 z213:=Tryz.sizeOf142,
 t232:=Tryz.underlying154,
 a232:=Tryz.isAgg154,
 z232:=Tryz.sizeOf154,
 v232:=Tryz.zeroValue154,
 t233:=Tryz.underlying155,
 a233:=Tryz.isAgg155,
 z233:=Tryz.sizeOf155,
 v233:=Tryz.zeroValue155,
 g17:=by kernel_rfl,
 g18:=by kernel_rfl,
 g19:=by kernel_rfl,
 i0:=by kernel_rfl,
 i2:=by kernel_rfl,
 i3:=by kernel_rfl,
 i4:=by kernel_rfl,
 i5:=by kernel_rfl,
 i9:=by kernel_rfl,
 i20:=by kernel_rfl,
 i37:=by kernel_rfl,
 i46:=by kernel_rfl,
 i51:=by kernel_rfl,
 i53:=by kernel_rfl,
 i171:=by kernel_rfl,
 i173:=by kernel_rfl,
 i212:=by kernel_rfl,
 i232:=by kernel_rfl,
 i233:=by kernel_rfl,
 m17:=by kernel_rfl,
 m18:=by kernel_rfl,
 m19:=by kernel_rfl}
theorem Tryz.DL:Builder.Extra Tryz.prog Tryz.RH where
 sizeBuilder:=by kernel_rfl
 liesBuilder:=by kernel_rfl
 t5:=Tryz.underlying5
 a5:=Tryz.isAgg5
 z5:=Tryz.sizeOf5
 v5:=Tryz.zeroValue5
 infoByte:=by kernel_rfl
 cellsByte:=by kernel_rfl
 sizeByte:=by kernel_rfl
 neB5:=by decide
theorem Oz (s sub:ByteArray) (m:Int) (w:World) (aM:s.size<4294967281) (hm:w.cell? ⟨0,0,none⟩=some (.int .i64 m)):
 Calls Tryz.prog 52 #[.string s,.string sub] w fun e w'=>e=.returned (.bool (Lib.contains s.data.toList sub.data.toList))/\w'=w:=Any.strings_Contains Tryz.age s sub m w aM hm
end
theorem adL:GC Tryz.prog 31:=
 ⟨fun Aq o c xs sep w J ad aD bn b0=>Go.Proofs.Any.strings_Join Tryz.EK Tryz.DL Aq o c xs sep w J ad aD bn b0,fun a c sep w=>Go.Proofs.Any.strings_Join_none Tryz.EK Tryz.DL a c sep w⟩
section
open Go.Proofs Go.Sort
theorem Wp (w:World) (k:Nat) (os:Array Obj):Below w.heap.size w (grow (w.drewN k) os):=
 ⟨rfl,rfl,rfl,by simp [grow,World.drewN],fun b aj=>by simp only [grow,World.drewN];rw [aol aj]⟩
theorem adH:Lr Tryz.prog 29:=fun n w hw a1 J=>(Any.strconv_Itoa Tryz.RI n a1 J w hw.Fs).mono fun e w' q=>by obtain ⟨ag,k,os,rfl⟩:=q;exact ⟨ag,Wp w k os⟩
end
def ctx:Ctx:=⟨Tryz.prog,fun f=>bif Nat.beq f 52 then some Hq else bif Nat.beq f 29 then some Ju else bif Nat.beq f 31 then some Jv else none,fun f=>bif Nat.beq f 138 then some Ex else none⟩
theorem follows:Tryz.prog.follows .mixedOrders=true:=by kernel_rfl
theorem names:(Tryz.prog.funcs.toList.all fun fn=>!(fn.name == "runtime.NumGoroutine"))=true:=by kernel_rfl
theorem uA:e6 Tryz.prog:=by intro f fn h;have:=anr.1 names fn (anE (i:=f) (by simpa using h));simpa using this
theorem Ft:p0 ctx:=by
 refine ⟨fun f p args h v aa ak he=>?_,fun f p args h v aa ak he aB E w xs ar s=>?_⟩
 . simp only [ctx,h7] at ak;by_cases aA:f=52
   . rw [anb aA] at ak;cases ak;subst aA;obtain ⟨s,sub,rfl,aM,rfl,rfl⟩:=Y1 he;refine ⟨⟨_,Tryz.func52,by kernel_rfl⟩,afI fun E xs w ax ar=>?_⟩;obtain ⟨y,cS,rfl,ag,z,pU,rfl,av,rfl⟩:=ar;simp only [Rel] at ag av;subst ag av;obtain ⟨m,hm⟩:=ax.maxLen;refine (Oz ⟨⟨s⟩⟩ ⟨⟨sub⟩⟩ m w (by show s.length<4294967281;omega) hm).mono fun e w' q=>?_;obtain ⟨rfl,rfl⟩:=q;exact ⟨_,rfl,by simp only [Rel],Below.refl _ _⟩
   . rw [am7 aA] at ak;by_cases aA:f=29
     . rw [anb aA] at ak;cases ak;subst aA;exact ⟨⟨_,Tryz.func29,by kernel_rfl⟩,fun aB E w xs ar s=>adI adH he aB E w xs ar s⟩
     . rw [am7 aA] at ak;by_cases aA:f=31
       . rw [anb aA] at ak;cases ak;subst aA;exact ⟨⟨_,Tryz.func31,by kernel_rfl⟩,fun aB E w xs ar s=>adM adL he aB E w xs ar s⟩
       . rw [am7 aA] at ak;cases ak
 . simp only [ctx,h7] at ak;by_cases aA:f=138
   . rw [anb aA] at ak;cases ak;subst aA;exact adv (P:=Tryz.prog) Tryz.func138 (by kernel_rfl) (by kernel_rfl) (by kernel_rfl) (by kernel_rfl) he aB E w xs ar s
   . rw [am7 aA] at ak;cases ak
end
section
open Go bd
abbrev U (d aR:Nat):bs:=⟨some d,.bg (.t aR),none,[aR]⟩
abbrev a' (d aR:Nat):bs:=⟨some d,.eA (.t aR),none,[aR]⟩
abbrev bp (d aR:Nat) (cz:Int):bs:=⟨some d,.bin (.int .eql) (.t aR) (.c (.int .i64 cz)),none,[aR]⟩
abbrev ca (d:Nat) (cz:Int):bs:=⟨some d,.bg (.c (.int .i64 cz)),none,[]⟩
abbrev ck (d aR:Nat):bs:=⟨some d,.ka 5 (.t aR),none,[aR]⟩
abbrev ct (d aR bk:Nat) (cz:Nat):bs:=⟨some d,.call cz [(.t aR),(.t bk)],none,[aR,bk]⟩
abbrev c0 (d aR:Nat):bs:=⟨some d,.hi 1 (.t aR),none,[aR]⟩
abbrev de (d aR:Nat):bs:=⟨some d,.hi 4 (.t aR),none,[aR]⟩
abbrev dx (d aR:Nat):bs:=⟨some d,.uD (.t aR),none,[aR]⟩
abbrev dY (d aR:Nat):bs:=⟨some d,.hi 0 (.t aR),none,[aR]⟩
abbrev ew (d aR bk:Nat):bs:=⟨some d,.pick (.t aR) (.t bk) (.c (.bool false)),none,[aR,bk]⟩
abbrev eW (d aR:Nat) (cz:Int):bs:=⟨some d,.bin (.int .add) (.t aR) (.c (.int .i64 cz)),none,[aR]⟩
abbrev eX (d aR:Nat) (cz:Nat):bs:=⟨some d,.call cz [(.t aR)],none,[aR]⟩
abbrev fb (d aR:Nat):bs:=⟨some d,.len .slice (.t aR),none,[aR]⟩
abbrev fj (d aR bk:Nat):bs:=⟨some d,.bg (.t aR),(some (bk,true)),[aR,bk]⟩
abbrev fC (d:Nat):bs:=⟨some d,.bg (.c (.bool false)),none,[]⟩
abbrev fD (d aR bk:Nat):bs:=⟨some d,.pick (.t aR) (.c (.bool true)) (.t bk),none,[aR,bk]⟩
abbrev fO (d aR:Nat):bs:=⟨some d,.box (.t aR),none,[aR]⟩
abbrev fT (d aR:Nat):bs:=⟨some d,.hi 3 (.t aR),none,[aR]⟩
abbrev f_ (d aR:Nat) (cz:Int):bs:=⟨some d,.dG 5 (.t aR) (.c (.int .i64 cz)),none,[aR]⟩
abbrev gi (d aR bk:Nat):bs:=⟨some d,.bin (.int .lss) (.t aR) (.t bk),none,[aR,bk]⟩
abbrev gv (d aR bk:Nat) (cz:Nat) (bY:Int):bs:=⟨some d,.call cz [(.t aR),(.c (.int .i64 bY)),(.t bk)],none,[aR,bk]⟩
abbrev gw (d aR bk:Nat):bs:=⟨some d,.eA (.t aR),(some (bk,true)),[aR,bk]⟩
abbrev hH (d aR bk:Nat):bs:=⟨some d,.bg (.t aR),(some (bk,false)),[aR,bk]⟩
abbrev jl (d aR bk:Nat):bs:=⟨some d,.dG 5 (.t aR) (.t bk),none,[aR,bk]⟩
abbrev jm (d:Nat):bs:=⟨some d,.bg (.c .cc),none,[]⟩
abbrev kk (d aR:Nat) (cz:Int):bs:=⟨some d,.bin (.int .gtr) (.t aR) (.c (.int .i64 cz)),none,[aR]⟩
abbrev kK (d aR:Nat):bs:=⟨some d,.len .str (.t aR),none,[aR]⟩
abbrev k3 (d aR bk:Nat):bs:=⟨some d,.app 1 (.t aR) (.t bk),none,[aR,bk]⟩
abbrev k4 (d aR:Nat) (cz:Int):bs:=⟨some d,.bin (.int .geq) (.t aR) (.c (.int .i64 cz)),none,[aR]⟩
abbrev mo (d aR bk:Nat):bs:=⟨some d,.eA (.t aR),(some (bk,false)),[aR,bk]⟩
abbrev mq (d:Nat):bs:=⟨some d,.bg (.c (.str [])),none,[]⟩
abbrev mZ (d aR bk:Nat) (cz:Int):bs:=⟨some d,.bin (.int .leq) (.t aR) (.c (.int .i64 cz)),(some (bk,true)),[aR,bk]⟩
abbrev m' (d aR:Nat) (cz:Nat) (bY:Int):bs:=⟨some d,.call cz [(.c (.int .i64 bY)),(.t aR)],none,[aR]⟩
abbrev m_ (d aR:Nat):bs:=⟨some d,.ext (.t aR) 0,none,[aR]⟩
abbrev na (d aR:Nat):bs:=⟨some d,.ext (.t aR) 1,none,[aR]⟩
abbrev oG (d aR:Nat) (cz:Int):bs:=⟨some d,.bin (.int .lss) (.t aR) (.c (.int .i64 cz)),none,[aR]⟩
abbrev oH (d aR:Nat):bs:=⟨some d,.hi 2 (.t aR),none,[aR]⟩
abbrev o9 (d aR bk:Nat):bs:=⟨some d,.hi 3 (.t aR),(some (bk,true)),[aR,bk]⟩
abbrev o' (d:Nat):bs:=⟨some d,.new [(.int .i64 0),(.int .i64 0),(.int .i64 0),(.str []),.cc],none,[]⟩
abbrev qY (d aR bk:Nat) (cz:Int):bs:=⟨some d,.bin (.int .eql) (.t aR) (.c (.int .u8 cz)),(some (bk,false)),[aR,bk]⟩
abbrev qZ (d aR:Nat) (cz:Int):bs:=⟨some d,.bin (.int .sub) (.t aR) (.c (.int .i64 cz)),none,[aR]⟩
abbrev q0 (d aR bk:Nat):bs:=⟨some d,.dG 1 (.t aR) (.t bk),none,[aR,bk]⟩
abbrev r4 (d aR bk:Nat):bs:=⟨some d,.hi 0 (.t aR),(some (bk,true)),[aR,bk]⟩
abbrev r5 (d aR bk:Nat):bs:=⟨some d,.hi 1 (.t aR),(some (bk,true)),[aR,bk]⟩
abbrev tl (d aR:Nat) (cz:Int):bs:=⟨some d,.bin (.int .neq) (.t aR) (.c (.int .i64 cz)),none,[aR]⟩
abbrev tm (d aR:Nat):bs:=⟨some d,.oe (.t aR) (.c (.int .i64 0)),none,[aR]⟩
abbrev tn (d aR:Nat):bs:=⟨some d,.un .not (.t aR),none,[aR]⟩
abbrev vb (d aR bk:Nat):bs:=⟨some d,.app 4 (.t aR) (.t bk),none,[aR,bk]⟩
abbrev vc (d:Nat) (cz:Int):bs:=⟨some d,.eP 1 1 [(.int .u8 0)] [(0,1,(.c (.int .u8 cz)))],none,[]⟩
abbrev vd (d aR:Nat):bs:=⟨some d,.eP 1 4 [(.int .i64 0),(.int .i64 0),(.int .i64 0),(.str [])] [(0,4,(.t aR))],none,[aR]⟩
abbrev ve (d aR bk dT:Nat) (cz:Nat):bs:=⟨some d,.call cz [(.t aR),(.t bk)],(some (dT,true)),[aR,bk,dT]⟩
abbrev vf (d aR bk:Nat) (cz:Nat):bs:=⟨some d,.call cz [(.t aR)],(some (bk,false)),[aR,bk]⟩
abbrev vg (d aR bk:Nat):bs:=⟨some d,.ka 5 (.t aR),(some (bk,false)),[aR,bk]⟩
abbrev vh (d aR bk:Nat):bs:=⟨some d,.un .not (.t aR),(some (bk,false)),[aR,bk]⟩
abbrev xr (d aR:Nat):bs:=⟨some d,.bin (.int .add) (.c (.int .u8 48)) (.t aR),none,[aR]⟩
abbrev xt (d aR:Nat) (cz:Int):bs:=⟨some d,.bin (.int .eql) (.t aR) (.c (.int .u8 cz)),none,[aR]⟩
abbrev xu (d aR bk:Nat):bs:=⟨some d,.bin (.int .geq) (.t aR) (.t bk),none,[aR,bk]⟩
abbrev xv (d aR:Nat) (cz:Int):bs:=⟨some d,.bin (.int .leq) (.t aR) (.c (.int .i64 cz)),none,[aR]⟩
abbrev xw (d aR bk:Nat) (cz:Nat) (bY:Int):bs:=⟨some d,.call cz [(.t aR),(.t bk),(.c (.int .i64 bY)),(.c (.bool false))],none,[aR,bk]⟩
abbrev xx (d:Nat) (cz:Nat) (bY:Int) (b_:Int):bs:=⟨some d,.call cz [(.c (.int .i64 bY)),(.c (.int .i64 b_))],none,[]⟩
abbrev xy (d aR:Nat):bs:=⟨some d,.call 45 [(.t aR),(.c (.str [40]))],none,[aR]⟩
abbrev xz (d aR:Nat):bs:=⟨some d,.call 45 [(.t aR),(.c (.str [41]))],none,[aR]⟩
abbrev xA (d:Nat):bs:=⟨some d,.new [(.int .i64 0),(.int .i64 0),(.int .i64 0),(.str [])],none,[]⟩
abbrev xB (d aR bk:Nat):bs:=⟨some d,.uD (.t aR),(some (bk,true)),[aR,bk]⟩
abbrev zX (d aR bk:Nat):bs:=⟨some d,.bin (.int .sub) (.t aR) (.t bk),none,[aR,bk]⟩
abbrev zY (d aR bk:Nat):bs:=⟨some d,.bin (.str .eql) (.t aR) (.t bk),none,[aR,bk]⟩
abbrev zZ (d aR:Nat):bs:=⟨some d,.bin (.str .eql) (.t aR) (.c (.str [])),none,[aR]⟩
abbrev z1 (d aR bk:Nat):bs:=⟨some d,.build [(.int .i64 0),(.int .i64 0),(.int .i64 0),(.str [])] [(0,1,(.t aR)),(3,1,(.t bk))],none,[aR,bk]⟩
abbrev z6 (d aR:Nat) (cz:Nat):bs:=⟨some d,.call cz [],(some (aR,true)),[aR]⟩
abbrev z7 (d aR:Nat):bs:=⟨some d,.im .str (.t aR),none,[aR]⟩
abbrev z8 (d aR bk:Nat):bs:=⟨some d,.oe (.t aR) (.t bk),none,[aR,bk]⟩
abbrev z' (d aR:Nat):bs:=⟨some d,.ka 4 (.t aR),none,[aR]⟩
abbrev z_ (d aR bk:Nat):bs:=⟨some d,.len .str (.t aR),(some (bk,true)),[aR,bk]⟩
abbrev Aa (d aR:Nat):bs:=⟨some d,.uz 23 [(.t aR)],none,[aR]⟩
abbrev CN (d aR bk:Nat):bs:=⟨some d,.bin (.int .add) (.t aR) (.t bk),none,[aR,bk]⟩
abbrev CO (d aR bk:Nat) (cz:Int):bs:=⟨some d,.bin (.int .eql) (.t aR) (.c (.int .i64 cz)),(some (bk,false)),[aR,bk]⟩
abbrev CP (d aR bk:Nat) (cz:Int):bs:=⟨some d,.bin (.int .eql) (.t aR) (.c (.int .i64 cz)),(some (bk,true)),[aR,bk]⟩
abbrev CQ (d aR:Nat) (cz:Int):bs:=⟨some d,.bin (.int .geq) (.t aR) (.c (.int .u8 cz)),none,[aR]⟩
abbrev CR (d aR bk:Nat) (cz:Int):bs:=⟨some d,.bin (.int .gtr) (.t aR) (.c (.int .i64 cz)),(some (bk,false)),[aR,bk]⟩
abbrev CS (d aR bk:Nat) (cz:Int):bs:=⟨some d,.bin (.int .leq) (.t aR) (.c (.int .u8 cz)),(some (bk,true)),[aR,bk]⟩
abbrev CT (d aR:Nat) (cz:Int):bs:=⟨some d,.bin (.int .quo) (.t aR) (.c (.int .u8 cz)),none,[aR]⟩
abbrev CU (d aR:Nat):bs:=⟨some d,.bin (.int .rem) (.t aR) (.c (.int .u8 10)),none,[aR]⟩
abbrev CV (d aR:Nat):bs:=⟨some d,.bin (.str .add) (.c (.str [39])) (.t aR),none,[aR]⟩
abbrev CW (d aR:Nat):bs:=⟨some d,.eP 1 1 [(.int .u8 0)] [(0,1,(.t aR))],none,[aR]⟩
abbrev CX (d:Nat):bs:=⟨some d,.eP 1 1 [(.str [])] [(0,1,(.c (.str [40])))],none,[]⟩
abbrev CY (d:Nat):bs:=⟨some d,.eP 1 1 [(.str [])] [(0,1,(.c (.str [41])))],none,[]⟩
abbrev CZ (d aR:Nat) (cz:Int):bs:=⟨some d,.build [(.int .i64 0),(.int .i64 0),(.int .i64 0),(.str [])] [(0,1,(.c (.int .i64 cz))),(3,1,(.t aR))],none,[aR]⟩
abbrev C0 (d aR bk dT:Nat) (cz:Nat):bs:=⟨some d,.call cz [(.t aR),(.t bk),(.t dT)],none,[aR,bk,dT]⟩
abbrev C1 (d aR bk:Nat) (cz:Nat) (bY:Int) (b_:Int):bs:=⟨some d,.call cz [(.t aR),(.t bk),(.c (.int .i64 bY)),(.c (.str [44])),(.c (.int .i64 b_))],none,[aR,bk]⟩
abbrev C2 (d aR bk:Nat) (cz:Nat) (bY:Int) (b_:Int):bs:=⟨some d,.call cz [(.t aR),(.t bk),(.c (.int .i64 bY)),(.c (.str [45,62])),(.c (.int .i64 b_))],none,[aR,bk]⟩
abbrev C3 (d aR:Nat) (cz:Nat) (bY:Int):bs:=⟨some d,.call cz [(.t aR),(.c (.int .i64 bY))],none,[aR]⟩
abbrev C4 (d aR:Nat) (cz:Nat) (bY:Int) (b_:Int):bs:=⟨some d,.call cz [(.t aR),(.c (.int .u8 bY)),(.c (.int .u8 b_))],none,[aR]⟩
abbrev C5 (d aR bk:Nat) (cz:Nat):bs:=⟨some d,.call cz [(.t aR)],(some (bk,true)),[aR,bk]⟩
abbrev C6 (d aR:Nat):bs:=⟨some d,.call 45 [(.t aR),(.c (.str [61]))],none,[aR]⟩
abbrev C7 (d aR bk dT:Nat):bs:=⟨some d,.call 82 [(.t aR),(.t bk),(.t dT),(.c (.bool false))],none,[aR,bk,dT]⟩
abbrev C8 (d aR bk:Nat):bs:=⟨some d,.hi 2 (.t aR),(some (bk,false)),[aR,bk]⟩
abbrev C9 (d aR bk:Nat):bs:=⟨some d,.hi 4 (.t aR),(some (bk,true)),[aR,bk]⟩
abbrev C' (d aR bk:Nat):bs:=⟨some d,.dG 4 (.t aR) (.c (.int .i64 0)),(some (bk,true)),[aR,bk]⟩
abbrev C_ (d aR bk:Nat) (cz:Int):bs:=⟨some d,.oe (.t aR) (.c (.int .i64 cz)),(some (bk,true)),[aR,bk]⟩
abbrev CL (d aR bk:Nat):bs:=⟨some d,.len .slice (.t aR),(some (bk,true)),[aR,bk]⟩
abbrev CM (d aR bk:Nat):bs:=⟨some d,.ek 5 (.t aR) none (some (.t bk)) none,none,[aR,bk]⟩
abbrev Gp (d aR bk:Nat):bs:=⟨some d,.bin (.int .gtr) (.t aR) (.c (.int .i64 0)),(some (bk,true)),[aR,bk]⟩
abbrev Gq (d aR:Nat):bs:=⟨some d,.bin (.int .lss) (.t aR) (.c (.int .u8 32)),none,[aR]⟩
abbrev Gr (d aR bk:Nat):bs:=⟨some d,.bin (.str .add) (.t aR) (.c (.str [32])),(some (bk,true)),[aR,bk]⟩
abbrev Gs (d aR bk:Nat):bs:=⟨some d,.bin (.str .add) (.c (.str [32])) (.t aR),(some (bk,true)),[aR,bk]⟩
abbrev Gt (d:Nat) (cz:Int):bs:=⟨some d,.eP 1 1 [(.int .i64 0)] [(0,1,(.c (.int .i64 cz)))],none,[]⟩
abbrev Gu (d aR:Nat):bs:=⟨some d,.eP 1 1 [(.str [])] [(0,1,(.t aR))],none,[aR]⟩
abbrev Gv (d aR:Nat):bs:=⟨some d,.build [(.int .i64 0),(.int .i64 0),(.int .i64 0),(.str [])] [(0,1,(.c (.int .i64 1))),(1,1,(.t aR))],none,[aR]⟩
abbrev Gw (d:Nat):bs:=⟨some d,.build [(.int .i64 0),(.int .i64 0),(.int .i64 0),(.str [])] [],none,[]⟩
abbrev Gx (d aR bk:Nat) (cz:Nat) (bY:Int):bs:=⟨some d,.call cz [(.t aR),(.t bk),(.c (.str [44])),(.c (.int .i64 bY))],none,[aR,bk]⟩
abbrev Gy (d aR bk dT:Nat) (cz:Nat):bs:=⟨some d,.call cz [(.t aR),(.t bk)],(some (dT,false)),[aR,bk,dT]⟩
abbrev Gz (d aR:Nat):bs:=⟨some d,.call 45 [(.t aR),(.c (.str [108,101,116]))],none,[aR]⟩
abbrev GA (d aR bk:Nat):bs:=⟨some d,.call 52 [(.c (.str [32,97,110,100,32,98,101,103,105,110,32,101,108,115,101,32,101,110,100,32,101,120,99,101,112,116,105,111,110,32,102,97,108,115,101,32,102,117,110,32,105,102,32,105,110,32,108,101,116,32,109,97,116,99,104,32,109,111,100,32,111,102,32,114,97,105,115,101,32,114,101,99,32,116,104,101,110,32,116,114,117,101,32,116,114,121,32,116,121,112,101,32,119,105,116,104,32])),(.t aR)],(some (bk,true)),[aR,bk]⟩
abbrev GB (d aR bk:Nat):bs:=⟨some d,.qN (.t aR) (some (.t bk)) none none,none,[aR,bk]⟩
abbrev Ls (d aR:Nat):bs:=⟨some d,.eP 1 5 [(.int .i64 0),(.int .i64 0),(.int .i64 0),(.str []),.cc] [(0,5,(.t aR))],none,[aR]⟩
abbrev Lt (d:Nat):bs:=⟨some d,.eP 17 1 [(.str [])] [(0,1,(.c (.str [59,59]))),(1,1,(.c (.str [58,61]))),(2,1,(.c (.str [45,62]))),(3,1,(.c (.str [60,61]))),(4,1,(.c (.str [59]))),(5,1,(.c (.str [40]))),(6,1,(.c (.str [41]))),(7,1,(.c (.str [44]))),(8,1,(.c (.str [61]))),(9,1,(.c (.str [60]))),(10,1,(.c (.str [43]))),(11,1,(.c (.str [45]))),(12,1,(.c (.str [42]))),(13,1,(.c (.str [47]))),(14,1,(.c (.str [124]))),(15,1,(.c (.str [33]))),(16,1,(.c (.str [95])))],none,[]⟩
abbrev Lu (d:Nat):bs:=⟨some d,.eP 2 1 [(.str [])] [(0,1,(.c (.str [108,101,116]))),(1,1,(.c (.str [114,101,99])))],none,[]⟩
abbrev Lv (d aR bk dT:Nat):bs:=⟨some d,.eP 4 1 [(.int .u8 0)] [(0,1,(.c (.int .u8 92))),(1,1,(.t aR)),(2,1,(.t bk)),(3,1,(.t dT))],none,[aR,bk,dT]⟩
abbrev Lw (d:Nat):bs:=⟨some d,.eP 8 1 [(.str [])] [(0,1,(.c (.str [43]))),(1,1,(.c (.str [45]))),(2,1,(.c (.str [42]))),(3,1,(.c (.str [47]))),(4,1,(.c (.str [109,111,100]))),(5,1,(.c (.str [61]))),(6,1,(.c (.str [60]))),(7,1,(.c (.str [60,61])))],none,[]⟩
abbrev Lx (d aR bk:Nat):bs:=⟨some d,.call 69 [(.t aR),(.t bk),(.c (.int .i64 1)),(.c (.str [61])),(.c (.int .i64 1))],none,[aR,bk]⟩
structure cg (f n:Nat) (fn:Func) (c:bE) (eI:List p1):Prop where
 aA:Tryz.prog.funcs[f]? =some fn
 k7:(fn.body,fn.ntmps,Nat.ble fn.ntmps top,Nat.beq f dv,gE Tryz.prog fn.ntmps (fn.body.getD .skip),nF Tryz.prog fn.ntmps fn.results.toList,c.plain)=(some (fn.body.getD .skip),n,true,false,c,eI,true)
theorem cg.z {f n:Nat} {fn:Func} {c:bE} {eI:List p1} (Z:cg f n fn c eI) {args:List V} {h:ah} {K:V->ah->Prop} (ax:Nat.ble args.length n=true) (H:gK Tryz.prog c (bz.a_ args) h fun e r aa=>e.ends/\∃ai,kp r aa eI=some ai/\K (oneOf ai) aa):b' Tryz.prog f args h K:=by have q:=Z.k7;simp only [aoi] at q;obtain ⟨J,ad,aD,bn,b0,ep,fg⟩:=q;exact Za follows uA Z.aA J aD bn (by rw [ad];exact ax) b0 ep fg H
theorem cg.d {f n:Nat} {fn:Func} {c:bE} {eI:List p1} (Z:cg f n fn c eI) {args:List V} {u:Option V} {h:ah} {K:Option V->ah->Prop} (ax:Nat.ble args.length n=true) (H:gK Tryz.prog c (bz.a_ args) h fun e r aa=>e.ends/\∃ai,kp r aa eI=some ai/\K u aa):u5 Tryz.prog f args u h K:=by have q:=Z.k7;simp only [aoi] at q;obtain ⟨J,ad,aD,bn,b0,ep,fg⟩:=q;exact Zh follows uA Z.aA J aD (by rw [ad];exact ax) b0 ep fg H
structure Gi (f n:Nat) (fn:Func) (c:bE) (eI:List p1):Prop where
 aA:Tryz.prog.funcs[f]? =some fn
 k7:(fn.body,fn.ntmps,Nat.ble fn.ntmps top,Nat.beq f dv,gE Tryz.prog fn.ntmps (fn.body.getD .skip),nF Tryz.prog fn.ntmps fn.results.toList)=(some (fn.body.getD .skip),n,true,false,c,eI)
theorem Gi.z {f n:Nat} {fn:Func} {c:bE} {eI:List p1} (Z:Gi f n fn c eI) {args:List V} {h:ah} {K:V->ah->Prop} (ax:Nat.ble args.length n=true) (H:gK Tryz.prog c (bz.a_ args) h fun e r aa=>e.ends/\mT Tryz.prog (r eh).list none aa fun u ad=>u=none/\∃ai,kp r ad eI=some ai/\K (oneOf ai) ad):b' Tryz.prog f args h K:=by have q:=Z.k7;simp only [aoi] at q;obtain ⟨J,ad,aD,bn,b0,ep⟩:=q;exact Zb follows uA Z.aA J aD bn (by rw [ad];exact ax) b0 ep H
def Nz:bE:=
 .seq (.seq (.af [U 14 3,k4 15 14 200])
 (.cond (.t 15)
 (.skip)
 (.exit 0)))
 (.block 1 (.seq (.af [U 16 4,⟨some 17,.call 15 [(.c (.int .i64 100))],none,[]⟩,Ls 18 17,⟨some 19,.app 5 (.t 16) (.t 18),none,[16,18]⟩,U 4 19])
 (.af [U 20 3,qZ 21 20 100,U 3 21])))
def gV:bE:=
 .seq (.af [fC 2])
 (.seq (.af [U 9 0,C3 10 9 14 5,qZ 11 10 2,U 0 11])
 (.seq (.af [U 12 0,⟨some 13,.bin (.int .add) (.c (.int .i64 65536)) (.t 12),none,[12]⟩,U 3 13])
 (.seq (.af [jm 4])
 (.seq (.block 0 (.loop Nz))
 (.seq (.af [U 22 4,U 23 3,eW 24 23 1,eX 25 24 15,Ls 26 25,⟨some 27,.app 5 (.t 22) (.t 26),none,[22,26]⟩,U 4 27])
 (.seq (.af [U 29 4,eX 30 29 8,U 28 30,m_ 31 28,na 32 28,U 5 31,U 6 32])
 (.seq (.af [U 34 4,eX 35 34 9,U 33 35,m_ 36 33,na 37 33,U 7 36,U 8 37])
 (.seq (.af [U 38 5,U 39 7,zY 40 38 39,U 41 40,fj 42 6 41,fj 43 8 41,⟨some 44,.bin (.int .eql) (.t 42) (.t 43),(some (41,true)),[42,43,41]⟩,ew 45 41 44,U 46 45,fj 47 6 46,CP 48 47 46 0,fj 49 0 46,mZ 50 49 46 0,⟨some 51,.bin (.x0 false) (.t 48) (.t 50),(some (46,true)),[48,50,46]⟩,ew 52 46 51,U 53 52,z6 54 53 6,ew 55 53 54,U 2 55])
 (.ret)))))))))
theorem XG:cg 4 56 Tryz.f4 gV [.t 2]:=⟨Tryz.func4,by kernel_rfl⟩
def oR:bE:=
 .seq (.af [mq 2,ca 3 0])
 (.seq (.af [U 8 0,eX 9 8 10,U 7 9,m_ 10 7,na 11 7,U 4 10,U 5 11])
 (.seq (.seq (.af [U 12 5,tl 13 12 0])
 (.cond (.t 13)
 (.seq (.af [U 14 5,mq 2,U 3 14])
 (.ret))
 (.skip)))
 (.seq (.af [U 16 4,eX 17 16 19,U 15 17,m_ 18 15,na 19 15,U 6 18,U 5 19])
 (.seq (.block 0 (.seq (.af [U 21 5,tl 22 21 0,U 20 22])
 (.cond (.t 20)
 (.seq (.af [U 23 5,mq 2,U 3 23])
 (.ret))
 (.seq (.af [U 25 6,kK 26 25,kk 27 26 65536,U 24 27])
 (.cond (.t 24)
 (.seq (.af [mq 2,ca 3 3])
 (.ret))
 (.skip))))))
 (.seq (.af [U 28 6,U 2 28,ca 3 0])
 (.ret))))))
theorem Ye:cg 8 29 Tryz.f8 oR [.t 2,.t 3]:=⟨Tryz.func8,by kernel_rfl⟩
def Oe:bE:=
 .seq (.af [mq 2,ca 3 0])
 (.seq (.af [U 9 0,eX 10 9 11,U 8 10,m_ 11 8,na 12 8,U 4 11,U 5 12])
 (.seq (.seq (.af [U 13 5,tl 14 13 0])
 (.cond (.t 14)
 (.seq (.af [U 15 5,mq 2,U 3 15])
 (.ret))
 (.skip)))
 (.seq (.af [U 17 4,eX 18 17 20,U 16 18,m_ 19 16,na 20 16,U 6 19,U 7 20])
 (.seq (.seq (.af [U 21 6,kK 22 21,kk 23 22 65536])
 (.cond (.t 23)
 (.seq (.af [mq 2,ca 3 3])
 (.ret))
 (.skip)))
 (.seq (.af [U 24 6,U 2 24,ca 3 0])
 (.ret))))))
theorem Yk:cg 9 25 Tryz.f9 Oe [.t 2,.t 3]:=⟨Tryz.func9,by kernel_rfl⟩
def Ms:bE:=
 .seq (.af [gi 19 18 17])
 (.seq (.cond (.t 19)
 (.skip)
 (.exit 0))
 (.seq (.block 1 (.seq (.af [jl 20 16 18,ck 21 20,o' 7,⟨none,.st 5 (.t 7) (.t 21),none,[7,21]⟩])
 (.seq (.af [U 22 5,ck 23 7,ct 24 22 23 23])
 (.af [U 25 5,⟨some 26,.eP 1 1 [(.str [])] [(0,1,(.c (.str [59,59])))],none,[]⟩,ct 27 25 26 24]))))
 (.af [eW 28 18 1,U 18 28])))
def Me:bE:=
 .seq (.af [jm 2,ca 3 0])
 (.seq (.seq (.af [U 8 0,eX 9 8 21,U 4 9])
 (.seq (.af [U 10 4,tl 11 10 0])
 (.cond (.t 11)
 (.seq (.af [U 12 4,jm 2,U 3 12])
 (.ret))
 (.skip))))
 (.seq (.af [⟨some 13,.call 22 [],none,[]⟩,⟨some 14,.build [.lB,.cc] [(0,1,(.t 13))],none,[13]⟩,fO 15 14,U 5 15])
 (.seq (.seq (.af [U 16 0,fb 17 16,ca 18 0])
 (.block 0 (.loop Ms)))
 (.seq (.af [U 29 5,dx 30 29,c0 31 30,a' 32 31,U 2 32,ca 3 0])
 (.ret)))))
theorem WX:cg 10 33 Tryz.f10 Me [.t 2,.t 3]:=⟨Tryz.func10,by kernel_rfl⟩
def My:bE:=
 .seq (.seq (.af [U 14 6,U 15 0,fb 16 15,gi 17 14 16])
 (.cond (.t 17)
 (.skip)
 (.exit 0)))
 (.seq (.block 1 (.af [U 20 5,U 21 0,U 22 6,jl 23 21 22,ck 24 23,ct 25 20 24 26]))
 (.af [U 18 6,eW 19 18 1,U 6 19]))
def Mt:bE:=
 .seq (.af [jm 2,ca 3 0])
 (.seq (.af [U 7 0,eX 8 7 25,U 4 8])
 (.seq (.seq (.af [U 9 4,tl 10 9 0])
 (.cond (.t 10)
 (.seq (.af [U 11 4,jm 2,U 3 11])
 (.ret))
 (.skip)))
 (.seq (.af [⟨some 12,.build [.cc] [],none,[]⟩,fO 13 12,U 5 13])
 (.seq (.seq (.af [ca 6 0])
 (.block 0 (.loop My)))
 (.seq (.af [U 26 5,dx 27 26,dY 28 27,a' 29 28,U 2 29,ca 3 0])
 (.ret))))))
theorem W1:cg 11 30 Tryz.f11 Mt [.t 2,.t 3]:=⟨Tryz.func11,by kernel_rfl⟩
def ML:bE:=
 .seq (.af [ca 4 0])
 (.seq (.seq (.af [U 5 1,oG 6 5 1])
 (.cond (.t 6)
 (.seq (.af [ca 4 0])
 (.ret))
 (.skip)))
 (.seq (.af [U 7 0,U 8 1,⟨some 9,.bin (.int .rem) (.t 7) (.t 8),none,[7,8]⟩,U 0 9])
 (.seq (.seq (.af [U 10 0,oG 11 10 0])
 (.cond (.t 11)
 (.af [U 12 0,U 13 1,CN 14 12 13,U 0 14])
 (.skip)))
 (.seq (.af [U 15 0,U 4 15])
 (.ret)))))
theorem Xd:cg 14 16 Tryz.f14 ML [.t 4]:=⟨Tryz.func14,by kernel_rfl⟩
def MW:bE:=
 .seq (.seq (.af [U 5 4,U 6 0,qZ 7 6 14,gi 8 5 7])
 (.cond (.t 8)
 (.skip)
 (.exit 0)))
 (.seq (.block 1 (.af [U 11 3,vc 12 97,k3 13 11 12,U 3 13]))
 (.af [U 9 4,eW 10 9 1,U 4 10]))
def MS:bE:=
 .seq (.af [o' 2])
 (.seq (.af [jm 3])
 (.seq (.seq (.af [ca 4 0])
 (.block 0 (.loop MW)))
 (.seq (.af [⟨some 14,.build [(.int .i64 0),(.int .i64 0),(.int .i64 0),(.str []),.cc] [(0,1,(.c (.int .i64 10)))],none,[]⟩,U 15 3,z7 16 15,⟨some 17,.build [(.int .i64 0),(.int .i64 0),(.int .i64 0),(.str []),.cc] [(0,1,(.c (.int .i64 21))),(3,1,(.t 16))],none,[16]⟩,⟨some 18,.eP 2 5 [(.int .i64 0),(.int .i64 0),(.int .i64 0),(.str []),.cc] [(0,5,(.t 14)),(5,5,(.t 17))],none,[14,17]⟩,⟨some 19,.build [(.int .i64 0),(.int .i64 0),(.int .i64 0),(.str []),.cc] [(0,1,(.c (.int .i64 52))),(4,1,(.t 18))],none,[18]⟩,⟨none,.st 5 (.t 2) (.t 19),none,[2,19]⟩])
 (.ret))))
theorem Xg:cg 15 20 Tryz.f15 MS [.tD 2 5]:=⟨Tryz.func15,by kernel_rfl⟩
def MY:bE:=
 .seq (.af [gi 11 10 9])
 (.seq (.cond (.t 11)
 (.skip)
 (.exit 0))
 (.seq (.block 1 (.seq (.af [⟨some 12,.dG 4 (.t 8) (.t 10),none,[8,10]⟩,z' 13 12,xA 6,⟨none,.st 4 (.t 6) (.t 13),none,[6,13]⟩])
 (.seq (.seq (.af [z' 14 6,eX 15 14 28,tn 16 15])
 (.cond (.t 16)
 (.seq (.af [mq 2,ca 3 2])
 (.ret))
 (.skip)))
 (.seq (.af [fT 17 6,a' 18 17,U 7 18])
 (.seq (.seq (.af [dY 19 6,a' 20 19])
 (.block 2 (.seq (.af [bp 22 20 1,U 21 22])
 (.cond (.t 21)
 (.af [c0 23 6,a' 24 23,⟨some 25,.bin (.int .and) (.t 24) (.c (.int .i64 2147483647)),none,[24]⟩,eX 26 25 29,U 7 26])
 (.seq (.af [bp 28 20 2,U 27 28])
 (.cond (.t 27)
 (.af [U 29 7,eX 30 29 30,U 7 30])
 (.seq (.af [bp 32 20 5,U 31 32])
 (.cond (.t 31)
 (.af [U 33 7,CV 34 33,U 7 34])
 (.skip)))))))))
 (.af [U 35 4,U 36 7,Gu 37 36,k3 38 35 37,U 4 38]))))))
 (.af [eW 39 10 1,U 10 39])))
def MX:bE:=
 .seq (.af [mq 2,ca 3 0])
 (.seq (.af [jm 4])
 (.seq (.seq (.af [U 8 0,fb 9 8,ca 10 0])
 (.block 0 (.loop MY)))
 (.seq (.af [U 40 4,⟨some 41,.call 31 [(.t 40),(.c (.str [32]))],none,[40]⟩,U 2 41,ca 3 0])
 (.ret))))
theorem Xh:cg 19 42 Tryz.f19 MX [.t 2,.t 3]:=⟨Tryz.func19,by kernel_rfl⟩
def M0:bE:=
 .seq (.seq (.af [U 6 5,U 7 0,fb 8 7,gi 9 6 8])
 (.cond (.t 9)
 (.skip)
 (.exit 0)))
 (.seq (.block 1 (.seq (.seq (.af [U 12 0,U 13 5,⟨some 14,.dG 4 (.t 12) (.t 13),none,[12,13]⟩,z' 15 14,eX 16 15 32,tn 17 16])
 (.cond (.t 17)
 (.seq (.af [mq 2,ca 3 2])
 (.ret))
 (.skip)))
 (.seq (.seq (.af [U 18 5,kk 19 18 0])
 (.cond (.t 19)
 (.af [U 20 4,vc 21 32,k3 22 20 21,U 4 22])
 (.skip)))
 (.af [U 23 4,U 24 0,U 25 5,⟨some 26,.dG 4 (.t 24) (.t 25),none,[24,25]⟩,z' 27 26,eX 28 27 33,k3 29 23 28,U 4 29]))))
 (.af [U 10 5,eW 11 10 1,U 5 11]))
def MZ:bE:=
 .seq (.af [mq 2,ca 3 0])
 (.seq (.af [jm 4])
 (.seq (.seq (.af [ca 5 0])
 (.block 0 (.loop M0)))
 (.seq (.af [U 30 4,z7 31 30,U 2 31,ca 3 0])
 (.ret))))
theorem Xi:cg 20 32 Tryz.f20 MZ [.t 2,.t 3]:=⟨Tryz.func20,by kernel_rfl⟩
def M1:bE:=
 .seq (.af [gi 12 11 10])
 (.seq (.cond (.t 12)
 (.skip)
 (.exit 0))
 (.seq (.block 1 (.seq (.af [jl 13 9 11,ck 14 13,o' 5,⟨none,.st 5 (.t 5) (.t 14),none,[5,14]⟩])
 (.seq (.af [dY 15 5,a' 16 15,eX 17 16 35,tl 18 17 7,U 19 18,hH 20 3 19,vg 21 5 19,Gy 22 20 21 19 36,vh 23 22 19,fD 24 19 23])
 (.cond (.t 24)
 (.seq (.af [ca 2 2])
 (.ret))
 (.skip)))))
 (.af [eW 25 11 1,U 11 25])))
def M3:bE:=
 .seq (.af [gi 29 28 27])
 (.seq (.cond (.t 29)
 (.skip)
 (.exit 2))
 (.seq (.block 3 (.seq (.af [jl 30 26 28,ck 31 30,o' 7,⟨none,.st 5 (.t 7) (.t 31),none,[7,31]⟩])
 (.seq (.af [ck 32 7,eX 33 32 37,kk 34 33 200])
 (.cond (.t 34)
 (.seq (.af [ca 2 260])
 (.ret))
 (.skip)))))
 (.af [eW 35 28 1,U 28 35])))
def c21:bE:=
 .seq (.af [ca 2 0])
 (.seq (.af [⟨some 8,.call 34 [],none,[]⟩,U 3 8])
 (.seq (.seq (.af [U 9 0,fb 10 9,ca 11 0])
 (.block 0 (.loop M1)))
 (.seq (.seq (.af [U 26 0,fb 27 26,ca 28 0])
 (.block 2 (.loop M3)))
 (.seq (.af [ca 2 0])
 (.ret)))))
theorem Xj:cg 21 36 Tryz.f21 c21 [.t 2]:=⟨Tryz.func21,by kernel_rfl⟩
def M4:bE:=
 .seq (.af [fO 3 1])
 (.block 0 (.seq (.af [dY 8 3,a' 9 8,oG 10 9 10,U 7 10])
 (.cond (.t 7)
 (.af [U 11 0,ck 12 3,ct 13 11 12 38])
 (.seq (.af [dY 15 3,a' 16 15,oG 17 16 20,U 14 17])
 (.cond (.t 14)
 (.af [U 18 0,ck 19 3,ct 20 18 19 39])
 (.seq (.af [dY 22 3,a' 23 22,oG 24 23 45,U 21 24])
 (.cond (.t 21)
 (.af [U 25 0,ck 26 3,ct 27 25 26 40])
 (.af [U 4 0,ck 5 3,ct 6 4 5 41]))))))))
theorem Xk:cg 23 28 Tryz.f23 M4 []:=⟨Tryz.func23,by kernel_rfl⟩
def M6:bE:=
 .seq (.af [gi 10 9 8])
 (.seq (.cond (.t 10)
 (.skip)
 (.exit 0))
 (.seq (.block 1 (.seq (.af [q0 11 7 9,a' 12 11,U 5 12])
 (.seq (.af [ca 6 7])
 (.seq (.seq (.af [U 13 5,tm 14 13,CQ 15 14 97,U 16 15,fj 17 5 16,C_ 18 17 16 0,CS 19 18 16 122,ew 20 16 19])
 (.cond (.t 20)
 (.af [ca 6 6])
 (.skip)))
 (.af [U 21 0,U 22 0,dx 23 22,c0 24 23,a' 25 24,U 26 6,U 27 5,z1 28 26 27,vd 29 28,vb 30 25 29,dx 31 21,c0 32 31,⟨none,.st 1 (.t 32) (.t 30),none,[32,30]⟩])))))
 (.af [eW 33 9 1,U 9 33])))
def Hh:bE:=
 .seq (.af [U 7 1,fb 8 7,ca 9 0])
 (.block 0 (.loop M6))
theorem M5:cg 24 34 Tryz.f24 Hh []:=⟨Tryz.func24,by kernel_rfl⟩
def M8:bE:=
 .seq (.seq (.af [U 5 3,U 6 0,fb 7 6,gi 8 5 7])
 (.cond (.t 8)
 (.skip)
 (.exit 0)))
 (.seq (.block 1 (.seq (.af [U 11 0,U 12 3,jl 13 11 12,dY 14 13,a' 15 14,eX 16 15 42,tl 17 16 7,U 18 17,hH 19 0 18,hH 20 3 18,⟨some 21,.dG 5 (.t 19) (.t 20),(some (18,false)),[19,20,18]⟩,vg 22 21 18,vf 23 22 18 43,vh 24 23 18,fD 25 18 24])
 (.cond (.t 25)
 (.seq (.af [ca 2 2])
 (.ret))
 (.skip))))
 (.af [U 9 3,eW 10 9 1,U 3 10]))
def M9:bE:=
 .seq (.seq (.af [U 26 4,U 27 0,fb 28 27,gi 29 26 28])
 (.cond (.t 29)
 (.skip)
 (.exit 2)))
 (.seq (.block 3 (.seq (.af [U 32 0,U 33 4,jl 34 32 33,ck 35 34,eX 36 35 44,kk 37 36 200])
 (.cond (.t 37)
 (.seq (.af [ca 2 260])
 (.ret))
 (.skip))))
 (.af [U 30 4,eW 31 30 1,U 4 31]))
def M7:bE:=
 .seq (.af [ca 2 0])
 (.seq (.seq (.af [ca 3 0])
 (.block 0 (.loop M8)))
 (.seq (.seq (.af [ca 4 0])
 (.block 2 (.loop M9)))
 (.seq (.af [ca 2 0])
 (.ret))))
theorem Xl:cg 25 38 Tryz.f25 M7 [.t 2]:=⟨Tryz.func25,by kernel_rfl⟩
def Hi:bE:=
 .seq (.seq (.af [U 40 4,de 41 3,a' 42 41,fb 43 42,gi 44 40 43])
 (.cond (.t 44)
 (.skip)
 (.exit 1)))
 (.seq (.block 2 (.seq (.seq (.af [U 47 4,c0 48 3,a' 49 48,⟨some 50,.bin (.int .gtr) (.t 47) (.t 49),none,[47,49]⟩])
 (.cond (.t 50)
 (.af [U 51 0,⟨some 52,.call 45 [(.t 51),(.c (.str [124]))],none,[51]⟩])
 (.skip)))
 (.af [U 53 0,de 54 3,a' 55 54,U 56 4,jl 57 55 56,ck 58 57,ct 59 53 58 48])))
 (.af [U 45 4,eW 46 45 1,U 4 46]))
def M':bE:=
 .seq (.af [fO 3 1])
 (.seq (.seq (.af [dY 5 3,a' 6 5])
 (.block 0 (.seq (.af [bp 12 6 50,U 11 12])
 (.cond (.t 11)
 (.seq (.af [U 13 0,⟨some 14,.call 45 [(.t 13),(.c (.str [116,121,112,101]))],none,[13]⟩])
 (.seq (.seq (.af [c0 15 3,a' 16 15,kk 17 16 1])
 (.cond (.t 17)
 (.af [U 18 0,xy 19 18])
 (.skip)))
 (.seq (.af [U 20 0,de 21 3,a' 22 21,c0 23 3,a' 24 23,CM 25 22 24,Gx 26 20 25 46 1])
 (.seq (.seq (.af [c0 27 3,a' 28 27,kk 29 28 1])
 (.cond (.t 29)
 (.af [U 30 0,xz 31 30])
 (.skip)))
 (.seq (.af [U 32 0,fT 33 3,a' 34 33,gv 35 32 34 47 3])
 (.seq (.af [U 36 0,C6 37 36])
 (.seq (.af [c0 38 3,a' 39 38,U 4 39])
 (.block 1 (.loop Hi)))))))))
 (.seq (.af [bp 61 6 51,U 60 61])
 (.cond (.t 60)
 (.seq (.af [U 62 0,⟨some 63,.call 45 [(.t 62),(.c (.str [101,120,99,101,112,116,105,111,110]))],none,[62]⟩])
 (.af [U 64 0,ck 65 3,ct 66 64 65 48]))
 (.seq (.af [bp 68 6 52,U 67 68])
 (.cond (.t 67)
 (.seq (.af [U 69 0,Gz 70 69])
 (.seq (.af [U 71 0,de 72 3,a' 73 72,f_ 74 73 0,ck 75 74,ct 76 71 75 49])
 (.seq (.af [U 77 0,C6 78 77])
 (.af [U 79 0,de 80 3,a' 81 80,f_ 82 81 1,ck 83 82,ct 84 79 83 49]))))
 (.af [U 7 0,de 8 3,a' 9 8,ct 10 7 9 50])))))))))
 (.af [U 85 0,⟨some 86,.call 45 [(.t 85),(.c (.str [59,59]))],none,[85]⟩]))
theorem Xm:cg 26 87 Tryz.f26 M' []:=⟨Tryz.func26,by kernel_rfl⟩
def M_:bE:=
 .seq (.af [fO 1 0,fC 2])
 (.seq (.seq (.af [dY 3 1,a' 4 3])
 (.block 0 (.seq (.af [bp 6 4 1,U 5 6])
 (.cond (.t 5)
 (.seq (.af [fT 7 1,a' 8 7,zZ 9 8,U 10 9,r5 11 1 10,gw 12 11 10,⟨some 13,.bin (.int .geq) (.t 12) (.c (.int .i64 (-1073741824))),(some (10,true)),[12,10]⟩,ew 14 10 13,U 15 14,r5 16 1 15,gw 17 16 15,mZ 18 17 15 1073741823,ew 19 15 18,U 2 19])
 (.ret))
 (.seq (.af [bp 21 4 2,U 20 21])
 (.cond (.t 20)
 (.seq (.af [c0 22 1,a' 23 22,bp 24 23 0,U 25 24,o9 26 1 25,gw 27 26 25,z_ 28 27 25,mZ 29 28 25 4096,ew 30 25 29,U 2 30])
 (.ret))
 (.seq (.seq (.af [bp 32 4 3,U 31 32])
 (.cond (.t 31)
 (.skip)
 (.seq (.af [bp 33 4 4,U 31 33])
 (.cond (.t 31)
 (.skip)
 (.af [bp 34 4 5,U 31 34])))))
 (.cond (.t 31)
 (.seq (.af [c0 35 1,a' 36 35,bp 37 36 0,U 38 37,r4 39 1 38,gw 40 39 38,o9 41 1 38,gw 42 41 38,ve 43 40 42 38 51,ew 44 38 43,U 2 44])
 (.ret))
 (.seq (.af [bp 46 4 6,U 45 46])
 (.cond (.t 45)
 (.seq (.af [c0 47 1,a' 48 47,bp 49 48 0,U 50 49,o9 51 1 50,gw 52 51 50,⟨some 53,.bin (.str .neq) (.t 52) (.c (.str [])),(some (50,true)),[52,50]⟩,ew 54 50 53,U 55 54,o9 56 1 55,gw 57 56 55,⟨some 58,.call 52 [(.t 57),(.c (.str [32]))],(some (55,true)),[57,55]⟩,⟨some 59,.un .not (.t 58),(some (55,true)),[58,55]⟩,ew 60 55 59,U 61 60,o9 62 1 61,gw 63 62 61,Gs 64 63 61,Gr 65 64 61,GA 66 65 61,ew 67 61 66,U 2 67])
 (.ret))
 (.seq (.af [bp 69 4 7,U 68 69])
 (.cond (.t 68)
 (.seq (.draw [c0 70 1,a' 71 70,bp 72 71 0,U 73 72,o9 75 1 73,gw 76 75 73,z6 74 73 54,ve 77 74 76 73 53,ew 78 73 77,U 2 78] [(1,[6]),(5,[6,7])])
 (.ret))
 (.skip)))))))))))))
 (.seq (.af [fC 2])
 (.ret)))
theorem Xn:cg 28 79 Tryz.f28 M_ [.t 2]:=⟨Tryz.func28,by kernel_rfl⟩
def Nb:bE:=
 .seq (.af [gi 11 10 9])
 (.seq (.cond (.t 11)
 (.skip)
 (.exit 0))
 (.seq (.block 1 (.seq (.af [q0 12 8 10,a' 13 12,U 5 13])
 (.block 2 (.seq (.af [U 19 5,xt 20 19 34,U 21 20,hH 22 5 21,qY 23 22 21 92,fD 24 21 23,U 18 24])
 (.cond (.t 18)
 (.af [U 25 3,U 26 5,⟨some 27,.eP 2 1 [(.int .u8 0)] [(0,1,(.c (.int .u8 92))),(1,1,(.t 26))],none,[26]⟩,k3 28 25 27,U 3 28])
 (.seq (.af [U 30 5,Gq 31 30,U 32 31,hH 33 5 32,⟨some 34,.bin (.int .geq) (.t 33) (.c (.int .u8 127)),(some (32,false)),[33,32]⟩,fD 35 32 34,U 29 35])
 (.cond (.t 29)
 (.af [U 36 3,U 37 5,CT 38 37 100,xr 39 38,U 40 5,CT 41 40 10,CU 42 41,xr 43 42,U 44 5,CU 45 44,xr 46 45,Lv 47 39 43 46,k3 48 36 47,U 3 48])
 (.af [U 14 3,U 15 5,CW 16 15,k3 17 14 16,U 3 17]))))))))
 (.af [eW 49 10 1,U 10 49])))
def Na:bE:=
 .seq (.af [mq 2])
 (.seq (.af [vc 6 34,U 3 6])
 (.seq (.seq (.af [U 7 0,⟨some 8,.im .bytes (.t 7),none,[7]⟩,fb 9 8,ca 10 0])
 (.block 0 (.loop Nb)))
 (.seq (.af [U 50 3,vc 51 34,k3 52 50 51,z7 53 52,U 2 53])
 (.ret))))
theorem Xo:cg 30 54 Tryz.f30 Na [.t 2]:=⟨Tryz.func30,by kernel_rfl⟩
def tC:bE:=
 .seq (.af [fO 1 0,fC 2])
 (.seq (.seq (.af [dY 3 1,a' 4 3])
 (.block 0 (.seq (.af [bp 6 4 1,U 5 6])
 (.cond (.t 5)
 (.seq (.af [c0 7 1,a' 8 7,⟨some 9,.bin (.int .geq) (.t 8) (.c (.int .i64 (-1073741824))),none,[8]⟩,U 10 9,r5 11 1 10,gw 12 11 10,mZ 13 12 10 1073741823,ew 14 10 13,U 15 14,o9 16 1 15,gw 17 16 15,⟨some 18,.bin (.str .eql) (.t 17) (.c (.str [])),(some (15,true)),[17,15]⟩,ew 19 15 18,U 2 19])
 (.ret))
 (.seq (.af [bp 21 4 2,U 20 21])
 (.cond (.t 20)
 (.seq (.af [c0 22 1,a' 23 22,bp 24 23 0,U 25 24,o9 26 1 25,gw 27 26 25,z_ 28 27 25,mZ 29 28 25 4096,ew 30 25 29,U 2 30])
 (.ret))
 (.seq (.seq (.af [bp 32 4 3,U 31 32])
 (.cond (.t 31)
 (.skip)
 (.seq (.af [bp 33 4 4,U 31 33])
 (.cond (.t 31)
 (.skip)
 (.af [bp 34 4 5,U 31 34])))))
 (.cond (.t 31)
 (.seq (.af [c0 35 1,a' 36 35,bp 37 36 0,U 38 37,r4 39 1 38,gw 40 39 38,o9 41 1 38,gw 42 41 38,ve 43 40 42 38 59,ew 44 38 43,U 2 44])
 (.ret))
 (.seq (.af [bp 46 4 6,U 45 46])
 (.cond (.t 45)
 (.seq (.draw [c0 47 1,a' 48 47,bp 49 48 0,U 50 49,o9 51 1 50,gw 52 51 50,z6 53 50 61,ve 54 52 53 50 60,ew 55 50 54,U 2 55] [(1,[6]),(5,[6,7])])
 (.ret))
 (.seq (.af [bp 57 4 7,U 56 57])
 (.cond (.t 56)
 (.seq (.draw [c0 58 1,a' 59 58,bp 60 59 0,U 61 60,o9 62 1 61,gw 63 62 61,z6 64 61 62,ve 65 63 64 61 60,ew 66 61 65,U 2 66] [(1,[6]),(5,[6,7])])
 (.ret))
 (.skip)))))))))))))
 (.seq (.af [fC 2])
 (.ret)))
theorem Xp:cg 32 67 Tryz.f32 tC [.t 2]:=⟨Tryz.func32,by kernel_rfl⟩
def xS:bE:=
 .seq (.af [fO 1 0,mq 2])
 (.seq (.seq (.af [dY 3 1,a' 4 3])
 (.block 0 (.seq (.af [bp 6 4 1,U 5 6])
 (.cond (.t 5)
 (.seq (.seq (.af [c0 7 1,a' 8 7,oG 9 8 0])
 (.cond (.t 9)
 (.seq (.af [c0 10 1,a' 11 10,eW 12 11 2147483648,eX 13 12 63,U 2 13])
 (.ret))
 (.skip)))
 (.seq (.af [c0 14 1,a' 15 14,eX 16 15 63,U 2 16])
 (.ret)))
 (.seq (.af [bp 18 4 2,U 17 18])
 (.cond (.t 17)
 (.seq (.af [fT 19 1,a' 20 19,eX 21 20 64,U 2 21])
 (.ret))
 (.seq (.af [bp 23 4 5,U 22 23])
 (.cond (.t 22)
 (.seq (.af [fT 24 1,a' 25 24,CV 26 25,U 2 26])
 (.ret))
 (.skip)))))))))
 (.seq (.af [fT 27 1,a' 28 27,U 2 28])
 (.ret)))
theorem Xq:cg 33 29 Tryz.f33 xS [.t 2]:=⟨Tryz.func33,by kernel_rfl⟩
def Nc:bE:=
 .seq (.af [ca 2 0])
 (.seq (.block 0 (.seq (.af [U 4 0,k4 5 4 1,U 6 5,fj 7 0 6,mZ 8 7 6 4,ew 9 6 8,U 3 9])
 (.cond (.t 3)
 (.seq (.af [ca 2 1])
 (.ret))
 (.seq (.af [U 11 0,k4 12 11 10,U 13 12,fj 14 0 13,mZ 15 14 13 16,ew 16 13 15,U 10 16])
 (.cond (.t 10)
 (.seq (.af [ca 2 2])
 (.ret))
 (.seq (.af [U 18 0,k4 19 18 20,U 20 19,fj 21 0 20,mZ 22 21 20 39,ew 23 20 22,U 17 23])
 (.cond (.t 17)
 (.seq (.af [ca 2 3])
 (.ret))
 (.seq (.af [U 25 0,bp 26 25 45,U 24 26])
 (.cond (.t 24)
 (.seq (.af [ca 2 4])
 (.ret))
 (.seq (.af [U 28 0,bp 29 28 46,U 27 29])
 (.cond (.t 27)
 (.seq (.af [ca 2 5])
 (.ret))
 (.seq (.af [U 31 0,bp 32 31 47,U 30 32])
 (.cond (.t 30)
 (.seq (.af [ca 2 6])
 (.ret))
 (.seq (.af [U 34 0,k4 35 34 50,U 36 35,fj 37 0 36,mZ 38 37 36 53,ew 39 36 38,U 33 39])
 (.cond (.t 33)
 (.seq (.af [ca 2 7])
 (.ret))
 (.skip))))))))))))))))
 (.seq (.af [ca 2 0])
 (.ret)))
theorem Xr:cg 35 40 Tryz.f35 Nc [.t 2]:=⟨Tryz.func35,by kernel_rfl⟩
def Nf:bE:=
 .seq (.af [gi 88 87 86])
 (.seq (.cond (.t 88)
 (.skip)
 (.exit 0))
 (.seq (.block 1 (.seq (.af [U 89 87,jl 90 85 87,ck 91 90,o' 10,U 9 89,⟨none,.st 5 (.t 10) (.t 91),none,[10,91]⟩])
 (.seq (.af [c0 92 5,a' 93 92,U 11 93])
 (.seq (.block 2 (.seq (.af [U 95 9,U 96 7,fb 97 96,gi 98 95 97,U 94 98])
 (.cond (.t 94)
 (.af [U 99 7,U 100 9,q0 101 99 100,a' 102 101,U 11 102])
 (.seq (.af [U 104 9,U 105 7,fb 106 105,U 107 8,CN 108 106 107,xu 109 104 108,U 103 109])
 (.cond (.t 103)
 (.af [de 110 5,a' 111 110,U 112 9,U 113 7,fb 114 113,zX 115 112 114,U 116 8,zX 117 115 116,q0 118 111 117,a' 119 118,U 11 119])
 (.skip))))))
 (.seq (.af [ck 120 10,U 121 11,ct 122 120 121 67,tn 123 122,U 124 123,hH 125 0 124,vg 126 10 124,Gy 127 125 126 124 36,vh 128 127 124,fD 129 124 128])
 (.cond (.t 129)
 (.seq (.af [fC 4])
 (.ret))
 (.skip)))))))
 (.af [eW 130 87 1,U 87 130])))
def Nd:bE:=
 .seq (.af [fO 3 1,fC 4])
 (.seq (.af [U 13 0,dY 14 3,a' 15 14,⟨some 16,.look .int (.agg [.cc,(.int .i64 0),(.int .i64 0),(.int .i64 0),.cc,(.int .i64 0),(.int .i64 0),(.int .i64 0)]) true (.t 13) (.t 15),none,[13,15]⟩,U 12 16,m_ 17 12,na 18 12,⟨some 5,.new [.cc,(.int .i64 0),(.int .i64 0),(.int .i64 0),.cc,(.int .i64 0),(.int .i64 0),(.int .i64 0)],none,[]⟩,⟨none,.st 8 (.t 5) (.t 17),none,[5,17]⟩,U 6 18])
 (.seq (.seq (.af [U 19 6,tn 20 19,U 21 20,⟨some 22,.hi 1 (.t 3),(some (21,false)),[3,21]⟩,mo 23 22 21,⟨some 24,.hi 5 (.t 5),(some (21,false)),[5,21]⟩,⟨some 25,.t' 2 1 (.t 24) (.c (.int .i64 0)),(some (21,false)),[24,21]⟩,mo 26 25 21,⟨some 27,.bin (.int .lss) (.t 23) (.t 26),(some (21,false)),[23,26,21]⟩,fD 28 21 27,U 29 28,⟨some 30,.hi 1 (.t 3),(some (29,false)),[3,29]⟩,mo 31 30 29,⟨some 32,.hi 5 (.t 5),(some (29,false)),[5,29]⟩,⟨some 33,.t' 2 1 (.t 32) (.c (.int .i64 1)),(some (29,false)),[32,29]⟩,mo 34 33 29,⟨some 35,.bin (.int .gtr) (.t 31) (.t 34),(some (29,false)),[31,34,29]⟩,fD 36 29 35,U 37 36,C8 38 3 37,mo 39 38 37,⟨some 40,.bin (.int .lss) (.t 39) (.c (.int .i64 0)),(some (37,false)),[39,37]⟩,fD 41 37 40,U 42 41,C8 43 3 42,mo 44 43 42,CR 45 44 42 65536,fD 46 42 45,U 47 46,⟨some 48,.hi 7 (.t 5),(some (47,false)),[5,47]⟩,mo 49 48 47,⟨some 50,.hi 3 (.t 3),(some (47,false)),[3,47]⟩,mo 51 50 47,Gy 52 49 51 47 65,vh 53 52 47,fD 54 47 53])
 (.cond (.t 54)
 (.seq (.af [fC 4])
 (.ret))
 (.skip)))
 (.seq (.af [dY 55 5,a' 56 55,U 7 56])
 (.seq (.seq (.af [dY 57 3,a' 58 57,bp 59 58 50])
 (.cond (.t 59)
 (.af [Gt 60 8,c0 61 3,a' 62 61,ct 63 60 62 66,U 7 63])
 (.skip)))
 (.seq (.af [de 64 3,a' 65 64,fb 66 65,U 67 7,fb 68 67,zX 69 66 68,de 70 5,a' 71 70,fb 72 71,zX 73 69 72,U 8 73])
 (.seq (.seq (.af [U 74 8,oH 75 5,a' 76 75,gi 77 74 76,U 78 77,hH 79 8 78,⟨some 80,.hi 3 (.t 5),(some (78,false)),[5,78]⟩,mo 81 80 78,⟨some 82,.bin (.int .gtr) (.t 79) (.t 81),(some (78,false)),[79,81,78]⟩,fD 83 78 82])
 (.cond (.t 83)
 (.seq (.af [fC 4])
 (.ret))
 (.skip)))
 (.seq (.seq (.af [de 84 3,a' 85 84,fb 86 85,ca 87 0])
 (.block 0 (.loop Nf)))
 (.seq (.af [⟨some 4,.bg (.c (.bool true)),none,[]⟩])
 (.ret)))))))))
theorem Xs:cg 36 131 Tryz.f36 Nd [.t 4]:=⟨Tryz.func36,by kernel_rfl⟩
def Nh:bE:=
 .seq (.af [gi 10 9 8])
 (.seq (.cond (.t 10)
 (.skip)
 (.exit 0))
 (.seq (.block 1 (.seq (.af [jl 11 7 9,ck 12 11,o' 5,⟨none,.st 5 (.t 5) (.t 12),none,[5,12]⟩])
 (.af [U 13 3,ck 14 5,eX 15 14 37,⟨some 16,.eT [(.t 13),(.t 15)],none,[13,15]⟩,U 3 16])))
 (.af [eW 17 9 1,U 9 17])))
def Ng:bE:=
 .seq (.af [fO 1 0,ca 2 0])
 (.seq (.af [ca 3 0])
 (.seq (.seq (.af [de 6 1,a' 7 6,fb 8 7,ca 9 0])
 (.block 0 (.loop Nh)))
 (.seq (.af [U 18 3,eW 19 18 1,U 2 19])
 (.ret))))
theorem Xt:cg 37 20 Tryz.f37 Ng [.t 2]:=⟨Tryz.func37,by kernel_rfl⟩
def Ni:bE:=
 .seq (.af [fO 3 1])
 (.seq (.af [dY 4 3,a' 5 4])
 (.block 0 (.seq (.af [bp 37 5 1,U 36 37])
 (.cond (.t 36)
 (.af [U 38 0,fT 39 3,a' 40 39,gv 41 38 40 68 5])
 (.seq (.af [bp 43 5 4,U 42 43])
 (.cond (.t 42)
 (.af [U 44 0,ck 45 3,C2 46 44 45 69 2 1])
 (.seq (.af [bp 48 5 3,U 47 48])
 (.cond (.t 47)
 (.af [U 49 0,ck 50 3,⟨some 51,.call 69 [(.t 49),(.t 50),(.c (.int .i64 3)),(.c (.str [42])),(.c (.int .i64 2))],none,[49,50]⟩])
 (.seq (.seq (.af [de 6 3,a' 7 6,fb 8 7,bp 9 8 1])
 (.cond (.t 9)
 (.af [U 10 0,de 11 3,a' 12 11,f_ 13 12 0,ck 14 13,gv 15 10 14 70 3])
 (.skip)))
 (.seq (.seq (.af [de 16 3,a' 17 16,fb 18 17,kk 19 18 1])
 (.cond (.t 19)
 (.seq (.af [U 20 0,CX 21,ct 22 20 21 24])
 (.seq (.af [U 23 0,de 24 3,a' 25 24,U 26 0,⟨some 27,.uz 72 [(.t 26)],none,[26]⟩,⟨some 28,.call 71 [(.t 23),(.t 25),(.c (.str [44])),(.t 27)],none,[23,25,27]⟩])
 (.af [U 29 0,CY 30,ct 31 29 30 24])))
 (.skip)))
 (.af [U 32 0,fT 33 3,a' 34 33,gv 35 32 34 68 3])))))))))))
theorem Xu:cg 38 52 Tryz.f38 Ni []:=⟨Tryz.func38,by kernel_rfl⟩
def Nk:bE:=
 .seq (.af [gi 16 15 14])
 (.seq (.cond (.t 16)
 (.skip)
 (.exit 1))
 (.seq (.block 2 (.seq (.af [jl 17 13 15,ck 18 17,o' 5,⟨none,.st 5 (.t 5) (.t 18),none,[5,18]⟩])
 (.af [U 19 0,ck 20 5,gv 21 19 20 70 3])))
 (.af [eW 22 15 1,U 15 22])))
def Nj:bE:=
 .seq (.af [fO 3 1])
 (.seq (.af [dY 6 3,a' 7 6])
 (.block 0 (.seq (.af [bp 24 7 10,U 23 24])
 (.cond (.t 23)
 (.af [U 25 0,⟨some 26,.eP 1 1 [(.str [])] [(0,1,(.c (.str [95])))],none,[]⟩,ct 27 25 26 24])
 (.seq (.af [bp 29 7 11,U 28 29])
 (.cond (.t 28)
 (.af [U 30 0,fT 31 3,a' 32 31,gv 33 30 32 68 3])
 (.seq (.af [bp 35 7 12,U 34 35])
 (.cond (.t 34)
 (.af [U 36 0,c0 37 3,a' 38 37,ct 39 36 38 73])
 (.seq (.af [bp 41 7 13,U 40 41])
 (.cond (.t 40)
 (.af [U 42 0,⟨some 43,.eP 2 1 [(.str [])] [(0,1,(.c (.str [40]))),(1,1,(.c (.str [41])))],none,[]⟩,ct 44 42 43 24])
 (.seq (.af [bp 46 7 14,U 45 46])
 (.cond (.t 45)
 (.af [U 47 0,c0 48 3,a' 49 48,ct 50 47 49 74])
 (.seq (.af [bp 52 7 15,U 51 52])
 (.cond (.t 51)
 (.af [U 53 0,ck 54 3,C1 55 53 54 69 2 1])
 (.seq (.af [U 8 0,fT 9 3,a' 10 9,gv 11 8 10 68 4])
 (.seq (.af [de 12 3,a' 13 12,fb 14 13,ca 15 0])
 (.block 1 (.loop Nk))))))))))))))))))
theorem Xv:cg 39 56 Tryz.f39 Nj []:=⟨Tryz.func39,by kernel_rfl⟩
def Nn:bE:=
 .seq (.af [gi 53 52 51])
 (.seq (.cond (.t 53)
 (.skip)
 (.exit 1))
 (.seq (.block 2 (.seq (.af [jl 54 50 52,ck 55 54,o' 5,⟨none,.st 5 (.t 5) (.t 55),none,[5,55]⟩])
 (.af [U 56 0,ck 57 5,gv 58 56 57 70 10])))
 (.af [eW 59 52 1,U 52 59])))
def Nl:bE:=
 .seq (.af [fO 3 1])
 (.seq (.af [dY 9 3,a' 10 9])
 (.block 0 (.seq (.af [bp 15 10 20,U 14 15])
 (.cond (.t 14)
 (.af [U 16 0,c0 17 3,a' 18 17,ct 19 16 18 73])
 (.seq (.af [bp 21 10 21,U 20 21])
 (.cond (.t 20)
 (.af [U 22 0,fT 23 3,a' 24 23,gv 25 22 24 68 2])
 (.seq (.af [bp 27 10 22,U 26 27])
 (.cond (.t 26)
 (.af [U 28 0,⟨some 29,.eP 2 1 [(.str [])] [(0,1,(.c (.str [40]))),(1,1,(.c (.str [41])))],none,[]⟩,ct 30 28 29 24])
 (.seq (.af [bp 32 10 23,U 31 32])
 (.cond (.t 31)
 (.af [U 33 0,c0 34 3,a' 35 34,ct 36 33 35 74])
 (.seq (.af [bp 38 10 24,U 37 38])
 (.cond (.t 37)
 (.af [U 39 0,fT 40 3,a' 41 40,gv 42 39 41 68 3])
 (.seq (.af [bp 44 10 25,U 43 44])
 (.cond (.t 43)
 (.seq (.af [U 45 0,fT 46 3,a' 47 46,gv 48 45 47 68 4])
 (.seq (.af [de 49 3,a' 50 49,fb 51 50,ca 52 0])
 (.block 1 (.loop Nn))))
 (.seq (.af [bp 61 10 26,U 60 61])
 (.cond (.t 60)
 (.af [U 62 0,ck 63 3,C1 64 62 63 69 5 4])
 (.seq (.af [bp 66 10 35,U 65 66])
 (.cond (.t 65)
 (.af [U 67 0,ck 68 3,⟨some 69,.call 69 [(.t 67),(.t 68),(.c (.int .i64 2)),(.c (.str [59])),(.c (.int .i64 1))],none,[67,68]⟩])
 (.seq (.af [bp 71 10 37,U 70 71])
 (.cond (.t 70)
 (.af [U 72 0,ck 73 3,⟨some 74,.call 69 [(.t 72),(.t 73),(.c (.int .i64 4)),(.c (.str [58,61])),(.c (.int .i64 2))],none,[72,73]⟩])
 (.seq (.af [bp 76 10 38,U 75 76])
 (.cond (.t 75)
 (.seq (.af [fT 77 3,a' 78 77,eX 79 78 75,U 6 79])
 (.seq (.af [U 80 6,U 7 80])
 (.seq (.seq (.af [U 81 6,bp 82 81 5])
 (.cond (.t 82)
 (.af [ca 7 6])
 (.skip)))
 (.af [U 83 0,ck 84 3,U 85 7,fT 86 3,a' 87 86,U 88 6,eW 89 88 1,⟨some 90,.call 69 [(.t 83),(.t 84),(.t 85),(.t 87),(.t 89)],none,[83,84,85,87,89]⟩]))))
 (.seq (.af [bp 92 10 28,U 91 92])
 (.cond (.t 91)
 (.seq (.af [de 93 3,a' 94 93,f_ 95 94 0,ck 96 95,o' 8,⟨none,.st 5 (.t 8) (.t 96),none,[8,96]⟩])
 (.seq (.draw [U 97 0,U 98 0,dx 99 98,dY 100 99,a' 101 100,ck 102 8,ck 115 8,ct 103 101 102 77,oG 104 103 9,U 105 104,⟨some 106,.hi 0 (.t 8),(some (105,false)),[8,105]⟩,mo 107 106 105,CO 108 107 105 25,fD 109 105 108,U 110 109,⟨some 111,.hi 0 (.t 8),(some (110,false)),[8,110]⟩,mo 112 111 110,CO 113 112 110 34,fD 114 110 113,C0 116 97 114 115 76] [(4,[7]),(5,[7]),(11,[19]),(16,[19]),(6,[7,19])])
 (.af [U 117 0,de 118 3,a' 119 118,f_ 120 119 1,ck 121 120,gv 122 117 121 70 10])))
 (.seq (.af [bp 124 10 34,U 123 124])
 (.cond (.t 123)
 (.seq (.af [U 125 0,⟨some 126,.eP 1 1 [(.str [])] [(0,1,(.c (.str [114,97,105,115,101])))],none,[]⟩,ct 127 125 126 24])
 (.af [U 128 0,de 129 3,a' 130 129,f_ 131 130 0,ck 132 131,gv 133 128 132 70 10]))
 (.seq (.af [bp 135 10 36,U 134 135])
 (.cond (.t 134)
 (.seq (.af [U 136 0,⟨some 137,.eP 1 1 [(.str [])] [(0,1,(.c (.str [33])))],none,[]⟩,ct 138 136 137 24])
 (.af [U 139 0,de 140 3,a' 141 140,f_ 142 141 0,ck 143 142,gv 144 139 143 70 8]))
 (.seq (.af [bp 146 10 39,U 145 146])
 (.cond (.t 145)
 (.seq (.af [U 147 0,⟨some 148,.eP 1 1 [(.str [])] [(0,1,(.c (.str [45])))],none,[]⟩,ct 149 147 148 24])
 (.af [U 150 0,de 151 3,a' 152 151,f_ 153 152 0,ck 154 153,gv 155 150 154 70 8]))
 (.af [U 11 0,ck 12 3,ct 13 11 12 78])))))))))))))))))))))))))))))))
theorem Xw:cg 40 156 Tryz.f40 Nl []:=⟨Tryz.func40,by kernel_rfl⟩
def Hj:bE:=
 .seq (.af [gi 45 44 43])
 (.seq (.cond (.t 45)
 (.skip)
 (.exit 1))
 (.seq (.block 2 (.seq (.af [jl 46 42 44,ck 47 46,o' 5,⟨none,.st 5 (.t 5) (.t 47),none,[5,47]⟩])
 (.seq (.af [U 48 0,⟨some 49,.eP 1 1 [(.str [])] [(0,1,(.c (.str [111,102])))],none,[]⟩,ct 50 48 49 24])
 (.af [U 51 0,ck 52 5,gv 53 51 52 70 1]))))
 (.af [eW 54 44 1,U 44 54])))
def No:bE:=
 .seq (.af [fO 3 1])
 (.seq (.af [dY 6 3,a' 7 6])
 (.block 0 (.seq (.af [bp 9 7 45,U 8 9])
 (.cond (.t 8)
 (.af [U 10 0,ck 11 3,C2 12 10 11 69 1 1])
 (.seq (.af [bp 14 7 46,U 13 14])
 (.cond (.t 13)
 (.seq (.af [U 15 0,fT 16 3,a' 17 16,gv 18 15 17 68 3])
 (.seq (.af [U 19 0,⟨some 20,.eP 1 1 [(.str [])] [(0,1,(.c (.str [61])))],none,[]⟩,ct 21 19 20 24])
 (.af [U 22 0,de 23 3,a' 24 23,f_ 25 24 0,ck 26 25,gv 27 22 26 70 1])))
 (.seq (.seq (.af [bp 29 7 47,U 28 29])
 (.cond (.t 28)
 (.skip)
 (.af [bp 30 7 51,U 28 30])))
 (.cond (.t 28)
 (.seq (.seq (.af [dY 31 3,a' 32 31,bp 33 32 51])
 (.cond (.t 33)
 (.af [U 34 0,⟨some 35,.eP 1 1 [(.str [])] [(0,1,(.c (.str [101,120,99,101,112,116,105,111,110])))],none,[]⟩,ct 36 34 35 24])
 (.skip)))
 (.seq (.af [U 37 0,fT 38 3,a' 39 38,gv 40 37 39 68 4])
 (.seq (.af [de 41 3,a' 42 41,fb 43 42,ca 44 0])
 (.block 1 (.loop Hj)))))
 (.seq (.af [bp 56 7 52,U 55 56])
 (.cond (.t 55)
 (.seq (.af [U 57 0,⟨some 58,.eP 1 1 [(.str [])] [(0,1,(.c (.str [108,101,116])))],none,[]⟩,ct 59 57 58 24])
 (.af [U 60 0,ck 61 3,Lx 62 60 61]))
 (.seq (.af [bp 64 7 53,U 63 64])
 (.cond (.t 63)
 (.seq (.af [U 65 0,Lu 66,ct 67 65 66 24])
 (.af [U 68 0,de 69 3,a' 70 69,U 71 0,Aa 72 71,⟨some 73,.call 71 [(.t 68),(.t 70),(.c (.str [97,110,100])),(.t 72)],none,[68,70,72]⟩]))
 (.seq (.af [bp 75 7 50,U 74 75])
 (.cond (.t 74)
 (.seq (.af [U 76 0,⟨some 77,.eP 1 1 [(.str [])] [(0,1,(.c (.str [116,121,112,101])))],none,[]⟩,ct 78 76 77 24])
 (.seq (.seq (.af [c0 79 3,a' 80 79,kk 81 80 1])
 (.cond (.t 81)
 (.af [U 82 0,CX 83,ct 84 82 83 24])
 (.skip)))
 (.seq (.af [U 85 0,de 86 3,a' 87 86,c0 88 3,a' 89 88,CM 90 87 89,U 91 0,Aa 92 91,⟨some 93,.call 71 [(.t 85),(.t 90),(.c (.str [44])),(.t 92)],none,[85,90,92]⟩])
 (.seq (.seq (.af [c0 94 3,a' 95 94,kk 96 95 1])
 (.cond (.t 96)
 (.af [U 97 0,CY 98,ct 99 97 98 24])
 (.skip)))
 (.seq (.af [U 100 0,fT 101 3,a' 102 101,gv 103 100 102 68 3])
 (.seq (.af [U 104 0,⟨some 105,.eP 1 1 [(.str [])] [(0,1,(.c (.str [61])))],none,[]⟩,ct 106 104 105 24])
 (.af [U 107 0,de 108 3,a' 109 108,c0 110 3,a' 111 110,⟨some 112,.ek 5 (.t 109) (some (.t 111)) none none,none,[109,111]⟩,U 113 0,Aa 114 113,⟨some 115,.call 71 [(.t 107),(.t 112),(.c (.str [124])),(.t 114)],none,[107,112,114]⟩])))))))
 (.skip)))))))))))))))
theorem Xx:cg 41 116 Tryz.f41 No []:=⟨Tryz.func41,by kernel_rfl⟩
def Np:bE:=
 .seq (.af [ca 2 0])
 (.seq (.block 0 (.seq (.af [U 4 0,k4 5 4 1,U 6 5,fj 7 0 6,mZ 8 7 6 4,ew 9 6 8,U 3 9])
 (.cond (.t 3)
 (.seq (.af [ca 2 1])
 (.ret))
 (.seq (.af [U 11 0,k4 12 11 10,U 13 12,fj 14 0 13,mZ 15 14 13 16,ew 16 13 15,U 10 16])
 (.cond (.t 10)
 (.seq (.af [ca 2 2])
 (.ret))
 (.seq (.af [U 18 0,k4 19 18 20,U 20 19,fj 21 0 20,mZ 22 21 20 39,ew 23 20 22,U 17 23])
 (.cond (.t 17)
 (.seq (.af [ca 2 3])
 (.ret))
 (.seq (.af [U 25 0,bp 26 25 45,U 24 26])
 (.cond (.t 24)
 (.seq (.af [ca 2 4])
 (.ret))
 (.seq (.af [U 28 0,bp 29 28 46,U 27 29])
 (.cond (.t 27)
 (.seq (.af [ca 2 5])
 (.ret))
 (.seq (.af [U 31 0,bp 32 31 47,U 30 32])
 (.cond (.t 30)
 (.seq (.af [ca 2 6])
 (.ret))
 (.seq (.af [U 34 0,k4 35 34 50,U 36 35,fj 37 0 36,mZ 38 37 36 53,ew 39 36 38,U 33 39])
 (.cond (.t 33)
 (.seq (.af [ca 2 7])
 (.ret))
 (.skip))))))))))))))))
 (.seq (.af [ca 2 0])
 (.ret)))
theorem Xy:cg 42 40 Tryz.f42 Np [.t 2]:=⟨Tryz.func42,by kernel_rfl⟩
def Nr:bE:=
 .seq (.seq (.af [U 38 5,de 39 1,a' 40 39,fb 41 40,gi 42 38 41])
 (.cond (.t 42)
 (.skip)
 (.exit 0)))
 (.seq (.block 1 (.seq (.af [fC 6])
 (.seq (.seq (.af [U 45 3,U 46 5,q0 47 45 46,a' 48 47,bp 49 48 8])
 (.cond (.t 49)
 (.af [de 50 1,a' 51 50,U 52 5,jl 53 51 52,dY 54 53,a' 55 54,bp 56 55 1,U 6 56])
 (.draw [de 57 1,a' 58 57,U 59 5,jl 60 58 59,dY 61 60,a' 62 61,U 64 3,U 65 5,q0 66 64 65,a' 67 66,eX 63 62 42,⟨some 68,.bin (.int .eql) (.t 63) (.t 67),none,[63,67]⟩,U 6 68] [(1,[10]),(5,[10]),(9,[10,13])])))
 (.seq (.af [U 69 6,tn 70 69,U 71 70,⟨some 72,.hi 4 (.t 1),(some (71,false)),[1,71]⟩,mo 73 72 71,hH 74 5 71,⟨some 75,.dG 5 (.t 73) (.t 74),(some (71,false)),[73,74,71]⟩,vg 76 75 71,vf 77 76 71 43,vh 78 77 71,fD 79 71 78])
 (.cond (.t 79)
 (.seq (.af [fC 2])
 (.ret))
 (.skip))))))
 (.af [U 43 5,eW 44 43 1,U 5 44]))
def Nq:bE:=
 .seq (.af [fO 1 0,fC 2])
 (.seq (.seq (.af [dY 7 1,a' 8 7,eX 9 8 42,bp 10 9 0,U 11 10,vg 12 1 11,vf 13 12 11 79,vh 14 13 11,fD 15 11 14,U 16 15,vg 17 1 16,vf 18 17 16 80,vh 19 18 16,fD 20 16 19,U 21 20,C8 22 1 21,mo 23 22 21,⟨some 24,.bin (.int .lss) (.t 23) (.c (.int .i64 0)),(some (21,false)),[23,21]⟩,fD 25 21 24,U 26 25,C8 27 1 26,mo 28 27 26,CR 29 28 26 65536,fD 30 26 29])
 (.cond (.t 30)
 (.seq (.af [fC 2])
 (.ret))
 (.skip)))
 (.seq (.af [ck 32 1,eX 33 32 81,U 31 33,m_ 34 31,na 35 31,U 3 34,U 4 35])
 (.seq (.seq (.af [U 36 4,tn 37 36])
 (.cond (.t 37)
 (.seq (.af [fC 2])
 (.ret))
 (.skip)))
 (.seq (.seq (.af [ca 5 0])
 (.block 0 (.loop Nr)))
 (.seq (.af [⟨some 2,.bg (.c (.bool true)),none,[]⟩])
 (.ret))))))
theorem Xz:cg 43 80 Tryz.f43 Nq [.t 2]:=⟨Tryz.func43,by kernel_rfl⟩
def Nt:bE:=
 .seq (.seq (.af [U 5 4,de 6 1,a' 7 6,fb 8 7,gi 9 5 8])
 (.cond (.t 9)
 (.skip)
 (.exit 0)))
 (.seq (.block 1 (.af [U 12 3,de 13 1,a' 14 13,U 15 4,jl 16 14 15,ck 17 16,eX 18 17 44,⟨some 19,.eT [(.t 12),(.t 18)],none,[12,18]⟩,U 3 19]))
 (.af [U 10 4,eW 11 10 1,U 4 11]))
def Ns:bE:=
 .seq (.af [fO 1 0,ca 2 0])
 (.seq (.af [ca 3 0])
 (.seq (.seq (.af [ca 4 0])
 (.block 0 (.loop Nt)))
 (.seq (.af [U 20 3,eW 21 20 1,U 2 21])
 (.ret))))
theorem XA:cg 44 22 Tryz.f44 Ns [.t 2]:=⟨Tryz.func44,by kernel_rfl⟩
def Nu:bE:=
 .seq (.af [ca 4 7])
 (.seq (.seq (.af [U 5 1,⟨some 6,.call 61 [],none,[]⟩,ct 7 5 6 60])
 (.cond (.t 7)
 (.af [ca 4 6])
 (.skip)))
 (.af [U 8 0,U 9 0,dx 10 9,dY 11 10,a' 12 11,U 13 4,U 14 1,z1 15 13 14,vd 16 15,vb 17 12 16,dx 18 8,dY 19 18,⟨none,.st 1 (.t 19) (.t 17),none,[19,17]⟩]))
theorem XB:cg 45 20 Tryz.f45 Nu []:=⟨Tryz.func45,by kernel_rfl⟩
def Nw:bE:=
 .seq (.seq (.af [U 9 8,U 10 1,fb 11 10,gi 12 9 11])
 (.cond (.t 12)
 (.skip)
 (.exit 0)))
 (.seq (.block 1 (.seq (.seq (.af [U 15 8,kk 16 15 0])
 (.cond (.t 16)
 (.af [U 17 0,U 18 2,ct 19 17 18 45])
 (.skip)))
 (.af [U 20 0,U 21 1,U 22 8,jl 23 21 22,ck 24 23,U 25 3,C7 26 20 24 25])))
 (.af [U 13 8,eW 14 13 1,U 8 14]))
def Nv:bE:=
 .seq (.af [ca 8 0])
 (.block 0 (.loop Nw))
theorem XC:cg 46 27 Tryz.f46 Nv []:=⟨Tryz.func46,by kernel_rfl⟩
def Nx:bE:=
 .af [U 6 0,U 7 0,dx 8 7,dY 9 8,a' 10 9,U 11 1,U 12 2,z1 13 11 12,vd 14 13,vb 15 10 14,dx 16 6,dY 17 16,⟨none,.st 1 (.t 17) (.t 15),none,[17,15]⟩]
theorem XD:cg 47 18 Tryz.f47 Nx []:=⟨Tryz.func47,by kernel_rfl⟩
def Ny:bE:=
 .seq (.af [fO 3 1])
 (.seq (.af [U 4 0,fT 5 3,a' 6 5,gv 7 4 6 47 4])
 (.seq (.af [de 8 3,a' 9 8,fb 10 9,bp 11 10 1])
 (.cond (.t 11)
 (.seq (.af [U 12 0,⟨some 13,.call 45 [(.t 12),(.c (.str [111,102]))],none,[12]⟩])
 (.af [U 14 0,de 15 3,a' 16 15,f_ 17 16 0,ck 18 17,ct 19 14 18 49]))
 (.skip))))
theorem XE:cg 48 20 Tryz.f48 Ny []:=⟨Tryz.func48,by kernel_rfl⟩
def c49:bE:=
 .seq (.af [fO 3 1])
 (.block 0 (.seq (.af [dY 8 3,a' 9 8,oG 10 9 10,U 7 10])
 (.cond (.t 7)
 (.af [U 11 0,ck 12 3,ct 13 11 12 83])
 (.seq (.af [dY 15 3,a' 16 15,oG 17 16 20,U 14 17])
 (.cond (.t 14)
 (.af [U 18 0,ck 19 3,ct 20 18 19 84])
 (.af [U 4 0,ck 5 3,ct 6 4 5 85]))))))
theorem XF:cg 49 21 Tryz.f49 c49 []:=⟨Tryz.func49,by kernel_rfl⟩
def NB:bE:=
 .seq (.seq (.af [U 9 4,U 10 1,fb 11 10,gi 12 9 11])
 (.cond (.t 12)
 (.skip)
 (.exit 0)))
 (.seq (.block 1 (.seq (.seq (.af [U 15 4,kk 16 15 0])
 (.cond (.t 16)
 (.af [U 17 0,⟨some 18,.call 45 [(.t 17),(.c (.str [97,110,100]))],none,[17]⟩])
 (.skip)))
 (.seq (.af [U 19 0,U 20 1,U 21 4,jl 22 20 21,fT 23 22,a' 24 23,gv 25 19 24 47 3])
 (.seq (.af [U 26 0,C6 27 26])
 (.af [U 28 0,U 29 1,U 30 4,jl 31 29 30,de 32 31,a' 33 32,f_ 34 33 0,ck 35 34,ct 36 28 35 49])))))
 (.af [U 13 4,eW 14 13 1,U 4 14]))
def NA:bE:=
 .seq (.af [U 5 0,Gz 6 5])
 (.seq (.af [U 7 0,⟨some 8,.call 45 [(.t 7),(.c (.str [114,101,99]))],none,[7]⟩])
 (.seq (.af [ca 4 0])
 (.block 0 (.loop NB))))
theorem XH:cg 50 37 Tryz.f50 NA []:=⟨Tryz.func50,by kernel_rfl⟩
def c51:bE:=
 .seq (.af [fC 4])
 (.seq (.seq (.af [U 5 1,zZ 6 5,U 7 6,hH 8 1 7,⟨some 9,.len .str (.t 8),(some (7,false)),[8,7]⟩,CR 10 9 7 64,fD 11 7 10,U 12 11,hH 13 1 12,⟨some 14,.im .bytes (.t 13),(some (12,false)),[13,12]⟩,⟨some 15,.call 86 [(.t 14),(.c (.func 87 []))],(some (12,false)),[14,12]⟩,fD 16 12 15])
 (.cond (.t 16)
 (.seq (.af [fC 4])
 (.ret))
 (.skip)))
 (.seq (.seq (.af [U 17 0])
 (.block 0 (.seq (.af [bp 19 17 3,U 18 19])
 (.cond (.t 18)
 (.seq (.af [U 20 1,tm 21 20,eX 22 21 89,U 23 22,hH 24 1 23,⟨some 25,.oe (.t 24) (.c (.int .i64 0)),(some (23,false)),[24,23]⟩,qY 26 25 23 95,fD 27 23 26,U 28 27,fj 29 1 28,⟨some 30,.bin (.str .neq) (.t 29) (.c (.str [95])),(some (28,true)),[29,28]⟩,ew 31 28 30,U 32 31,fj 33 1 32,Gs 34 33 32,Gr 35 34 32,GA 36 35 32,⟨some 37,.un .not (.t 36),(some (32,true)),[36,32]⟩,ew 38 32 37,U 4 38])
 (.ret))
 (.seq (.af [bp 40 17 4,U 39 40])
 (.cond (.t 39)
 (.seq (.af [U 41 1,tm 42 41,eX 43 42 90,U 4 43])
 (.ret))
 (.skip)))))))
 (.seq (.af [U 44 1,tm 45 44,eX 46 45 89,U 4 46])
 (.ret))))
theorem XI:cg 51 47 Tryz.f51 c51 [.t 4]:=⟨Tryz.func51,by kernel_rfl⟩
def NC:bE:=
 .seq (.af [fC 4])
 (.seq (.af [U 5 0,U 6 1,ct 7 5 6 92,k4 8 7 0,U 4 8])
 (.ret))
theorem XJ:cg 53 9 Tryz.f53 NC [.t 4]:=⟨Tryz.func53,by kernel_rfl⟩
def NG:bE:=
 .seq (.seq (.af [U 13 5,U 14 1,kK 15 14,gi 16 13 15])
 (.cond (.t 16)
 (.skip)
 (.exit 0)))
 (.seq (.block 1 (.seq (.af [U 19 1,U 20 5,z8 21 19 20,eX 22 21 96,tn 23 22])
 (.cond (.t 23)
 (.seq (.af [fC 4])
 (.ret))
 (.skip))))
 (.af [U 17 5,eW 18 17 1,U 5 18]))
def NF:bE:=
 .seq (.af [fC 4])
 (.seq (.seq (.af [U 6 1,zZ 7 6,U 8 7,hH 9 1 8,⟨some 10,.len .str (.t 9),(some (8,false)),[9,8]⟩,CR 11 10 8 64,fD 12 8 11])
 (.cond (.t 12)
 (.seq (.af [fC 4])
 (.ret))
 (.skip)))
 (.seq (.seq (.af [ca 5 0])
 (.block 0 (.loop NG)))
 (.seq (.seq (.af [U 24 0])
 (.block 2 (.seq (.af [bp 26 24 4,U 25 26])
 (.cond (.t 25)
 (.seq (.af [U 27 1,tm 28 27,C4 29 28 97 65 90,U 4 29])
 (.ret))
 (.seq (.af [bp 31 24 5,U 30 31])
 (.cond (.t 30)
 (.seq (.af [U 32 1,tm 33 32,C4 34 33 97 97 122,U 4 34])
 (.ret))
 (.skip)))))))
 (.seq (.af [U 35 1,tm 36 35,C4 37 36 97 97 122,U 38 37,hH 39 1 38,⟨some 40,.oe (.t 39) (.c (.int .i64 0)),(some (38,false)),[39,38]⟩,qY 41 40 38 95,fD 42 38 41,U 43 42,fj 44 1 43,⟨some 45,.bin (.str .neq) (.t 44) (.c (.str [95])),(some (43,true)),[44,43]⟩,ew 46 43 45,U 47 46,fj 48 1 47,z6 49 47 61,ve 50 48 49 47 60,⟨some 51,.un .not (.t 50),(some (47,true)),[50,47]⟩,ew 52 47 51,U 4 52])
 (.ret)))))
theorem XL:cg 59 53 Tryz.f59 NF [.t 4]:=⟨Tryz.func59,by kernel_rfl⟩
def NK:bE:=
 .seq (.af [jm 0])
 (.seq (.af [Lt 1,U 0 1])
 (.ret))
theorem XO:cg 62 2 Tryz.f62 NK [.t 0]:=⟨Tryz.func62,by kernel_rfl⟩
def NL:bE:=
 .seq (.af [mq 2])
 (.seq (.seq (.af [U 3 0,oG 4 3 10])
 (.cond (.t 4)
 (.seq (.af [U 5 0,U 6 0,eW 7 6 1,⟨some 8,.qN (.c (.str [48,49,50,51,52,53,54,55,56,57])) (some (.t 5)) (some (.t 7)) none,none,[5,7]⟩,U 2 8])
 (.ret))
 (.skip)))
 (.seq (.af [U 9 0,⟨some 10,.bin (.int .quo) (.t 9) (.c (.int .i64 10)),none,[9]⟩,eX 11 10 63,U 12 0,⟨some 13,.bin (.int .rem) (.t 12) (.c (.int .i64 10)),none,[12]⟩,eX 14 13 63,⟨some 15,.bin (.str .add) (.t 11) (.t 14),none,[11,14]⟩,U 2 15])
 (.ret)))
theorem XP:cg 63 16 Tryz.f63 NL [.t 2]:=⟨Tryz.func63,by kernel_rfl⟩
def NN:bE:=
 .seq (.seq (.af [U 7 4,U 8 0,kK 9 8,gi 10 7 9])
 (.cond (.t 10)
 (.skip)
 (.exit 0)))
 (.seq (.block 1 (.seq (.af [U 13 0,U 14 4,z8 15 13 14,U 5 15])
 (.seq (.seq (.af [U 16 5,Gq 17 16,U 18 17,hH 19 5 18,⟨some 20,.bin (.int .gtr) (.t 19) (.c (.int .u8 126)),(some (18,false)),[19,18]⟩,fD 21 18 20])
 (.cond (.t 21)
 (.seq (.af [U 22 3,U 23 5,CT 24 23 100,xr 25 24,U 26 5,CT 27 26 10,CU 28 27,xr 29 28,U 30 5,CU 31 30,xr 32 31,Lv 33 25 29 32,k3 34 22 33,U 3 34])
 (.exit 1))
 (.skip)))
 (.seq (.seq (.af [U 35 5,xt 36 35 34,U 37 36,hH 38 5 37,qY 39 38 37 92,fD 40 37 39])
 (.cond (.t 40)
 (.af [U 41 3,vc 42 92,k3 43 41 42,U 3 43])
 (.skip)))
 (.af [U 44 3,U 45 5,CW 46 45,k3 47 44 46,U 3 47])))))
 (.af [U 11 4,eW 12 11 1,U 4 12]))
def NM:bE:=
 .seq (.af [mq 2])
 (.seq (.af [vc 6 34,U 3 6])
 (.seq (.seq (.af [ca 4 0])
 (.block 0 (.loop NN)))
 (.seq (.af [U 48 3,vc 49 34,k3 50 48 49,z7 51 50,U 2 51])
 (.ret))))
theorem XQ:cg 64 52 Tryz.f64 NM [.t 2]:=⟨Tryz.func64,by kernel_rfl⟩
def NO:bE:=
 .seq (.af [fC 4])
 (.seq (.seq (.af [U 5 0])
 (.block 0 (.seq (.af [bp 7 5 1,U 6 7])
 (.cond (.t 6)
 (.seq (.af [U 8 1,m' 9 8 98 3,U 4 9])
 (.ret))
 (.seq (.af [bp 11 5 2,U 10 11])
 (.cond (.t 10)
 (.seq (.af [U 12 1,m' 13 12 98 4,U 4 13])
 (.ret))
 (.seq (.af [bp 15 5 3,U 14 15])
 (.cond (.t 14)
 (.seq (.af [U 16 1,m' 17 16 98 5,U 4 17])
 (.ret))
 (.seq (.af [bp 19 5 4,U 18 19])
 (.cond (.t 18)
 (.seq (.af [U 20 1,kK 21 20,xv 22 21 4096,U 4 22])
 (.ret))
 (.seq (.af [bp 24 5 5,U 23 24])
 (.cond (.t 23)
 (.seq (.af [Lw 25,U 26 1,ct 27 25 26 53,U 4 27])
 (.ret))
 (.skip)))))))))))))
 (.seq (.af [U 28 1,zZ 29 28,U 4 29])
 (.ret)))
theorem XR:cg 65 30 Tryz.f65 NO [.t 4]:=⟨Tryz.func65,by kernel_rfl⟩
def NQ:bE:=
 .seq (.seq (.af [U 34 8,U 35 7,fb 36 35,gi 37 34 36])
 (.cond (.t 37)
 (.skip)
 (.exit 0)))
 (.block 1 (.draw [U 38 8,U 39 7,U 40 8,⟨some 41,.ek 1 (.t 39) (some (.t 40)) none none,none,[39,40]⟩,U 42 7,U 43 8,⟨some 44,.ek 1 (.t 42) none (some (.t 43)) none,none,[42,43]⟩,⟨some 45,.copy 1 (.t 41) (.t 44),none,[41,44]⟩,CN 46 38 45,U 8 46] []))
def NP:bE:=
 .seq (.af [jm 4])
 (.seq (.seq (.af [U 9 1,oG 10 9 0])
 (.cond (.t 10)
 (.af [⟨some 11,.sL 9 (.c (.str [99,97,110,110,111,116,32,98,101,32,110,101,103,97,116,105,118,101])),none,[]⟩,⟨none,.bad,none,[11]⟩])
 (.skip)))
 (.seq (.af [U 13 0,fb 14 13,⟨some 15,.im (.int .u64) (.t 14),none,[14]⟩,U 16 1,⟨some 17,.im (.int .u64) (.t 16),none,[16]⟩,ct 18 15 17 99,U 12 18,m_ 19 12,na 20 12,U 5 19,U 6 20])
 (.seq (.seq (.af [U 21 5,⟨some 22,.bin (.int .gtr) (.t 21) (.c (.int .u64 0)),none,[21]⟩,U 23 22,hH 24 6 23,⟨some 25,.bin (.int .gtr) (.t 24) (.c (.int .u64 9223372036854775807)),(some (23,false)),[24,23]⟩,fD 26 23 25])
 (.cond (.t 26)
 (.af [⟨some 27,.sL 9 (.c (.str [116,104,101,32,114,101,115,117,108,116,32,111,102,32,40,108,101,110,40,120,41,32,42,32,99,111,117,110,116,41,32,111,118,101,114,102,108,111,119,115])),none,[]⟩,⟨none,.bad,none,[27]⟩])
 (.skip)))
 (.seq (.af [U 28 6,⟨some 29,.im (.int .i64) (.t 28),none,[28]⟩,⟨some 30,.y7 1 [(.int .i64 0)] (.t 29) (.t 29),none,[29,29]⟩,U 7 30])
 (.seq (.af [U 31 7,U 32 0,⟨some 33,.copy 1 (.t 31) (.t 32),none,[31,32]⟩,U 8 33])
 (.seq (.block 0 (.loop NQ))
 (.seq (.af [U 47 7,U 4 47])
 (.ret))))))))
theorem XS:cg 66 48 Tryz.f66 NP [.t 4]:=⟨Tryz.func66,by kernel_rfl⟩
def NR:bE:=
 .seq (.af [fO 2 0,fC 4])
 (.seq (.seq (.af [U 5 1])
 (.block 0 (.seq (.af [bp 7 5 8,U 6 7])
 (.cond (.t 6)
 (.seq (.af [dY 8 2,a' 9 8,bp 10 9 1,U 4 10])
 (.ret))
 (.seq (.af [bp 12 5 9,U 11 12])
 (.cond (.t 11)
 (.seq (.af [dY 13 2,a' 14 13,bp 15 14 27,U 4 15])
 (.ret))
 (.skip)))))))
 (.seq (.af [dY 16 2,a' 17 16,eX 18 17 35,U 19 1,⟨some 20,.bin (.int .eql) (.t 18) (.t 19),none,[18,19]⟩,U 4 20])
 (.ret)))
theorem XT:cg 67 21 Tryz.f67 NR [.t 4]:=⟨Tryz.func67,by kernel_rfl⟩
def NS:bE:=
 .af [U 6 0,U 7 0,dx 8 7,c0 9 8,a' 10 9,U 11 1,U 12 2,z1 13 11 12,vd 14 13,vb 15 10 14,dx 16 6,c0 17 16,⟨none,.st 1 (.t 17) (.t 15),none,[17,15]⟩]
theorem XU:cg 68 18 Tryz.f68 NS []:=⟨Tryz.func68,by kernel_rfl⟩
def NT:bE:=
 .seq (.af [fO 6 1])
 (.seq (.af [U 10 0,U 11 2,de 12 6,a' 13 12,f_ 14 13 0,ck 15 14,C0 16 10 11 15 70])
 (.seq (.af [U 17 0,U 18 3,Gu 19 18,ct 20 17 19 24])
 (.af [U 21 0,U 22 4,de 23 6,a' 24 23,f_ 25 24 1,ck 26 25,C0 27 21 22 26 70])))
theorem XV:cg 69 28 Tryz.f69 NT []:=⟨Tryz.func69,by kernel_rfl⟩
def NV:bE:=
 .seq (.af [fO 5 2])
 (.draw [U 6 0,U 7 0,dx 8 7,dY 9 8,a' 10 9,ck 11 5,U 13 1,ck 15 5,ct 12 10 11 77,gi 14 12 13,C0 16 6 14 15 76] [(4,[8]),(5,[8]),(7,[8,10])])
theorem XW:cg 70 17 Tryz.f70 NV []:=⟨Tryz.func70,by kernel_rfl⟩
def NX:bE:=
 .seq (.af [gi 13 12 11])
 (.seq (.cond (.t 13)
 (.skip)
 (.exit 0))
 (.seq (.block 1 (.seq (.af [U 14 12,jl 15 10 12,ck 16 15,o' 9,U 8 14,⟨none,.st 5 (.t 9) (.t 16),none,[9,16]⟩])
 (.seq (.seq (.af [U 17 8,kk 18 17 0])
 (.cond (.t 18)
 (.af [U 19 0,U 20 2,Gu 21 20,ct 22 19 21 24])
 (.skip)))
 (.af [U 23 3,ck 24 9,⟨some 25,.p5 (.t 23) [(.t 24)],none,[23,24]⟩]))))
 (.af [eW 26 12 1,U 12 26])))
def NW:bE:=
 .seq (.af [U 10 1,fb 11 10,ca 12 0])
 (.block 0 (.loop NX))
theorem XX:cg 71 27 Tryz.f71 NW []:=⟨Tryz.func71,by kernel_rfl⟩
def NY:bE:=
 .seq (.af [fO 3 1])
 (.af [U 4 0,ck 5 3,gv 6 4 5 70 1])
theorem XY:cg 72 7 Tryz.f72 NY []:=⟨Tryz.func72,by kernel_rfl⟩
def NZ:bE:=
 .af [U 4 0,U 5 0,dx 6 5,c0 7 6,a' 8 7,U 9 1,Gv 10 9,vd 11 10,vb 12 8 11,dx 13 4,c0 14 13,⟨none,.st 1 (.t 14) (.t 12),none,[14,12]⟩]
theorem XZ:cg 73 15 Tryz.f73 NZ []:=⟨Tryz.func73,by kernel_rfl⟩
def N0:bE:=
 .seq (.seq (.af [U 4 1,bp 5 4 1])
 (.cond (.t 5)
 (.seq (.af [U 6 0,⟨some 7,.eP 1 1 [(.str [])] [(0,1,(.c (.str [116,114,117,101])))],none,[]⟩,ct 8 6 7 24])
 (.ret))
 (.skip)))
 (.af [U 9 0,⟨some 10,.eP 1 1 [(.str [])] [(0,1,(.c (.str [102,97,108,115,101])))],none,[]⟩,ct 11 9 10 24])
theorem X0:cg 74 12 Tryz.f74 N0 []:=⟨Tryz.func74,by kernel_rfl⟩
def N1:bE:=
 .seq (.af [ca 2 0])
 (.seq (.seq (.af [U 3 0])
 (.block 0 (.seq (.seq (.af [⟨some 5,.bin (.str .eql) (.t 3) (.c (.str [61])),none,[3]⟩,U 4 5])
 (.cond (.t 4)
 (.skip)
 (.seq (.af [⟨some 6,.bin (.str .eql) (.t 3) (.c (.str [60])),none,[3]⟩,U 4 6])
 (.cond (.t 4)
 (.skip)
 (.af [⟨some 7,.bin (.str .eql) (.t 3) (.c (.str [60,61])),none,[3]⟩,U 4 7])))))
 (.cond (.t 4)
 (.seq (.af [ca 2 5])
 (.ret))
 (.seq (.seq (.af [⟨some 9,.bin (.str .eql) (.t 3) (.c (.str [43])),none,[3]⟩,U 8 9])
 (.cond (.t 8)
 (.skip)
 (.af [⟨some 10,.bin (.str .eql) (.t 3) (.c (.str [45])),none,[3]⟩,U 8 10])))
 (.cond (.t 8)
 (.seq (.af [ca 2 6])
 (.ret))
 (.skip)))))))
 (.seq (.af [ca 2 7])
 (.ret)))
theorem X1:cg 75 11 Tryz.f75 N1 [.t 2]:=⟨Tryz.func75,by kernel_rfl⟩
def N2:bE:=
 .seq (.af [fO 5 2])
 (.seq (.seq (.af [U 6 1,U 7 6,r4 8 5 7,gw 9 8 7,⟨some 10,.bin (.int .neq) (.t 9) (.c (.int .i64 32)),(some (7,true)),[9,7]⟩,ew 11 7 10,U 12 11,r4 13 5 12,gw 14 13 12,⟨some 15,.bin (.int .neq) (.t 14) (.c (.int .i64 33)),(some (12,true)),[14,12]⟩,ew 16 12 15])
 (.cond (.t 16)
 (.seq (.af [U 17 0,CX 18,ct 19 17 18 24])
 (.af [U 20 0,CY 21,⟨some 17179869185,.gj (.c (.func 24 [])) [(.t 20),(.t 21)],none,[17179869185,20,21]⟩]))
 (.skip)))
 (.af [U 22 0,ck 23 5,ct 24 22 23 23]))
theorem X2:Gi 76 25 Tryz.f76 N2 []:=⟨Tryz.func76,by kernel_rfl⟩
def N3:bE:=
 .seq (.af [fO 3 1,ca 4 0])
 (.seq (.seq (.af [U 8 0,dY 9 3,a' 10 9,⟨some 11,.look .int (.int .i64 0) true (.t 8) (.t 10),none,[8,10]⟩,U 7 11,m_ 12 7,na 13 7,U 5 12,U 6 13])
 (.seq (.af [U 14 6])
 (.cond (.t 14)
 (.seq (.af [U 15 5,U 4 15])
 (.ret))
 (.skip))))
 (.seq (.block 0 (.seq (.af [dY 17 3,a' 18 17,bp 19 18 16,U 20 19,C9 21 3 20,gw 22 21 20,CL 23 22 20,Gp 24 23 20,ew 25 20 24,U 16 25])
 (.cond (.t 16)
 (.seq (.af [ca 4 2])
 (.ret))
 (.seq (.af [dY 27 3,a' 28 27,bp 29 28 25,U 30 29,C9 31 3 30,gw 32 31 30,CL 33 32 30,Gp 34 33 30,ew 35 30 34,U 26 35])
 (.cond (.t 26)
 (.seq (.af [ca 4 9])
 (.ret))
 (.seq (.af [dY 37 3,a' 38 37,bp 39 38 38,U 36 39])
 (.cond (.t 36)
 (.seq (.af [fT 40 3,a' 41 40,eX 42 41 75,U 4 42])
 (.ret))
 (.seq (.af [dY 44 3,a' 45 44,oG 46 45 20,U 43 46])
 (.cond (.t 43)
 (.seq (.af [ca 4 3])
 (.ret))
 (.skip))))))))))
 (.seq (.af [ca 4 10])
 (.ret))))
theorem X3:cg 77 47 Tryz.f77 N3 [.t 4]:=⟨Tryz.func77,by kernel_rfl⟩
def N4:bE:=
 .seq (.af [fO 3 1])
 (.seq (.af [dY 5 3,a' 6 5])
 (.block 0 (.seq (.af [bp 39 6 27,U 38 39])
 (.cond (.t 38)
 (.seq (.af [U 40 0,⟨some 41,.eP 1 1 [(.str [])] [(0,1,(.c (.str [102,117,110])))],none,[]⟩,ct 42 40 41 24])
 (.af [U 43 0,ck 44 3,C2 45 43 44 69 1 1]))
 (.seq (.af [bp 47 6 29,U 46 47])
 (.cond (.t 46)
 (.seq (.af [U 48 0,⟨some 49,.eP 1 1 [(.str [])] [(0,1,(.c (.str [108,101,116])))],none,[]⟩,ct 50 48 49 24])
 (.seq (.af [U 51 0,ck 52 3,Lx 53 51 52])
 (.seq (.af [U 54 0,⟨some 55,.eP 1 1 [(.str [])] [(0,1,(.c (.str [105,110])))],none,[]⟩,ct 56 54 55 24])
 (.af [U 57 0,de 58 3,a' 59 58,f_ 60 59 2,ck 61 60,gv 62 57 61 70 1]))))
 (.seq (.af [bp 64 6 30,U 63 64])
 (.cond (.t 63)
 (.seq (.af [de 65 3,a' 66 65,fb 67 66,qZ 68 67 1,U 4 68])
 (.seq (.af [U 69 0,Lu 70,ct 71 69 70 24])
 (.seq (.af [U 72 0,de 73 3,a' 74 73,U 75 4,CM 76 74 75,U 77 0,Aa 78 77,⟨some 79,.call 71 [(.t 72),(.t 76),(.c (.str [97,110,100])),(.t 78)],none,[72,76,78]⟩])
 (.seq (.af [U 80 0,⟨some 81,.eP 1 1 [(.str [])] [(0,1,(.c (.str [105,110])))],none,[]⟩,ct 82 80 81 24])
 (.af [U 83 0,de 84 3,a' 85 84,U 86 4,jl 87 85 86,ck 88 87,gv 89 83 88 70 1])))))
 (.seq (.af [bp 91 6 31,U 90 91])
 (.cond (.t 90)
 (.seq (.af [U 92 0,⟨some 93,.eP 1 1 [(.str [])] [(0,1,(.c (.str [105,102])))],none,[]⟩,ct 94 92 93 24])
 (.seq (.af [U 95 0,de 96 3,a' 97 96,f_ 98 97 0,ck 99 98,gv 100 95 99 70 1])
 (.seq (.af [U 101 0,⟨some 102,.eP 1 1 [(.str [])] [(0,1,(.c (.str [116,104,101,110])))],none,[]⟩,ct 103 101 102 24])
 (.seq (.af [U 104 0,de 105 3,a' 106 105,f_ 107 106 1,ck 108 107,gv 109 104 108 70 3])
 (.seq (.af [U 110 0,⟨some 111,.eP 1 1 [(.str [])] [(0,1,(.c (.str [101,108,115,101])))],none,[]⟩,ct 112 110 111 24])
 (.af [U 113 0,de 114 3,a' 115 114,f_ 116 115 2,ck 117 116,gv 118 113 117 70 3]))))))
 (.seq (.af [U 7 0,CX 8,ct 9 7 8 24])
 (.seq (.seq (.af [dY 10 3,a' 11 10,bp 12 11 32])
 (.cond (.t 12)
 (.af [U 13 0,⟨some 14,.eP 1 1 [(.str [])] [(0,1,(.c (.str [109,97,116,99,104])))],none,[]⟩,ct 15 13 14 24])
 (.af [U 16 0,⟨some 17,.eP 1 1 [(.str [])] [(0,1,(.c (.str [116,114,121])))],none,[]⟩,ct 18 16 17 24])))
 (.seq (.af [U 19 0,de 20 3,a' 21 20,f_ 22 21 0,ck 23 22,gv 24 19 23 70 1])
 (.seq (.af [U 25 0,⟨some 26,.eP 1 1 [(.str [])] [(0,1,(.c (.str [119,105,116,104])))],none,[]⟩,ct 27 25 26 24])
 (.seq (.af [U 28 0,de 29 3,a' 30 29,⟨some 31,.ek 5 (.t 30) (some (.c (.int .i64 1))) none none,none,[30]⟩,U 32 0,Aa 33 32,⟨some 34,.call 71 [(.t 28),(.t 31),(.c (.str [124])),(.t 33)],none,[28,31,33]⟩])
 (.af [U 35 0,CY 36,ct 37 35 36 24]))))))))))))))))
theorem X4:cg 78 119 Tryz.f78 N4 []:=⟨Tryz.func78,by kernel_rfl⟩
def N5:bE:=
 .seq (.af [fO 1 0,fC 2])
 (.seq (.seq (.af [dY 3 1,a' 4 3])
 (.block 0 (.seq (.af [bp 6 4 1,U 5 6])
 (.cond (.t 5)
 (.seq (.af [fT 7 1,a' 8 7,m' 9 8 59 5,U 2 9])
 (.ret))
 (.seq (.seq (.af [bp 11 4 2,U 10 11])
 (.cond (.t 10)
 (.skip)
 (.seq (.af [bp 12 4 11,U 10 12])
 (.cond (.t 10)
 (.skip)
 (.seq (.af [bp 13 4 24,U 10 13])
 (.cond (.t 10)
 (.skip)
 (.seq (.af [bp 14 4 46,U 10 14])
 (.cond (.t 10)
 (.skip)
 (.af [bp 15 4 50,U 10 15])))))))))
 (.cond (.t 10)
 (.seq (.af [fT 16 1,a' 17 16,m' 18 17 59 3,U 2 18])
 (.ret))
 (.seq (.seq (.af [bp 20 4 16,U 19 20])
 (.cond (.t 19)
 (.skip)
 (.seq (.af [bp 21 4 25,U 19 21])
 (.cond (.t 19)
 (.skip)
 (.seq (.af [bp 22 4 47,U 19 22])
 (.cond (.t 19)
 (.skip)
 (.af [bp 23 4 51,U 19 23])))))))
 (.cond (.t 19)
 (.seq (.af [fT 24 1,a' 25 24,m' 26 25 59 4,U 2 26])
 (.ret))
 (.seq (.af [bp 28 4 21,U 27 28])
 (.cond (.t 27)
 (.seq (.af [fT 29 1,a' 30 29,kK 31 30,xv 32 31 4096,U 2 32])
 (.ret))
 (.seq (.af [bp 34 4 38,U 33 34])
 (.cond (.t 33)
 (.seq (.draw [fT 35 1,a' 36 35,⟨some 37,.call 100 [],none,[]⟩,ct 38 36 37 60,U 2 38] [(1,[2,3])])
 (.ret))
 (.skip)))))))))))))
 (.seq (.af [fT 39 1,a' 40 39,zZ 41 40,U 2 41])
 (.ret)))
theorem X5:cg 79 42 Tryz.f79 N5 [.t 2]:=⟨Tryz.func79,by kernel_rfl⟩
def N6:bE:=
 .seq (.af [fO 1 0,fC 2])
 (.seq (.seq (.af [dY 3 1,a' 4 3])
 (.block 0 (.seq (.seq (.af [bp 6 4 12,U 5 6])
 (.cond (.t 5)
 (.skip)
 (.af [bp 7 4 20,U 5 7])))
 (.cond (.t 5)
 (.seq (.af [c0 8 1,a' 9 8,⟨some 10,.bin (.int .geq) (.t 9) (.c (.int .i64 (-1073741824))),none,[9]⟩,U 11 10,r5 12 1 11,gw 13 12 11,mZ 14 13 11 1073741823,ew 15 11 14,U 2 15])
 (.ret))
 (.seq (.seq (.af [bp 17 4 14,U 16 17])
 (.cond (.t 16)
 (.skip)
 (.af [bp 18 4 23,U 16 18])))
 (.cond (.t 16)
 (.seq (.af [c0 19 1,a' 20 19,bp 21 20 0,U 22 21,⟨some 23,.hi 1 (.t 1),(some (22,false)),[1,22]⟩,mo 24 23 22,CO 25 24 22 1,fD 26 22 25,U 2 26])
 (.ret))
 (.seq (.af [bp 28 4 50,U 27 28])
 (.cond (.t 27)
 (.seq (.af [c0 29 1,a' 30 29,k4 31 30 0,U 32 31,r5 33 1 32,gw 34 33 32,mZ 35 34 32 64,ew 36 32 35,U 37 36,r5 38 1 37,gw 39 38 37,C9 40 1 37,gw 41 40 37,CL 42 41 37,⟨some 43,.bin (.int .lss) (.t 39) (.t 42),(some (37,true)),[39,42,37]⟩,ew 44 37 43,U 2 44])
 (.ret))
 (.skip)))))))))
 (.seq (.af [c0 45 1,a' 46 45,bp 47 46 0,U 2 47])
 (.ret)))
theorem X6:cg 80 48 Tryz.f80 N6 [.t 2]:=⟨Tryz.func80,by kernel_rfl⟩
def N7:bE:=
 .seq (.af [fO 1 0,jm 2,fC 3])
 (.seq (.af [de 5 1,a' 6 5,fb 7 6,U 4 7])
 (.seq (.seq (.af [dY 8 1,a' 9 8])
 (.block 0 (.seq (.af [bp 11 9 2,U 10 11])
 (.cond (.t 10)
 (.seq (.af [U 12 4,m' 13 12 101 1,U 14 4,xv 15 14 64,U 2 13,U 3 15])
 (.ret))
 (.seq (.seq (.af [bp 17 9 3,U 16 17])
 (.cond (.t 16)
 (.skip)
 (.af [bp 18 9 4,U 16 18])))
 (.cond (.t 16)
 (.seq (.af [xx 19 101 1 2,U 20 4,bp 21 20 2,U 2 19,U 3 21])
 (.ret))
 (.seq (.af [bp 23 9 15,U 22 23])
 (.cond (.t 22)
 (.seq (.af [xx 24 101 2 2,U 25 4,bp 26 25 2,U 2 24,U 3 26])
 (.ret))
 (.seq (.af [bp 28 9 16,U 27 28])
 (.cond (.t 27)
 (.seq (.af [U 29 4,m' 30 29 101 2,U 31 4,xv 32 31 1,U 2 30,U 3 32])
 (.ret))
 (.seq (.af [bp 34 9 25,U 33 34])
 (.cond (.t 33)
 (.seq (.af [U 35 4,m' 36 35 101 3,U 37 4,xv 38 37 1,U 2 36,U 3 38])
 (.ret))
 (.seq (.seq (.af [bp 40 9 26,U 39 40])
 (.cond (.t 39)
 (.skip)
 (.seq (.af [bp 41 9 28,U 39 41])
 (.cond (.t 39)
 (.skip)
 (.seq (.af [bp 42 9 35,U 39 42])
 (.cond (.t 39)
 (.skip)
 (.seq (.af [bp 43 9 37,U 39 43])
 (.cond (.t 39)
 (.skip)
 (.af [bp 44 9 38,U 39 44])))))))))
 (.cond (.t 39)
 (.seq (.af [xx 45 101 3 2,U 46 4,bp 47 46 2,U 2 45,U 3 47])
 (.ret))
 (.seq (.seq (.af [bp 49 9 34,U 48 49])
 (.cond (.t 48)
 (.skip)
 (.seq (.af [bp 50 9 36,U 48 50])
 (.cond (.t 48)
 (.skip)
 (.af [bp 51 9 39,U 48 51])))))
 (.cond (.t 48)
 (.seq (.af [xx 52 101 3 1,U 53 4,bp 54 53 1,U 2 52,U 3 54])
 (.ret))
 (.seq (.af [bp 56 9 31,U 55 56])
 (.cond (.t 55)
 (.seq (.af [xx 57 101 3 3,U 58 4,bp 59 58 3,U 2 57,U 3 59])
 (.ret))
 (.seq (.seq (.af [bp 61 9 27,U 60 61])
 (.cond (.t 60)
 (.skip)
 (.seq (.af [bp 62 9 45,U 60 62])
 (.cond (.t 60)
 (.skip)
 (.af [bp 63 9 52,U 60 63])))))
 (.cond (.t 60)
 (.seq (.af [⟨some 64,.eP 2 1 [(.int .i64 0)] [(0,1,(.c (.int .i64 2))),(1,1,(.c (.int .i64 3)))],none,[]⟩,U 65 4,bp 66 65 2,U 2 64,U 3 66])
 (.ret))
 (.seq (.af [bp 68 9 29,U 67 68])
 (.cond (.t 67)
 (.seq (.af [⟨some 69,.eP 3 1 [(.int .i64 0)] [(0,1,(.c (.int .i64 2))),(1,1,(.c (.int .i64 3))),(2,1,(.c (.int .i64 3)))],none,[]⟩,U 70 4,bp 71 70 3,U 2 69,U 3 71])
 (.ret))
 (.seq (.af [bp 73 9 30,U 72 73])
 (.cond (.t 72)
 (.seq (.af [U 74 4,qZ 75 74 1,m' 76 75 101 5,Gt 77 3,k3 78 76 77,U 79 4,k4 80 79 2,U 2 78,U 3 80])
 (.ret))
 (.seq (.seq (.af [bp 82 9 32,U 81 82])
 (.cond (.t 81)
 (.skip)
 (.af [bp 83 9 33,U 81 83])))
 (.cond (.t 81)
 (.seq (.af [Gt 84 3,U 85 4,qZ 86 85 1,m' 87 86 101 4,k3 88 84 87,U 89 4,k4 90 89 2,U 2 88,U 3 90])
 (.ret))
 (.seq (.af [bp 92 9 46,U 91 92])
 (.cond (.t 91)
 (.seq (.draw [U 94 4,bp 95 94 1,xx 93 101 3 1,U 96 95,C9 97 1 96,gw 98 97 96,⟨some 99,.dG 5 (.t 98) (.c (.int .i64 0)),(some (96,true)),[98,96]⟩,r4 100 99 96,gw 101 100 96,CP 102 101 96 27,ew 103 96 102,U 2 93,U 3 103] [(5,[13]),(8,[13])])
 (.ret))
 (.seq (.seq (.af [bp 105 9 47,U 104 105])
 (.cond (.t 104)
 (.skip)
 (.af [bp 106 9 51,U 104 106])))
 (.cond (.t 104)
 (.seq (.af [U 107 4,m' 108 107 101 1,U 109 4,xv 110 109 1,U 2 108,U 3 110])
 (.ret))
 (.seq (.af [bp 112 9 50,U 111 112])
 (.cond (.t 111)
 (.seq (.draw [c0 113 1,a' 114 113,U 116 4,c0 117 1,a' 118 117,zX 119 116 118,m' 115 114 101 8,m' 120 119 101 6,k3 121 115 120,U 2 121,⟨some 3,.bg (.c (.bool true)),none,[]⟩] [(1,[6]),(4,[6,7])])
 (.ret))
 (.seq (.af [bp 123 9 53,U 122 123])
 (.cond (.t 122)
 (.seq (.af [U 124 4,m' 125 124 101 5,U 126 4,k4 127 126 1,U 2 125,U 3 127])
 (.ret))
 (.skip)))))))))))))))))))))))))))))))))))
 (.seq (.af [U 128 4,bp 129 128 0,jm 2,U 3 129])
 (.ret))))
theorem X7:cg 81 130 Tryz.f81 N7 [.t 2,.t 3]:=⟨Tryz.func81,by kernel_rfl⟩
def N8:bE:=
 .seq (.af [fO 5 1])
 (.seq (.af [U 8 3,U 9 8,vg 10 5 9,vf 11 10 9 102,hH 12 2 9,⟨some 13,.bin (.int .lss) (.t 11) (.t 12),(some (9,false)),[11,12,9]⟩,fD 14 9 13,U 3 14])
 (.seq (.seq (.af [U 15 3])
 (.cond (.t 15)
 (.af [U 16 0,xy 17 16])
 (.skip)))
 (.seq (.af [U 18 0,ck 19 5,ct 20 18 19 49])
 (.seq (.af [U 21 3])
 (.cond (.t 21)
 (.af [U 22 0,xz 23 22])
 (.skip))))))
theorem X8:cg 82 24 Tryz.f82 N8 []:=⟨Tryz.func82,by kernel_rfl⟩
def N9:bE:=
 .seq (.af [fO 3 1])
 (.seq (.af [dY 4 3,a' 5 4])
 (.block 0 (.seq (.af [bp 27 5 1,U 26 27])
 (.cond (.t 26)
 (.af [U 28 0,fT 29 3,a' 30 29,gv 31 28 30 47 5])
 (.seq (.af [bp 33 5 3,U 32 33])
 (.cond (.t 32)
 (.af [U 34 0,ck 35 3,⟨some 36,.call 103 [(.t 34),(.t 35),(.c (.int .i64 3)),(.c (.str [42])),(.c (.int .i64 2))],none,[34,35]⟩])
 (.seq (.af [bp 38 5 4,U 37 38])
 (.cond (.t 37)
 (.af [U 39 0,ck 40 3,C2 41 39 40 103 2 1])
 (.seq (.seq (.af [de 6 3,a' 7 6,fb 8 7,kk 9 8 1])
 (.cond (.t 9)
 (.seq (.af [U 10 0,xy 11 10])
 (.seq (.af [U 12 0,de 13 3,a' 14 13,Gx 15 12 14 46 1])
 (.af [U 16 0,xz 17 16])))
 (.af [U 18 0,de 19 3,a' 20 19,Gx 21 18 20 46 3])))
 (.af [U 22 0,fT 23 3,a' 24 23,gv 25 22 24 47 3]))))))))))
theorem X9:cg 83 42 Tryz.f83 N9 []:=⟨Tryz.func83,by kernel_rfl⟩
def N':bE:=
 .seq (.af [fO 3 1])
 (.seq (.af [dY 4 3,a' 5 4])
 (.block 0 (.seq (.af [bp 10 5 10,U 9 10])
 (.cond (.t 9)
 (.af [U 11 0,⟨some 12,.call 45 [(.t 11),(.c (.str [95]))],none,[11]⟩])
 (.seq (.af [bp 14 5 11,U 13 14])
 (.cond (.t 13)
 (.af [U 15 0,fT 16 3,a' 17 16,gv 18 15 17 47 3])
 (.seq (.af [bp 20 5 12,U 19 20])
 (.cond (.t 19)
 (.af [U 21 0,c0 22 3,a' 23 22,ct 24 21 23 104])
 (.seq (.af [bp 26 5 13,U 25 26])
 (.cond (.t 25)
 (.seq (.af [U 27 0,xy 28 27])
 (.af [U 29 0,xz 30 29]))
 (.seq (.af [bp 32 5 14,U 31 32])
 (.cond (.t 31)
 (.af [U 33 0,c0 34 3,a' 35 34,ct 36 33 35 105])
 (.seq (.af [bp 38 5 15,U 37 38])
 (.cond (.t 37)
 (.af [U 39 0,ck 40 3,C1 41 39 40 103 2 1])
 (.af [U 6 0,ck 7 3,⟨some 8,.call 106 [(.t 6),(.t 7),(.c (.int .i64 3))],none,[6,7]⟩])))))))))))))))
theorem X':cg 84 42 Tryz.f84 N' []:=⟨Tryz.func84,by kernel_rfl⟩
def N_:bE:=
 .seq (.af [fO 3 1])
 (.seq (.af [dY 5 3,a' 6 5])
 (.block 0 (.seq (.af [bp 11 6 25,U 10 11])
 (.cond (.t 10)
 (.af [U 12 0,ck 13 3,⟨some 14,.call 106 [(.t 12),(.t 13),(.c (.int .i64 10))],none,[12,13]⟩])
 (.seq (.af [bp 16 6 26,U 15 16])
 (.cond (.t 15)
 (.af [U 17 0,ck 18 3,C1 19 17 18 103 5 4])
 (.seq (.af [bp 21 6 35,U 20 21])
 (.cond (.t 20)
 (.af [U 22 0,ck 23 3,⟨some 24,.call 103 [(.t 22),(.t 23),(.c (.int .i64 2)),(.c (.str [59])),(.c (.int .i64 1))],none,[22,23]⟩])
 (.seq (.af [bp 26 6 37,U 25 26])
 (.cond (.t 25)
 (.af [U 27 0,ck 28 3,⟨some 29,.call 103 [(.t 27),(.t 28),(.c (.int .i64 4)),(.c (.str [58,61])),(.c (.int .i64 2))],none,[27,28]⟩])
 (.seq (.af [bp 31 6 38,U 30 31])
 (.cond (.t 30)
 (.af [U 32 0,ck 33 3,ct 34 32 33 107])
 (.seq (.af [bp 36 6 28,U 35 36])
 (.cond (.t 35)
 (.seq (.af [de 37 3,a' 38 37,f_ 39 38 0,ck 40 39,o' 4,⟨none,.st 5 (.t 4) (.t 40),none,[4,40]⟩])
 (.seq (.af [U 41 0,ck 42 4,dY 43 4,a' 44 43,bp 45 44 25,U 46 45,⟨some 47,.hi 0 (.t 4),(some (46,false)),[4,46]⟩,mo 48 47 46,CO 49 48 46 34,fD 50 46 49,⟨some 51,.call 82 [(.t 41),(.t 42),(.c (.int .i64 9)),(.t 50)],none,[41,42,50]⟩])
 (.af [U 52 0,de 53 3,a' 54 53,f_ 55 54 1,ck 56 55,xw 57 52 56 82 10])))
 (.seq (.af [bp 59 6 34,U 58 59])
 (.cond (.t 58)
 (.seq (.af [U 60 0,⟨some 61,.call 45 [(.t 60),(.c (.str [114,97,105,115,101]))],none,[60]⟩])
 (.af [U 62 0,de 63 3,a' 64 63,f_ 65 64 0,ck 66 65,xw 67 62 66 82 10]))
 (.seq (.af [bp 69 6 36,U 68 69])
 (.cond (.t 68)
 (.seq (.af [U 70 0,⟨some 71,.call 45 [(.t 70),(.c (.str [33]))],none,[70]⟩])
 (.af [U 72 0,de 73 3,a' 74 73,f_ 75 74 0,ck 76 75,xw 77 72 76 82 8]))
 (.seq (.af [bp 79 6 39,U 78 79])
 (.cond (.t 78)
 (.seq (.af [U 80 0,⟨some 81,.call 45 [(.t 80),(.c (.str [45]))],none,[80]⟩])
 (.af [U 82 0,de 83 3,a' 84 83,f_ 85 84 0,ck 86 85,xw 87 82 86 82 8]))
 (.seq (.af [bp 89 6 27,U 88 89])
 (.cond (.t 88)
 (.seq (.af [U 90 0,⟨some 91,.call 45 [(.t 90),(.c (.str [102,117,110]))],none,[90]⟩])
 (.seq (.af [U 92 0,de 93 3,a' 94 93,f_ 95 94 0,ck 96 95,ct 97 92 96 49])
 (.seq (.af [U 98 0,⟨some 99,.call 45 [(.t 98),(.c (.str [45,62]))],none,[98]⟩])
 (.af [U 100 0,de 101 3,a' 102 101,f_ 103 102 1,ck 104 103,ct 105 100 104 49]))))
 (.seq (.seq (.af [bp 107 6 29,U 106 107])
 (.cond (.t 106)
 (.skip)
 (.af [bp 108 6 31,U 106 108])))
 (.cond (.t 106)
 (.af [U 109 0,ck 110 3,ct 111 109 110 108])
 (.seq (.af [bp 113 6 30,U 112 113])
 (.cond (.t 112)
 (.seq (.af [U 114 0,de 115 3,a' 116 115,de 117 3,a' 118 117,fb 119 118,qZ 120 119 1,CM 121 116 120,ct 122 114 121 50])
 (.seq (.af [U 123 0,⟨some 124,.call 45 [(.t 123),(.c (.str [105,110]))],none,[123]⟩])
 (.af [U 125 0,de 126 3,a' 127 126,de 128 3,a' 129 128,fb 130 129,qZ 131 130 1,jl 132 127 131,ck 133 132,ct 134 125 133 49])))
 (.seq (.af [bp 136 6 32,U 135 136])
 (.cond (.t 135)
 (.af [U 137 0,de 138 3,a' 139 138,⟨some 140,.call 109 [(.t 137),(.c (.str [109,97,116,99,104])),(.t 139)],none,[137,139]⟩])
 (.seq (.af [bp 142 6 33,U 141 142])
 (.cond (.t 141)
 (.af [U 143 0,de 144 3,a' 145 144,⟨some 146,.call 109 [(.t 143),(.c (.str [116,114,121])),(.t 145)],none,[143,145]⟩])
 (.af [U 7 0,ck 8 3,ct 9 7 8 110])))))))))))))))))))))))))))))))
theorem X_:cg 85 147 Tryz.f85 N_ []:=⟨Tryz.func85,by kernel_rfl⟩
def Oa:bE:=
 .seq (.af [fC 4])
 (.seq (.af [U 5 0,U 6 1,ct 7 5 6 111,k4 8 7 0,U 4 8])
 (.ret))
theorem Ya:cg 86 9 Tryz.f86 Oa [.t 4]:=⟨Tryz.func86,by kernel_rfl⟩
def Ob:bE:=
 .seq (.af [fC 2])
 (.seq (.af [U 3 0,eX 4 3 88,tn 5 4,U 2 5])
 (.ret))
theorem Yb:cg 87 6 Tryz.f87 Ob [.t 2]:=⟨Tryz.func87,by kernel_rfl⟩
def Oh:bE:=
 .seq (.af [gi 9 8 7])
 (.seq (.cond (.t 9)
 (.skip)
 (.exit 0))
 (.seq (.block 1 (.seq (.af [U 10 8,U 5 10])
 (.seq (.af [U 11 1,U 12 0,U 13 5,q0 14 12 13,a' 15 14,zY 16 11 15])
 (.cond (.t 16)
 (.seq (.af [U 17 5,U 4 17])
 (.ret))
 (.skip)))))
 (.af [eW 18 8 1,U 8 18])))
def Og:bE:=
 .seq (.af [ca 4 0])
 (.seq (.seq (.af [U 6 0,fb 7 6,ca 8 0])
 (.block 0 (.loop Oh)))
 (.seq (.af [⟨some 4,.bg (.c (.int .i64 (-1))),none,[]⟩])
 (.ret)))
theorem Yg:cg 92 19 Tryz.f92 Og [.t 4]:=⟨Tryz.func92,by kernel_rfl⟩
def Ok:bE:=
 .seq (.af [fC 4])
 (.seq (.seq (.af [U 7 1,kK 8 7,kk 9 8 64,U 10 9,hH 11 1 10,⟨some 12,.bin (.str .eql) (.t 11) (.c (.str [])),(some (10,false)),[11,10]⟩,fD 13 10 12])
 (.cond (.t 13)
 (.seq (.af [fC 4])
 (.ret))
 (.skip)))
 (.seq (.seq (.af [U 14 0,bp 15 14 5])
 (.cond (.t 15)
 (.af [U 16 1,CV 17 16,U 1 17])
 (.skip)))
 (.seq (.af [U 19 1,eX 20 19 120,U 18 20,m_ 21 18,na 22 18,⟨some 6,.new [(.int .i64 0),(.int .i64 0)],none,[]⟩,U 5 21,⟨none,.st 2 (.t 6) (.t 22),none,[6,22]⟩])
 (.seq (.af [dY 23 6,a' 24 23,bp 25 24 0,U 26 25,fj 27 5 26,CL 28 27 26,CP 29 28 26 1,ew 30 26 29,U 31 30,fj 32 5 31,C' 33 32 31,r4 34 33 31,gw 35 34 31,fj 36 0 31,⟨some 37,.bin (.int .eql) (.t 35) (.t 36),(some (31,true)),[35,36,31]⟩,ew 38 31 37,U 39 38,fj 40 5 39,C' 41 40 39,⟨some 42,.hi 2 (.t 41),(some (39,true)),[41,39]⟩,gw 43 42 39,CP 44 43 39 0,ew 45 39 44,U 46 45,fj 47 5 46,C' 48 47 46,o9 49 48 46,gw 50 49 46,z_ 51 50 46,Gp 52 51 46,ew 53 46 52,U 54 53,fj 55 5 54,C' 56 55 54,⟨some 57,.ka 4 (.t 56),(some (54,true)),[56,54]⟩,fj 58 1 54,ve 59 57 58 54 121,ew 60 54 59,U 4 60])
 (.ret)))))
theorem Yj:cg 98 61 Tryz.f98 Ok [.t 4]:=⟨Tryz.func98,by kernel_rfl⟩
def Mf:bE:=
 .seq (.af [jm 0])
 (.seq (.af [Lw 1,U 0 1])
 (.ret))
theorem WM:cg 100 2 Tryz.f100 Mf [.t 0]:=⟨Tryz.func100,by kernel_rfl⟩
def Mh:bE:=
 .seq (.seq (.af [U 7 6,U 8 1,gi 9 7 8])
 (.cond (.t 9)
 (.skip)
 (.exit 0)))
 (.seq (.block 1 (.af [U 12 5,U 13 0,⟨some 14,.eP 1 1 [(.int .i64 0)] [(0,1,(.t 13))],none,[13]⟩,k3 15 12 14,U 5 15]))
 (.af [U 10 6,eW 11 10 1,U 6 11]))
def Mg:bE:=
 .seq (.af [jm 4])
 (.seq (.af [jm 5])
 (.seq (.seq (.af [ca 6 0])
 (.block 0 (.loop Mh)))
 (.seq (.af [U 16 5,U 4 16])
 (.ret))))
theorem WN:cg 101 17 Tryz.f101 Mg [.t 4]:=⟨Tryz.func101,by kernel_rfl⟩
def Mi:bE:=
 .seq (.af [fO 1 0,ca 2 0])
 (.seq (.seq (.af [dY 3 1,a' 4 3])
 (.block 0 (.seq (.seq (.af [bp 6 4 35,U 5 6])
 (.cond (.t 5)
 (.skip)
 (.seq (.af [bp 7 4 29,U 5 7])
 (.cond (.t 5)
 (.skip)
 (.seq (.af [bp 8 4 30,U 5 8])
 (.cond (.t 5)
 (.skip)
 (.seq (.af [bp 9 4 27,U 5 9])
 (.cond (.t 5)
 (.skip)
 (.seq (.af [bp 10 4 15,U 5 10])
 (.cond (.t 5)
 (.skip)
 (.af [bp 11 4 4,U 5 11])))))))))))
 (.cond (.t 5)
 (.seq (.af [ca 2 1])
 (.ret))
 (.seq (.seq (.af [bp 13 4 31,U 12 13])
 (.cond (.t 12)
 (.skip)
 (.af [bp 14 4 3,U 12 14])))
 (.cond (.t 12)
 (.seq (.af [ca 2 2])
 (.ret))
 (.seq (.af [bp 16 4 37,U 15 16])
 (.cond (.t 15)
 (.seq (.af [ca 2 3])
 (.ret))
 (.seq (.af [bp 18 4 26,U 17 18])
 (.cond (.t 17)
 (.seq (.af [ca 2 4])
 (.ret))
 (.seq (.af [bp 20 4 38,U 19 20])
 (.cond (.t 19)
 (.seq (.seq (.af [fT 21 1,a' 22 21,⟨some 23,.eP 3 1 [(.str [])] [(0,1,(.c (.str [61]))),(1,1,(.c (.str [60]))),(2,1,(.c (.str [60,61])))],none,[]⟩,ct 24 22 23 60])
 (.cond (.t 24)
 (.seq (.af [ca 2 5])
 (.ret))
 (.skip)))
 (.seq (.seq (.af [fT 25 1,a' 26 25,⟨some 27,.eP 2 1 [(.str [])] [(0,1,(.c (.str [43]))),(1,1,(.c (.str [45])))],none,[]⟩,ct 28 26 27 60])
 (.cond (.t 28)
 (.seq (.af [ca 2 6])
 (.ret))
 (.skip)))
 (.seq (.af [ca 2 7])
 (.ret))))
 (.seq (.seq (.af [bp 30 4 39,U 29 30])
 (.cond (.t 29)
 (.skip)
 (.af [bp 31 4 36,U 29 31])))
 (.cond (.t 29)
 (.seq (.af [ca 2 8])
 (.ret))
 (.seq (.seq (.af [bp 33 4 28,U 32 33])
 (.cond (.t 32)
 (.skip)
 (.af [bp 34 4 34,U 32 34])))
 (.cond (.t 32)
 (.seq (.af [ca 2 9])
 (.ret))
 (.seq (.af [bp 36 4 16,U 35 36])
 (.cond (.t 35)
 (.seq (.seq (.af [de 37 1,a' 38 37,fb 39 38,bp 40 39 1])
 (.cond (.t 40)
 (.seq (.af [ca 2 2])
 (.ret))
 (.skip)))
 (.seq (.af [ca 2 3])
 (.ret)))
 (.seq (.af [bp 42 4 25,U 41 42])
 (.cond (.t 41)
 (.seq (.af [de 43 1,a' 44 43,fb 45 44,bp 46 45 1])
 (.cond (.t 46)
 (.seq (.af [ca 2 9])
 (.ret))
 (.skip)))
 (.skip)))))))))))))))))))))
 (.seq (.af [ca 2 10])
 (.ret)))
theorem WO:cg 102 47 Tryz.f102 Mi [.t 2]:=⟨Tryz.func102,by kernel_rfl⟩
def Mj:bE:=
 .seq (.af [fO 6 1])
 (.seq (.af [U 10 0,de 11 6,a' 12 11,f_ 13 12 0,ck 14 13,U 15 2,C7 16 10 14 15])
 (.seq (.af [U 17 0,U 18 3,ct 19 17 18 45])
 (.af [U 20 0,de 21 6,a' 22 21,f_ 23 22 1,ck 24 23,U 25 4,C7 26 20 24 25])))
theorem WQ:cg 103 27 Tryz.f103 Mj []:=⟨Tryz.func103,by kernel_rfl⟩
def Mk:bE:=
 .af [U 4 0,U 5 0,dx 6 5,dY 7 6,a' 8 7,U 9 1,Gv 10 9,vd 11 10,vb 12 8 11,dx 13 4,dY 14 13,⟨none,.st 1 (.t 14) (.t 12),none,[14,12]⟩]
theorem WR:cg 104 15 Tryz.f104 Mk []:=⟨Tryz.func104,by kernel_rfl⟩
def Ml:bE:=
 .seq (.seq (.af [U 4 1,bp 5 4 1])
 (.cond (.t 5)
 (.seq (.af [U 6 0,⟨some 7,.call 45 [(.t 6),(.c (.str [116,114,117,101]))],none,[6]⟩])
 (.ret))
 (.skip)))
 (.af [U 8 0,⟨some 9,.call 45 [(.t 8),(.c (.str [102,97,108,115,101]))],none,[8]⟩])
theorem WS:cg 105 10 Tryz.f105 Ml []:=⟨Tryz.func105,by kernel_rfl⟩
def Mm:bE:=
 .seq (.af [fO 4 1])
 (.seq (.af [U 6 0,fT 7 4,a' 8 7,gv 9 6 8 47 4])
 (.seq (.af [de 10 4,a' 11 10,fb 12 11,bp 13 12 1])
 (.cond (.t 13)
 (.af [U 14 0,de 15 4,a' 16 15,f_ 17 16 0,ck 18 17,U 19 2,C7 20 14 18 19])
 (.skip))))
theorem WT:cg 106 21 Tryz.f106 Mm []:=⟨Tryz.func106,by kernel_rfl⟩
def Mn:bE:=
 .seq (.af [fO 3 1])
 (.seq (.af [ck 6 3,eX 7 6 102,U 4 7])
 (.seq (.af [U 8 4,U 5 8])
 (.seq (.seq (.af [U 9 4,bp 10 9 5])
 (.cond (.t 10)
 (.af [ca 5 6])
 (.skip)))
 (.af [U 11 0,ck 12 3,U 13 5,fT 14 3,a' 15 14,U 16 4,eW 17 16 1,⟨some 18,.call 103 [(.t 11),(.t 12),(.t 13),(.t 15),(.t 17)],none,[11,12,13,15,17]⟩]))))
theorem WU:cg 107 19 Tryz.f107 Mn []:=⟨Tryz.func107,by kernel_rfl⟩
def Mo:bE:=
 .seq (.af [fO 3 1])
 (.seq (.seq (.af [dY 4 3,a' 5 4,bp 6 5 31])
 (.cond (.t 6)
 (.seq (.af [U 7 0,⟨some 8,.call 45 [(.t 7),(.c (.str [105,102]))],none,[7]⟩])
 (.seq (.af [U 9 0,de 10 3,a' 11 10,f_ 12 11 0,ck 13 12,ct 14 9 13 49])
 (.seq (.af [U 15 0,⟨some 16,.call 45 [(.t 15),(.c (.str [116,104,101,110]))],none,[15]⟩])
 (.seq (.af [U 17 0,de 18 3,a' 19 18,f_ 20 19 1,ck 21 20,xw 22 17 21 82 3])
 (.seq (.af [U 23 0,⟨some 24,.call 45 [(.t 23),(.c (.str [101,108,115,101]))],none,[23]⟩])
 (.seq (.af [U 25 0,de 26 3,a' 27 26,f_ 28 27 2,ck 29 28,xw 30 25 29 82 3])
 (.ret)))))))
 (.skip)))
 (.seq (.af [U 31 0,Gz 32 31])
 (.seq (.af [U 33 0,de 34 3,a' 35 34,f_ 36 35 0,ck 37 36,ct 38 33 37 49])
 (.seq (.af [U 39 0,C6 40 39])
 (.seq (.af [U 41 0,de 42 3,a' 43 42,f_ 44 43 1,ck 45 44,ct 46 41 45 49])
 (.seq (.af [U 47 0,⟨some 48,.call 45 [(.t 47),(.c (.str [105,110]))],none,[47]⟩])
 (.af [U 49 0,de 50 3,a' 51 50,f_ 52 51 2,ck 53 52,ct 54 49 53 49])))))))
theorem WV:cg 108 55 Tryz.f108 Mo []:=⟨Tryz.func108,by kernel_rfl⟩
def Mr:bE:=
 .seq (.seq (.af [U 19 6,U 20 2,fb 21 20,gi 22 19 21])
 (.cond (.t 22)
 (.skip)
 (.exit 0)))
 (.seq (.block 1 (.seq (.seq (.af [U 25 6,kk 26 25 1])
 (.cond (.t 26)
 (.af [U 27 0,⟨some 28,.call 45 [(.t 27),(.c (.str [124]))],none,[27]⟩])
 (.skip)))
 (.seq (.af [U 29 0,U 30 2,U 31 6,jl 32 30 31,de 33 32,a' 34 33,f_ 35 34 0,ck 36 35,ct 37 29 36 49])
 (.seq (.af [U 38 0,⟨some 39,.call 45 [(.t 38),(.c (.str [45,62]))],none,[38]⟩])
 (.af [U 40 0,U 41 2,U 42 6,jl 43 41 42,de 44 43,a' 45 44,f_ 46 45 1,ck 47 46,ct 48 40 47 49])))))
 (.af [U 23 6,eW 24 23 1,U 6 24]))
def Mq:bE:=
 .seq (.af [U 7 0,xy 8 7])
 (.seq (.af [U 9 0,U 10 1,ct 11 9 10 45])
 (.seq (.af [U 12 0,U 13 2,f_ 14 13 0,ck 15 14,ct 16 12 15 49])
 (.seq (.af [U 17 0,⟨some 18,.call 45 [(.t 17),(.c (.str [119,105,116,104]))],none,[17]⟩])
 (.seq (.seq (.af [ca 6 1])
 (.block 0 (.loop Mr)))
 (.af [U 49 0,xz 50 49])))))
theorem WW:cg 109 51 Tryz.f109 Mq []:=⟨Tryz.func109,by kernel_rfl⟩
def Mu:bE:=
 .seq (.af [fO 3 1])
 (.seq (.af [dY 4 3,a' 5 4])
 (.block 0 (.seq (.af [bp 7 5 20,U 6 7])
 (.cond (.t 6)
 (.af [U 8 0,c0 9 3,a' 10 9,ct 11 8 10 104])
 (.seq (.af [bp 13 5 21,U 12 13])
 (.cond (.t 12)
 (.af [U 14 0,fT 15 3,a' 16 15,gv 17 14 16 47 2])
 (.seq (.af [bp 19 5 22,U 18 19])
 (.cond (.t 18)
 (.seq (.af [U 20 0,xy 21 20])
 (.af [U 22 0,xz 23 22]))
 (.seq (.af [bp 25 5 23,U 24 25])
 (.cond (.t 24)
 (.af [U 26 0,c0 27 3,a' 28 27,ct 29 26 28 105])
 (.seq (.af [bp 31 5 24,U 30 31])
 (.cond (.t 30)
 (.af [U 32 0,fT 33 3,a' 34 33,gv 35 32 34 47 3])
 (.skip)))))))))))))
theorem WY:cg 110 36 Tryz.f110 Mu []:=⟨Tryz.func110,by kernel_rfl⟩
def Mw:bE:=
 .seq (.af [gi 9 8 7])
 (.seq (.cond (.t 9)
 (.skip)
 (.exit 0))
 (.seq (.block 1 (.seq (.af [U 10 8,U 5 10])
 (.seq (.af [U 11 1,U 12 0,U 13 5,q0 14 12 13,a' 15 14,⟨some 16,.p5 (.t 11) [(.t 15)],none,[11,15]⟩])
 (.cond (.t 16)
 (.seq (.af [U 17 5,U 4 17])
 (.ret))
 (.skip)))))
 (.af [eW 18 8 1,U 8 18])))
def Mv:bE:=
 .seq (.af [ca 4 0])
 (.seq (.seq (.af [U 6 0,fb 7 6,ca 8 0])
 (.block 0 (.loop Mw)))
 (.seq (.af [⟨some 4,.bg (.c (.int .i64 (-1))),none,[]⟩])
 (.ret)))
theorem WZ:cg 111 19 Tryz.f111 Mv [.t 4]:=⟨Tryz.func111,by kernel_rfl⟩
def MB:bE:=
 .seq (.af [fO 2 0,fC 4])
 (.seq (.seq (.af [dY 5 2,a' 6 5,bp 7 6 5])
 (.cond (.t 7)
 (.seq (.af [U 8 1,fT 9 2,a' 10 9,CV 11 10,zY 12 8 11,U 4 12])
 (.ret))
 (.skip)))
 (.seq (.af [U 13 1,fT 14 2,a' 15 14,zY 16 13 15,U 4 16])
 (.ret)))
theorem W3:cg 121 17 Tryz.f121 MB [.t 4]:=⟨Tryz.func121,by kernel_rfl⟩
def ND:bE:=
 .seq (.af [jm 0])
 (.seq (.af [Lt 1,U 0 1])
 (.ret))
theorem XK:cg 54 2 Tryz.f54 ND [.t 0]:=⟨Tryz.func54,by kernel_rfl⟩
def NI:bE:=
 .seq (.seq (.af [U 6 5,U 7 1,fb 8 7,gi 9 6 8])
 (.cond (.t 9)
 (.skip)
 (.exit 0)))
 (.seq (.block 1 (.seq (.af [U 12 1,U 13 5,q0 14 12 13,a' 15 14,U 16 0,zY 17 15 16])
 (.cond (.t 17)
 (.seq (.af [⟨some 4,.bg (.c (.bool true)),none,[]⟩])
 (.ret))
 (.skip))))
 (.af [U 10 5,eW 11 10 1,U 5 11]))
def NH:bE:=
 .seq (.af [fC 4])
 (.seq (.seq (.af [ca 5 0])
 (.block 0 (.loop NI)))
 (.seq (.af [fC 4])
 (.ret)))
theorem XM:cg 60 18 Tryz.f60 NH [.t 4]:=⟨Tryz.func60,by kernel_rfl⟩
def NJ:bE:=
 .seq (.af [jm 0])
 (.seq (.af [⟨some 1,.eP 20 1 [(.str [])] [(0,1,(.c (.str [97,110,100]))),(1,1,(.c (.str [98,101,103,105,110]))),(2,1,(.c (.str [101,108,115,101]))),(3,1,(.c (.str [101,110,100]))),(4,1,(.c (.str [101,120,99,101,112,116,105,111,110]))),(5,1,(.c (.str [102,97,108,115,101]))),(6,1,(.c (.str [102,117,110]))),(7,1,(.c (.str [105,102]))),(8,1,(.c (.str [105,110]))),(9,1,(.c (.str [108,101,116]))),(10,1,(.c (.str [109,97,116,99,104]))),(11,1,(.c (.str [109,111,100]))),(12,1,(.c (.str [111,102]))),(13,1,(.c (.str [114,97,105,115,101]))),(14,1,(.c (.str [114,101,99]))),(15,1,(.c (.str [116,104,101,110]))),(16,1,(.c (.str [116,114,117,101]))),(17,1,(.c (.str [116,114,121]))),(18,1,(.c (.str [116,121,112,101]))),(19,1,(.c (.str [119,105,116,104])))],none,[]⟩,U 0 1])
 (.ret))
theorem XN:cg 61 2 Tryz.f61 NJ [.t 0]:=⟨Tryz.func61,by kernel_rfl⟩
def Oc:bE:=
 .seq (.af [fC 2])
 (.seq (.af [U 3 0,eX 4 3 112,U 5 4,hH 6 0 5,vf 7 6 5 89,fD 8 5 7,U 9 8,hH 10 0 9,vf 11 10 9 90,fD 12 9 11,U 13 12,hH 14 0 13,qY 15 14 13 95,fD 16 13 15,U 17 16,hH 18 0 17,qY 19 18 17 39,fD 20 17 19,U 2 20])
 (.ret))
theorem Yc:cg 88 21 Tryz.f88 Oc [.t 2]:=⟨Tryz.func88,by kernel_rfl⟩
def Od:bE:=
 .seq (.af [fC 2])
 (.seq (.af [U 3 0,CQ 4 3 97,U 5 4,fj 6 0 5,CS 7 6 5 122,ew 8 5 7,U 2 8])
 (.ret))
theorem Yd:cg 89 9 Tryz.f89 Od [.t 2]:=⟨Tryz.func89,by kernel_rfl⟩
def Of:bE:=
 .seq (.af [fC 2])
 (.seq (.af [U 3 0,CQ 4 3 65,U 5 4,fj 6 0 5,CS 7 6 5 90,ew 8 5 7,U 2 8])
 (.ret))
theorem Yf:cg 90 9 Tryz.f90 Of [.t 2]:=⟨Tryz.func90,by kernel_rfl⟩
def Oi:bE:=
 .seq (.af [fC 2])
 (.seq (.af [U 3 0,C4 4 3 97 97 122,U 5 4,hH 6 0 5,⟨some 7,.call 97 [(.t 6),(.c (.int .u8 65)),(.c (.int .u8 90))],(some (5,false)),[6,5]⟩,fD 8 5 7,U 9 8,hH 10 0 9,⟨some 11,.call 97 [(.t 10),(.c (.int .u8 48)),(.c (.int .u8 57))],(some (9,false)),[10,9]⟩,fD 12 9 11,U 13 12,hH 14 0 13,qY 15 14 13 95,fD 16 13 15,U 17 16,hH 18 0 17,qY 19 18 17 39,fD 20 17 19,U 2 20])
 (.ret))
theorem Yh:cg 96 21 Tryz.f96 Oi [.t 2]:=⟨Tryz.func96,by kernel_rfl⟩
def Oj:bE:=
 .seq (.af [fC 6])
 (.seq (.af [U 7 0,U 8 1,xu 9 7 8,U 10 9,fj 11 0 10,fj 12 2 10,⟨some 13,.bin (.int .leq) (.t 11) (.t 12),(some (10,true)),[11,12,10]⟩,ew 14 10 13,U 6 14])
 (.ret))
theorem Yi:cg 97 15 Tryz.f97 Oj [.t 6]:=⟨Tryz.func97,by kernel_rfl⟩
def Mx:bE:=
 .seq (.af [fC 2])
 (.seq (.af [U 3 0,CQ 4 3 48,U 5 4,fj 6 0 5,CS 7 6 5 57,ew 8 5 7,U 2 8])
 (.ret))
theorem W0:cg 112 9 Tryz.f112 Mx [.t 2]:=⟨Tryz.func112,by kernel_rfl⟩
def MA:bE:=
 .block 1 (.seq (.af [U 24 5,dx 25 24,c0 26 25,a' 27 26,U 7 27])
 (.seq (.block 2 (.seq (.af [U 37 7,U 38 0,kK 39 38,xu 40 37 39,U 36 40])
 (.cond (.t 36)
 (.exit 0)
 (.seq (.af [U 42 0,U 43 7,z8 44 42 43,⟨some 45,.call 134 [(.c (.str [9,10,13,32])),(.t 44)],none,[44]⟩,k4 46 45 0,U 41 46])
 (.cond (.t 41)
 (.af [U 47 5,dx 48 47,c0 49 48,a' 50 49,eW 51 50 1,dx 52 47,c0 53 52,⟨none,.st 1 (.t 53) (.t 51),none,[53,51]⟩])
 (.seq (.af [U 55 5,⟨some 56,.call 135 [(.t 55),(.c (.str [40,42]))],none,[55]⟩,U 54 56])
 (.cond (.t 54)
 (.af [U 57 5,eX 58 57 136])
 (.seq (.af [U 28 5,eX 29 28 137,xA 8,⟨none,.st 4 (.t 8) (.t 29),none,[8,29]⟩])
 (.seq (.af [U 30 7,oH 31 8,⟨none,.st 1 (.t 31) (.t 30),none,[31,30]⟩])
 (.af [U 32 6,z' 33 8,vd 34 33,vb 35 32 34,U 6 35]))))))))))
 (.seq (.af [U 59 5,dx 60 59,oH 61 60,a' 62 61,tl 63 62 0])
 (.cond (.t 63)
 (.seq (.draw [U 64 5,dx 65 64,oH 66 65,a' 67 66,U 68 7,⟨some 69,.build [(.int .i64 0),(.int .i64 0)] [(0,1,(.t 67)),(1,1,(.t 68))],none,[67,68]⟩,jm 2,⟨none,.st 2 (.t 3) (.t 69),none,[3,69]⟩] [(3,[7])])
 (.ret))
 (.skip)))))
def Mz:bE:=
 .seq (.af [jm 2,⟨some 3,.new [(.int .i64 0),(.int .i64 0)],none,[]⟩])
 (.seq (.seq (.af [U 9 0,kK 10 9,kk 11 10 65536])
 (.cond (.t 11)
 (.seq (.af [⟨some 12,.build [(.int .i64 0),(.int .i64 0)] [(0,1,(.c (.int .i64 3)))],none,[]⟩,jm 2,⟨none,.st 2 (.t 3) (.t 12),none,[3,12]⟩])
 (.ret))
 (.skip)))
 (.seq (.seq (.af [U 13 0,eX 14 13 133,U 4 14])
 (.seq (.af [U 15 4,U 16 0,kK 17 16,gi 18 15 17])
 (.cond (.t 18)
 (.seq (.af [U 19 4,⟨some 20,.build [(.int .i64 0),(.int .i64 0)] [(0,1,(.c (.int .i64 250))),(1,1,(.t 19))],none,[19]⟩,jm 2,⟨none,.st 2 (.t 3) (.t 20),none,[3,20]⟩])
 (.ret))
 (.skip))))
 (.seq (.af [U 21 0,⟨some 22,.build [(.str []),(.int .i64 0),(.int .i64 0)] [(0,1,(.t 21))],none,[21]⟩,fO 23 22,U 5 23])
 (.seq (.af [jm 6])
 (.seq (.skip)
 (.seq (.block 0 (.loop MA))
 (.seq (.af [U 70 6,⟨some 71,.build [(.int .i64 0),(.int .i64 0)] [],none,[]⟩,U 2 70,⟨none,.st 2 (.t 3) (.t 71),none,[3,71]⟩])
 (.ret))))))))
theorem W2:cg 120 72 Tryz.f120 Mz [.t 2,.tD 3 2]:=⟨Tryz.func120,by kernel_rfl⟩
def MC:bE:=
 .seq (.af [ca 4 0])
 (.seq (.af [U 5 0,U 6 1,ct 7 5 6 138,U 4 7])
 (.ret))
theorem W4:cg 124 8 Tryz.f124 MC [.t 4]:=⟨Tryz.func124,by kernel_rfl⟩
def ME:bE:=
 .seq (.af [⟨some 9,.zb (.t 8),none,[8]⟩,m_ 10 9])
 (.seq (.cond (.t 10)
 (.skip)
 (.exit 0))
 (.block 1 (.seq (.af [na 11 9,⟨some 12,.ext (.t 9) 2,none,[9]⟩,U 3 11,U 4 12])
 (.seq (.af [U 13 4,⟨some 14,.bin (.int .eql) (.t 13) (.c (.int .i32 65533)),none,[13]⟩])
 (.cond (.t 14)
 (.seq (.af [U 16 0,U 17 3,GB 18 16 17,eX 19 18 142,U 15 19,m_ 20 15,na 21 15,U 5 20,U 6 21])
 (.seq (.af [U 22 6,bp 23 22 1])
 (.cond (.t 23)
 (.seq (.af [U 24 3,U 2 24])
 (.ret))
 (.skip))))
 (.skip))))))
def MD:bE:=
 .seq (.af [ca 2 0])
 (.seq (.seq (.af [U 7 0,⟨some 8,.zp (.t 7),none,[7]⟩])
 (.block 0 (.loop ME)))
 (.seq (.af [U 25 0,kK 26 25,U 2 26])
 (.ret)))
theorem W5:cg 133 27 Tryz.f133 MD [.t 2]:=⟨Tryz.func133,by kernel_rfl⟩
def MF:bE:=
 .seq (.af [ca 4 0])
 (.seq (.af [U 5 0,U 6 1,ct 7 5 6 124,U 4 7])
 (.ret))
theorem W6:cg 134 8 Tryz.f134 MF [.t 4]:=⟨Tryz.func134,by kernel_rfl⟩
def MG:bE:=
 .seq (.af [fC 4])
 (.seq (.draw [U 5 0,dx 6 5,dY 7 6,a' 8 7,U 9 0,dx 10 9,c0 11 10,a' 12 11,GB 13 8 12,U 14 1,ct 15 13 14 143,U 4 15] [(3,[10]),(7,[10])])
 (.ret))
theorem W7:cg 135 16 Tryz.f135 MG [.t 4]:=⟨Tryz.func135,by kernel_rfl⟩
def MI:bE:=
 .block 1 (.block 2 (.seq (.draw [U 11 0,dx 12 11,c0 13 12,a' 14 13,U 15 0,dx 16 15,dY 17 16,a' 18 17,kK 19 18,xu 20 14 19,U 10 20] [])
 (.cond (.t 10)
 (.seq (.af [U 21 0,dx 22 21,oH 23 22,⟨none,.st 1 (.t 23) (.c (.int .i64 253)),none,[23]⟩])
 (.ret))
 (.seq (.af [U 25 0,⟨some 26,.call 135 [(.t 25),(.c (.str [40,42]))],none,[25]⟩,U 24 26])
 (.cond (.t 24)
 (.seq (.af [U 27 2,eW 28 27 1,U 2 28])
 (.af [U 29 0,dx 30 29,c0 31 30,a' 32 31,eW 33 32 2,dx 34 29,c0 35 34,⟨none,.st 1 (.t 35) (.t 33),none,[35,33]⟩]))
 (.seq (.af [U 37 0,⟨some 38,.call 135 [(.t 37),(.c (.str [42,41]))],none,[37]⟩,U 36 38])
 (.cond (.t 36)
 (.seq (.af [U 39 2,qZ 40 39 1,U 2 40])
 (.seq (.af [U 41 0,dx 42 41,c0 43 42,a' 44 43,eW 45 44 2,dx 46 41,c0 47 46,⟨none,.st 1 (.t 47) (.t 45),none,[47,45]⟩])
 (.seq (.af [U 48 2,bp 49 48 0])
 (.cond (.t 49)
 (.ret)
 (.skip)))))
 (.af [U 3 0,dx 4 3,c0 5 4,a' 6 5,eW 7 6 1,dx 8 3,c0 9 8,⟨none,.st 1 (.t 9) (.t 7),none,[9,7]⟩]))))))))
def MH:bE:=
 .seq (.af [ca 2 0])
 (.block 0 (.loop MI))
theorem W8:cg 136 50 Tryz.f136 MH []:=⟨Tryz.func136,by kernel_rfl⟩
def MK:bE:=
 .seq (.af [gi 80 79 78])
 (.seq (.cond (.t 80)
 (.skip)
 (.exit 1))
 (.seq (.block 2 (.seq (.af [q0 81 77 79,a' 82 81,U 5 82])
 (.seq (.af [U 83 0,U 84 5,ct 85 83 84 135])
 (.cond (.t 85)
 (.seq (.af [U 86 0,dx 87 86,c0 88 87,a' 89 88,U 90 5,kK 91 90,CN 92 89 91,dx 93 86,c0 94 93,⟨none,.st 1 (.t 94) (.t 92),none,[94,92]⟩])
 (.seq (.af [U 95 5,CZ 96 95 7,⟨none,.st 4 (.t 2) (.t 96),none,[2,96]⟩])
 (.ret)))
 (.skip)))))
 (.af [eW 97 79 1,U 79 97])))
def MJ:bE:=
 .seq (.af [xA 2])
 (.seq (.draw [U 6 0,dx 7 6,dY 8 7,a' 9 8,U 10 0,dx 11 10,c0 12 11,a' 13 12,z8 14 9 13,U 3 14] [])
 (.seq (.block 0 (.seq (.af [U 16 3,eX 17 16 112,U 15 17])
 (.cond (.t 15)
 (.seq (.af [U 18 0,eX 19 18 144,⟨none,.st 4 (.t 2) (.t 19),none,[2,19]⟩])
 (.ret))
 (.seq (.af [U 21 3,xt 22 21 34,U 20 22])
 (.cond (.t 20)
 (.seq (.af [U 23 0,eX 24 23 145,⟨none,.st 4 (.t 2) (.t 24),none,[2,24]⟩])
 (.ret))
 (.seq (.af [U 26 3,eX 27 26 89,U 28 27,hH 29 3 28,qY 30 29 28 95,fD 31 28 30,U 25 31])
 (.cond (.t 25)
 (.seq (.af [U 32 0,C3 33 32 146 3,⟨none,.st 4 (.t 2) (.t 33),none,[2,33]⟩])
 (.ret))
 (.seq (.af [U 35 3,eX 36 35 90,U 34 36])
 (.cond (.t 34)
 (.seq (.af [U 37 0,C3 38 37 146 4,⟨none,.st 4 (.t 2) (.t 38),none,[2,38]⟩])
 (.ret))
 (.seq (.draw [U 40 3,xt 41 40 39,U 42 41,fj 43 0 42,xB 44 43 42,r5 45 44 42,gw 46 45 42,⟨some 47,.bin (.int .add) (.t 46) (.c (.int .i64 1)),(some (42,true)),[46,42]⟩,fj 48 0 42,xB 49 48 42,r4 50 49 42,gw 51 50 42,z_ 52 51 42,⟨some 53,.bin (.int .lss) (.t 47) (.t 52),(some (42,true)),[47,52,42]⟩,ew 54 42 53,U 55 54,fj 56 0 55,xB 57 56 55,r4 58 57 55,gw 59 58 55,fj 60 0 55,xB 61 60 55,r5 62 61 55,gw 63 62 55,⟨some 64,.bin (.int .add) (.t 63) (.c (.int .i64 1)),(some (55,true)),[63,55]⟩,⟨some 65,.oe (.t 59) (.t 64),(some (55,true)),[59,64,55]⟩,C5 66 65 55 89,ew 67 55 66,U 39 67] [(6,[26]),(11,[26]),(19,[26]),(23,[26])])
 (.cond (.t 39)
 (.seq (.af [U 68 0,dx 69 68,c0 70 69,a' 71 70,eW 72 71 1,dx 73 68,c0 74 73,⟨none,.st 1 (.t 74) (.t 72),none,[74,72]⟩])
 (.seq (.af [U 75 0,C3 76 75 146 5,⟨none,.st 4 (.t 2) (.t 76),none,[2,76]⟩])
 (.ret)))
 (.skip))))))))))))
 (.seq (.seq (.af [⟨some 77,.call 54 [],none,[]⟩,fb 78 77,ca 79 0])
 (.block 1 (.loop MK)))
 (.seq (.af [U 98 0,dx 99 98,oH 100 99,⟨none,.st 1 (.t 100) (.c (.int .i64 251)),none,[100]⟩])
 (.seq (.af [Gw 101,⟨none,.st 4 (.t 2) (.t 101),none,[2,101]⟩])
 (.ret))))))
theorem W9:cg 137 102 Tryz.f137 MJ [.tD 2 4]:=⟨Tryz.func137,by kernel_rfl⟩
def MM:bE:=
 .seq (.af [fC 4])
 (.seq (.af [U 5 0,U 6 1,ct 7 5 6 148,U 4 7])
 (.ret))
theorem W':cg 143 8 Tryz.f143 MM [.t 4]:=⟨Tryz.func143,by kernel_rfl⟩
def MN:bE:=
 .seq (.af [xA 2])
 (.seq (.af [U 7 0,⟨some 8,.call 150 [(.t 7),(.c (.func 112 []))],none,[7]⟩,⟨some 9,.call 149 [(.t 8),(.c (.int .i64 10)),(.c (.int .i64 64))],none,[8]⟩,U 6 9,m_ 10 6,na 11 6,U 3 10,U 4 11])
 (.seq (.seq (.af [U 12 4,⟨some 13,.bin (.lV true 5) (.t 12) (.c .nilIface),none,[12]⟩,U 14 13,hH 15 3 14,⟨some 16,.bin (.int .gtr) (.t 15) (.c (.int .u64 2147483647)),(some (14,false)),[15,14]⟩,fD 17 14 16])
 (.cond (.t 17)
 (.seq (.af [U 18 0,dx 19 18,oH 20 19,⟨none,.st 1 (.t 20) (.c (.int .i64 254)),none,[20]⟩])
 (.seq (.af [Gw 21,⟨none,.st 4 (.t 2) (.t 21),none,[2,21]⟩])
 (.ret)))
 (.skip)))
 (.seq (.af [U 22 3,⟨some 23,.im (.int .i64) (.t 22),none,[22]⟩,U 5 23])
 (.seq (.seq (.af [U 24 5,kk 25 24 1073741823])
 (.cond (.t 25)
 (.af [U 26 5,qZ 27 26 2147483648,U 5 27])
 (.skip)))
 (.seq (.af [U 28 5,Gv 29 28,⟨none,.st 4 (.t 2) (.t 29),none,[2,29]⟩])
 (.ret))))))
theorem W_:cg 144 30 Tryz.f144 MN [.tD 2 4]:=⟨Tryz.func144,by kernel_rfl⟩
def MP:bE:=
 .seq (.seq (.af [U 12 0,dx 13 12,oH 14 13,a' 15 14,bp 16 15 0])
 (.cond (.t 16)
 (.skip)
 (.exit 0)))
 (.block 1 (.seq (.seq (.draw [U 17 0,dx 18 17,c0 19 18,a' 20 19,U 21 0,dx 22 21,dY 23 22,a' 24 23,kK 25 24,xu 26 20 25] [])
 (.cond (.t 26)
 (.seq (.af [U 27 0,dx 28 27,oH 29 28,⟨none,.st 1 (.t 29) (.c (.int .i64 252)),none,[29]⟩])
 (.exit 0))
 (.skip)))
 (.seq (.draw [U 30 0,dx 31 30,dY 32 31,a' 33 32,U 34 0,dx 35 34,c0 36 35,a' 37 36,z8 38 33 37,U 4 38] [])
 (.block 2 (.seq (.af [U 51 4,xt 52 51 34,U 50 52])
 (.cond (.t 50)
 (.seq (.af [U 53 0,dx 54 53,c0 55 54,a' 56 55,eW 57 56 1,dx 58 53,c0 59 58,⟨none,.st 1 (.t 59) (.t 57),none,[59,57]⟩])
 (.seq (.seq (.af [U 60 3,fb 61 60,kk 62 61 4096])
 (.cond (.t 62)
 (.af [U 63 0,dx 64 63,oH 65 64,⟨none,.st 1 (.t 65) (.c (.int .i64 255)),none,[65]⟩])
 (.skip)))
 (.seq (.af [U 66 3,z7 67 66,CZ 68 67 2,⟨none,.st 4 (.t 2) (.t 68),none,[2,68]⟩])
 (.ret))))
 (.seq (.af [U 70 4,xt 71 70 92,U 69 71])
 (.cond (.t 69)
 (.af [U 72 3,U 73 0,eX 74 73 151,CW 75 74,k3 76 72 75,U 3 76])
 (.seq (.af [U 78 4,Gq 79 78,U 80 79,hH 81 4 80,qY 82 81 80 127,fD 83 80 82,U 77 83])
 (.cond (.t 77)
 (.af [U 84 0,dx 85 84,oH 86 85,⟨none,.st 1 (.t 86) (.c (.int .i64 252)),none,[86]⟩])
 (.seq (.af [U 39 0,dx 40 39,c0 41 40,a' 42 41,eW 43 42 1,dx 44 39,c0 45 44,⟨none,.st 1 (.t 45) (.t 43),none,[45,43]⟩])
 (.af [U 46 3,U 47 4,CW 48 47,k3 49 46 48,U 3 49]))))))))))))
def MO:bE:=
 .seq (.af [xA 2])
 (.seq (.af [U 5 0,dx 6 5,c0 7 6,a' 8 7,eW 9 8 1,dx 10 5,c0 11 10,⟨none,.st 1 (.t 11) (.t 9),none,[11,9]⟩])
 (.seq (.af [jm 3])
 (.seq (.block 0 (.loop MP))
 (.seq (.af [Gw 87,⟨none,.st 4 (.t 2) (.t 87),none,[2,87]⟩])
 (.ret)))))
theorem Xa:cg 145 88 Tryz.f145 MO [.tD 2 4]:=⟨Tryz.func145,by kernel_rfl⟩
def MQ:bE:=
 .seq (.af [xA 4])
 (.seq (.af [U 6 0,⟨some 7,.call 150 [(.t 6),(.c (.func 88 []))],none,[6]⟩,U 5 7])
 (.seq (.block 0 (.seq (.af [U 9 1,bp 10 9 3,U 11 10,fj 12 5 11,⟨some 13,.bin (.str .eql) (.t 12) (.c (.str [95])),(some (11,true)),[12,11]⟩,ew 14 11 13,U 8 14])
 (.cond (.t 8)
 (.seq (.af [U 15 5,CZ 16 15 7,⟨none,.st 4 (.t 4) (.t 16),none,[4,16]⟩])
 (.ret))
 (.seq (.af [U 18 1,bp 19 18 3,U 20 19,fj 21 5 20,Gs 22 21 20,Gr 23 22 20,GA 24 23 20,ew 25 20 24,U 17 25])
 (.cond (.t 17)
 (.seq (.af [U 26 5,CZ 27 26 6,⟨none,.st 4 (.t 4) (.t 27),none,[4,27]⟩])
 (.ret))
 (.seq (.af [U 29 5,kK 30 29,kk 31 30 64,U 28 31])
 (.cond (.t 28)
 (.af [U 32 0,dx 33 32,oH 34 33,⟨none,.st 1 (.t 34) (.c (.int .i64 255)),none,[34]⟩])
 (.skip))))))))
 (.seq (.af [U 35 1,U 36 5,z1 37 35 36,⟨none,.st 4 (.t 4) (.t 37),none,[4,37]⟩])
 (.ret))))
theorem Xb:cg 146 38 Tryz.f146 MQ [.tD 4 4]:=⟨Tryz.func146,by kernel_rfl⟩
def MR:bE:=
 .seq (.af [fC 4])
 (.seq (.af [U 5 0,kK 6 5,U 7 1,kK 8 7,xu 9 6 8,U 10 9,fj 11 0 10,fj 12 1 10,z_ 13 12 10,⟨some 14,.qN (.t 11) none (some (.t 13)) none,(some (10,true)),[11,13,10]⟩,fj 15 1 10,⟨some 16,.bin (.str .eql) (.t 14) (.t 15),(some (10,true)),[14,15,10]⟩,ew 17 10 16,U 4 17])
 (.ret))
theorem Xc:cg 148 18 Tryz.f148 MR [.t 4]:=⟨Tryz.func148,by kernel_rfl⟩
def MU:bE:=
 .seq (.seq (.draw [U 10 0,dx 11 10,c0 12 11,a' 13 12,U 14 0,dx 15 14,dY 16 15,a' 17 16,kK 18 17,gi 19 13 18,U 20 19,fj 21 1 20,fj 22 0 20,xB 23 22 20,r4 24 23 20,gw 25 24 20,fj 26 0 20,xB 27 26 20,r5 28 27 20,gw 29 28 20,⟨some 30,.oe (.t 25) (.t 29),(some (20,true)),[25,29,20]⟩,⟨some 31,.p5 (.t 21) [(.t 30)],(some (20,true)),[21,30,20]⟩,ew 32 20 31] [(3,[21]),(7,[21]),(15,[21]),(19,[21])])
 (.cond (.t 32)
 (.skip)
 (.exit 0)))
 (.block 1 (.af [U 33 0,dx 34 33,c0 35 34,a' 36 35,eW 37 36 1,dx 38 33,c0 39 38,⟨none,.st 1 (.t 39) (.t 37),none,[39,37]⟩]))
def MT:bE:=
 .seq (.af [mq 4])
 (.seq (.af [U 6 0,dx 7 6,c0 8 7,a' 9 8,U 5 9])
 (.seq (.block 0 (.loop MU))
 (.seq (.draw [U 40 0,dx 41 40,dY 42 41,a' 43 42,U 44 5,U 45 0,dx 46 45,c0 47 46,a' 48 47,⟨some 49,.qN (.t 43) (some (.t 44)) (some (.t 48)) none,none,[43,44,48]⟩,U 4 49] [])
 (.ret))))
theorem Xe:cg 150 50 Tryz.f150 MT [.t 4]:=⟨Tryz.func150,by kernel_rfl⟩
def MV:bE:=
 .seq (.af [⟨some 2,.bg (.c (.int .u8 0)),none,[]⟩])
 (.seq (.af [U 7 0,dx 8 7,c0 9 8,a' 10 9,eW 11 10 1,dx 12 7,c0 13 12,⟨none,.st 1 (.t 13) (.t 11),none,[13,11]⟩])
 (.seq (.draw [U 14 0,dx 15 14,dY 16 15,a' 17 16,U 18 0,dx 19 18,c0 20 19,a' 21 20,GB 22 17 21,U 3 22] [])
 (.seq (.seq (.af [U 23 3,⟨some 24,.bin (.str .neq) (.t 23) (.c (.str [])),none,[23]⟩])
 (.cond (.t 24)
 (.seq (.af [U 25 3,tm 26 25,⟨some 27,.call 134 [(.c (.str [110,116,34,92])),(.t 26)],none,[26]⟩,U 4 27])
 (.seq (.af [U 28 4,k4 29 28 0])
 (.cond (.t 29)
 (.seq (.af [U 30 0,dx 31 30,c0 32 31,a' 33 32,eW 34 33 1,dx 35 30,c0 36 35,⟨none,.st 1 (.t 36) (.t 34),none,[36,34]⟩])
 (.seq (.af [U 37 4,⟨some 38,.oe (.c (.str [10,9,34,92])) (.t 37),none,[37]⟩,U 2 38])
 (.ret)))
 (.skip))))
 (.skip)))
 (.seq (.seq (.af [U 39 3,kK 40 39,k4 41 40 3,U 42 41,fj 43 3 42,C_ 44 43 42 0,C5 45 44 42 112,ew 46 42 45,U 47 46,fj 48 3 47,C_ 49 48 47 1,C5 50 49 47 112,ew 51 47 50,U 52 51,fj 53 3 52,C_ 54 53 52 2,C5 55 54 52 112,ew 56 52 55])
 (.cond (.t 56)
 (.seq (.af [U 58 3,⟨some 59,.qN (.t 58) none (some (.c (.int .i64 3))) none,none,[58]⟩,eX 60 59 154,U 57 60,m_ 61 57,na 62 57,U 5 61,U 6 62])
 (.seq (.af [U 63 5,oG 64 63 256])
 (.cond (.t 64)
 (.seq (.af [U 65 0,dx 66 65,c0 67 66,a' 68 67,eW 69 68 3,dx 70 65,c0 71 70,⟨none,.st 1 (.t 71) (.t 69),none,[71,69]⟩])
 (.seq (.af [U 72 5,⟨some 73,.im (.int .u8) (.t 72),none,[72]⟩,U 2 73])
 (.ret)))
 (.skip))))
 (.skip)))
 (.seq (.af [U 74 0,dx 75 74,oH 76 75,⟨none,.st 1 (.t 76) (.c (.int .i64 252)),none,[76]⟩])
 (.seq (.af [⟨some 2,.bg (.c (.int .u8 0)),none,[]⟩])
 (.ret)))))))
theorem Xf:cg 151 77 Tryz.f151 MV [.t 2]:=⟨Tryz.func151,by kernel_rfl⟩
theorem mP {f:FuncId} {args:List V} {h:ah} {v:V} (c:b' Tryz.prog f args h fun x aa=>x=v/\aa=h):ff Tryz.prog f args h v h:=by obtain ⟨x,aa,q,rfl,rfl⟩:=c;exact q
def nU (c:Int):Bool:=decide (48<=c)&&decide (c<=57)
def g_ (c:Int):Bool:=decide (97<=c)&&decide (c<=122)
def nY (c:Int):Bool:=decide (65<=c)&&decide (c<=90)
def rM (c:Int):Bool:=nU c||g_ c||nY c||decide (c=95)||decide (c=39)
def oB (c a b:Int):Bool:=decide (a<=c)&&decide (c<=b)
theorem xV (c:Int) (h:ah):ff Tryz.prog 112 [.int .u8 c] h (.bool (nU c)) h:=by refine mP (W0.z rfl (cp ?_));unfold Mx;simp +contextual only [↓ab,ae,simprocAttr];rfl
theorem zy (c:Int) (h:ah):ff Tryz.prog 89 [.int .u8 c] h (.bool (g_ c)) h:=by refine mP (Yd.z rfl (cp ?_));unfold Od;simp +contextual only [↓ab,ae,simprocAttr];rfl
theorem HX (c:Int) (h:ah):ff Tryz.prog 90 [.int .u8 c] h (.bool (nY c)) h:=by refine mP (Yf.z rfl (cp ?_));unfold Of;simp +contextual only [↓ab,ae,simprocAttr];rfl
theorem zH (c a b:Int) (h:ah):ff Tryz.prog 97 [.int .u8 c,.int .u8 a,.int .u8 b] h (.bool (oB c a b)) h:=by refine mP (Yi.z rfl (cp ?_));unfold Oj;simp +contextual only [↓ab,ae,simprocAttr];rfl
theorem abt (s p:List UInt8) (h:ah):ff Tryz.prog 148 [.str s,.str p] h (.bool (p.isPrefixOf s)) h:=by
 refine mP (Xc.z rfl (cp ?_));unfold MR;have a1:(0<=(p.length:Int))=True:=am_ (by omega);by_cases ax:p.length<=s.length
 . have J:((p.length:Int)<=(s.length:Int))=True:=am_ (by omega);simp +contextual only [a1,J,am9,↓ab,ae,simprocAttr];rw [anT,ane,aoI,List.prefix_iff_eq_take];exact ⟨fun e=>e.symm,fun e=>e.symm⟩
 . have J:((p.length:Int)<=(s.length:Int))=False:=am2 (by omega);simp +contextual only [a1,J,am9,↓ab,ae,simprocAttr];rw [eq_comm,<-Bool.not_eq_true,aoI];exact fun e=>ax e.length_le
theorem abr (s p:List UInt8) (h:ah):ff Tryz.prog 143 [.str s,.str p] h (.bool (p.isPrefixOf s)) h:=by refine mP (W'.z rfl (cp ?_));unfold MM;simp +contextual only [↓ab,ae,simprocAttr];refine ey (abt s p h) ?_;simp +contextual only [↓ab,ae,simprocAttr]
theorem R3 (c:Int) (h:ah):ff Tryz.prog 88 [.int .u8 c] h (.bool (rM c)) h:=by refine mP (Yc.z rfl (cp ?_));unfold Oc;simp +contextual only [↓ab,ae,simprocAttr];refine ey (xV c h) ?_;simp +contextual only [↓ab,ae,simprocAttr];refine DX (.bool (g_ c)) (fun ao=>by simp only [ao,↓ab,ae,simprocAttr];exact zy _ _) ?_;simp +contextual only [↓ab,ae,simprocAttr];refine DX (.bool (nY c)) (fun ao=>by simp only [ao,↓ab,ae,simprocAttr];exact HX _ _) ?_;simp +contextual only [↓ab,ae,simprocAttr];rfl
theorem Vh (c:Int) (h:ah):ff Tryz.prog 96 [.int .u8 c] h (.bool (oB c 97 122||oB c 65 90||oB c 48 57||decide (c=95)||decide (c=39))) h:=by refine mP (Yh.z rfl (cp ?_));unfold Oi;simp +contextual only [↓ab,ae,simprocAttr];refine ey (zH c _ _ h) ?_;simp +contextual only [↓ab,ae,simprocAttr];refine DX (.bool (oB c 65 90)) (fun ao=>by simp only [ao,↓ab,ae,simprocAttr];exact zH _ _ _ _) ?_;simp +contextual only [↓ab,ae,simprocAttr];refine DX (.bool (oB c 48 57)) (fun ao=>by simp only [ao,↓ab,ae,simprocAttr];exact zH _ _ _ _) ?_;simp +contextual only [↓ab,ae,simprocAttr]
theorem Ib (s p:List UInt8) (at':Int) (rest:List V) (b:aU) (cT:Nat) (st:Bool) (h:ah) (aj:h.get b=.a_ (.str s::.int .i64 at'::rest) cT st) (a1:0<=at') (J:at'<=s.length):
 ff Tryz.prog 135 [.ptr b 0,.str p] h (.bool (p.isPrefixOf (s.drop at'.toNat))) h:=by
 refine mP (W7.z rfl (cp ?_));unfold MG;have f0:(0<=at')=True:=am_ a1;have f1:(at'<=(s.length:Int))=True:=am_ J;simp +contextual only [aj,f0,f1,↓ab,ae,simprocAttr];refine ey (abr _ p h) ?_;simp +contextual only [aj,f0,f1,↓ab,ae,simprocAttr]
def jd:List UInt8->Int->Option Nat
 | [],_=>none
 | [_],_=>none
 | x::y::r,d=>if x=40/\y=42 then (jd r (d+1)).map (· +2) else if x=42/\y=41 then (if d-1=0 then some 2 else (jd r (d-1)).map (· +2)) else (jd (y::r) d).map (· +1)
theorem ahx (r:List UInt8) (d:Int) (h:r≠[]):jd r d=if ([40,42]:List UInt8).isPrefixOf r=true then (jd (r.drop 2) (d+1)).map (· +2) else
 if ([42,41]:List UInt8).isPrefixOf r=true then (if d-1=0 then some 2 else (jd (r.drop 2) (d-1)).map (· +2)) else (jd (r.drop 1) d).map (· +1):=by
 match r,h with
 | [x],_=>simp [jd,List.isPrefixOf]
 | x::y::r,_=>
   have an:(([40,42]:List UInt8).isPrefixOf (x::y::r)=true)=(x=40/\y=42):=by simp only [List.isPrefixOf,anY,amX,aow];exact propext ⟨fun q=>⟨q.1.symm,q.2.symm⟩,fun q=>⟨q.1.symm,q.2.symm⟩⟩
   have aN:(([42,41]:List UInt8).isPrefixOf (x::y::r)=true)=(x=42/\y=41):=by simp only [List.isPrefixOf,anY,amX,aow];exact propext ⟨fun q=>⟨q.1.symm,q.2.symm⟩,fun q=>⟨q.1.symm,q.2.symm⟩⟩
   rw [jd];simp only [an,aN,aoh,anN]
theorem Te {a b:UInt8} {r:List UInt8} (h:([a,b]:List UInt8).isPrefixOf r=true):2<=r.length:=by rw [aoI] at h;simpa using h.length_le
def fM (s:List UInt8) (at' e:Int):cm:=.a_ [.str s,.int .i64 at',.int .i64 e] 0 false
theorem ahy (s:List UInt8) (a0:Nat) (dJ:Int) (b:aU) (h:ah) (aj:h.get b=fM s a0 dJ) (a1:a0<=s.length) (aM:s.length<=100000) (hk:Old h b):
 b' Tryz.prog 136 [.ptr b 0] h fun x aa=>x=.tuple []/\Mod (fun x=>x=b) h aa/\(match jd (s.drop a0) 0 with
  | some n=>aa.get b=fM s ((a0+n:Nat):Int) dJ/\a0+n<=s.length
  | none=>aa.get b=fM s (s.length:Int) 253):=by
 refine W8.z rfl (cp ?_);unfold MH;unfold fM at aj ⊢;simp only [aj,↓ab,ae,simprocAttr]
 refine fS (fun r aa=>∃(a:Nat) (d:Int),a0<=a/\a<=s.length/\r 0=.ptr b 0/\r 2=.int .i64 d/\aa.get b=.a_ [.str s,.int .i64 a,.int .i64 dJ] 0 false/\Mod (fun x=>x=b) h aa/\-(a:Int)<=d/\d<=a/\
  jd (s.drop a0) 0=(jd (s.drop a) d).map (· + (a-a0))) (fun r aa=>s.length - ((jC (aa.get b) 1).getD .bad).toN) ?_ ?_
 . refine ⟨a0,0,am6 _,a1,?_⟩;simp only [↓ab,ae,simprocAttr];refine ⟨aj,Mod.refl _ _,by omega,by omega,?_⟩;rw [aoG];cases jd (s.drop a0) 0<;>rfl
 . rintro r aa ⟨a,d,cz,bY,bb,di,al,hm,d0,d1,bC⟩;unfold MI;by_cases gy:(s.length:Int)<=(a:Int)
   . have bF:a=s.length:=by omega
     have aX:jd (s.drop a) d=none:=by rw [bF,aoZ];rfl
     rw [aX] at bC;simp only [bb,di,al,gy,↓ab,ae,simprocAttr];rw [bC];refine ⟨hm.set (fun _=>rfl) _,?_⟩;simp only [bF,Option.map_none,fm,anz]
   . have ez:s.drop a≠[]:=by
      intro q;rw [List.drop_eq_nil_iff] at q;omega
     have Bi:∀p,ff Tryz.prog 135 [.ptr b 0,.str p] aa (.bool (p.isPrefixOf (s.drop a))) aa:=fun p=>by have:=Ib s p (a:Int) [.int .i64 dJ] b 0 false aa al (by omega) (by omega);simpa using this
     have iw:=ahx (s.drop a) d ez;simp only [bb,di,al,gy,↓ab,ae,simprocAttr];refine ey (Bi _) ?_;cases lo:([40,42]:List UInt8).isPrefixOf (s.drop a) with
     | true=>
       have ad:=Te lo;rw [anu] at ad;rw [lo,anb rfl] at iw;have b4:IntKind.i64.wrap (d+1)=d+1:=wrap_i64 (by omega) (by omega);have b1:IntKind.i64.wrap ((a:Int)+2)=((a+2:Nat):Int):=by rw [wrap_i64 (by omega) (by omega)];rfl
       simp only [bb,di,al,b4,b1,↓ab,ae,simprocAttr];refine ⟨⟨a+2,d+1,by omega,by omega,rfl,rfl,hm.set (fun _=>rfl) _,by omega,by omega,?_⟩,by omega⟩;rw [bC,iw,aoS,ao8];congr 1;funext q;simp only [Function.comp];omega
     | false=>
       rw [lo,am7 (by decide)] at iw;simp only [bb,di,al,↓ab,ae,simprocAttr];refine ey (Bi _) ?_;cases iK:([42,41]:List UInt8).isPrefixOf (s.drop a) with
       | true=>
         have ad:=Te iK;rw [anu] at ad;rw [iK,anb rfl] at iw;have b4:IntKind.i64.wrap (d-1)=d-1:=wrap_i64 (by omega) (by omega);have b1:IntKind.i64.wrap ((a:Int)+2)=((a+2:Nat):Int):=by rw [wrap_i64 (by omega) (by omega)];rfl
         by_cases aZ:d-1=0
         . rw [anb aZ] at iw;obtain rfl:d=1:=by omega
           have aB:IntKind.i64.wrap 0=0:=rfl;simp only [bb,di,al,aB,b1,↓ab,ae,simprocAttr];rw [bC,iw];refine ⟨hm.set (fun _=>rfl) _,?_⟩;simp only [aot,fm,anz];refine ⟨?_,by omega⟩;rw [show a0 + (2 + (a-a0))=a+2 from by omega]
         . rw [am7 aZ] at iw;simp only [bb,di,al,b4,b1,aZ,↓ab,ae,simprocAttr];refine ⟨⟨a+2,d-1,by omega,by omega,rfl,rfl,hm.set (fun _=>rfl) _,by omega,by omega,?_⟩,by omega⟩;rw [bC,iw,aoS,ao8];congr 1;funext q;simp only [Function.comp];omega
       | false=>
         rw [iK,am7 (by decide)] at iw;have b1:IntKind.i64.wrap ((a:Int)+1)=((a+1:Nat):Int):=by rw [wrap_i64 (by omega) (by omega)];rfl
         simp only [bb,di,al,b1,↓ab,ae,simprocAttr];refine ⟨⟨a+1,d,by omega,by omega,rfl,rfl,hm.set (fun _=>rfl) _,by omega,by omega,?_⟩,by omega⟩;rw [bC,iw,aoS,ao8];congr 1;funext q;simp only [Function.comp];omega
theorem drop_cons {s:List UInt8} {a:Nat} (h:a<s.length):s.drop a=s[a]::s.drop (a+1):=ant h
theorem Ur (p:UInt8->Bool):∀l:List UInt8,(l.takeWhile p).length<=l.length
 | []=>by simp
 | x::l=>by
   simp only [aoq]
   split
   . simpa using Ur p l
   . simp
theorem TZ (s:List UInt8) (a0:Nat) (dJ:Int) (b:aU) (g:FuncId) (p:Int->Bool) (h:ah) (aj:h.get b=fM s a0 dJ) (a1:a0<=s.length) (aM:s.length<=100000) (bc:(g=4294967296)=False)
 (ak:∀c h,ff Tryz.prog g [.int .u8 c] h (.bool (p c)) h):
 b' Tryz.prog 150 [.ptr b 0,.func g []] h fun x aa=>x=.str ((s.drop a0).takeWhile fun c=>p c.toNat)/\Mod (fun x=>x=b) h aa/\aa.get b=fM s ((a0 + ((s.drop a0).takeWhile fun c=>p c.toNat).length:Nat):Int) dJ:=by
 refine Xe.z rfl (cp ?_);unfold MT;unfold fM at aj ⊢;simp only [aj,↓ab,ae,simprocAttr]
 refine fS (fun r aa=>∃(a:Nat),a0<=a/\a<=s.length/\r 0=.ptr b 0/\r 1=.func g []/\r 5=.int .i64 a0/\aa.get b=.a_ [.str s,.int .i64 a,.int .i64 dJ] 0 false/\Mod (fun x=>x=b) h aa/\
  ((s.drop a0).takeWhile fun c=>p c.toNat)=(s.drop a0).take (a-a0)++((s.drop a).takeWhile fun c=>p c.toNat)) (fun r aa=>s.length - ((jC (aa.get b) 1).getD .bad).toN) ?_ ?_
 . refine ⟨a0,am6 _,a1,?_⟩;simp only [↓ab,ae,simprocAttr];refine ⟨aj,Mod.refl _ _,?_⟩;rw [aoG];rfl
 . rintro r aa ⟨a,cz,bY,bb,bT,dC,al,hm,bC⟩;unfold MU;have fin:((s.drop a).takeWhile fun c=>p c.toNat)=[]->V.str (((s.drop a0).take (a-a0)))=V.str ((s.drop a0).takeWhile fun c=>p c.toNat)/\Mod (fun x=>x=b) h aa/\cm.a_ [V.str s,V.int .i64 a,V.int .i64 dJ] 0 false=cm.a_ [V.str s,V.int .i64 ((a0 + ((s.drop a0).takeWhile fun c=>p c.toNat).length:Nat):Int),V.int .i64 dJ] 0 false:=by
    intro q;rw [q,anC] at bC;rw [bC,anH,anu];refine ⟨rfl,hm,?_⟩;rw [show a0+min (a-a0) (s.length-a0)=a from by omega]
   have f0:(0<=(a0:Int))=True:=am_ (by omega);have f1:((a0:Int)<=(a:Int))=True:=am_ (by omega);have f2:((a:Int)<=(s.length:Int))=True:=am_ (by omega);have f3:(0<=(a:Int))=True:=am_ (by omega);by_cases gy:(a:Int) < (s.length:Int)
   . have aL:a<s.length:=by omega
     rw [drop_cons aL,aoq] at bC fin;simp only [bc,anw,bb,bT,dC,al,gy,f0,f1,f2,f3,amY aL,am9,↓ab,ae,simprocAttr];refine ey (ak _ _) ?_;cases n':p ((s[a]).toNat:Int) with
     | true=>
       rw [n'] at bC;have b1:IntKind.i64.wrap ((a:Int)+1)=((a+1:Nat):Int):=by rw [wrap_i64 (by omega) (by omega)];rfl
       simp only [n',bb,bT,dC,al,gy,f0,f1,f2,f3,b1,amY aL,am9,↓ab,ae,simprocAttr];refine ⟨⟨a+1,by omega,by omega,rfl,hm.set (fun _=>rfl) _,?_⟩,by omega⟩;rw [bC,anb rfl];have tS:a-a0 < (s.drop a0).length:=by rw [anu];omega
       rw [show a+1-a0=a-a0+1 from by omega,<-List.take_append_getElem tS,ana];congr 1;rw [List.getElem_drop];simp only [show a0 + (a-a0)=a from by omega];rfl
     | false=>
       rw [n'] at fin;simp only [n',bb,bT,dC,al,gy,f0,f1,f2,f3,amY aL,am9,↓ab,ae,simprocAttr];exact fin rfl
   . have bF:a=s.length:=by omega
     simp only [bc,anw,bb,bT,dC,al,gy,f0,f1,f2,f3,am9,↓ab,ae,simprocAttr];refine fin ?_;rw [bF,aoZ];rfl
end
end Go.Proofs.YtefceblncmdkhaaGreatDoor
