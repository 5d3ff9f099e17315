/- The chapter's functions, walked by the abstract machine: plain lemmas, no condition. Printed by a program from longer texts: names made short. -/
import Derived.Test.YtahfljfikfkpnaaGreatDoorM5
import Derived.Test.YtahfljfikfkpnaaGreatDoorM3
import Derived.WalkSmall
import Derived.Shelf.Strings.Search3
import Derived.Shelf.Strings.OnBuilder
import Derived.Shelf.Strconv.Itoa3
import Derived.MakeChecks
import Derived.Shelf.Vars
import Derived.Lay
import Derived.LaidLaws
import Derived.Lib.LaidTab
import Derived.Lib.LaidU8T
import Derived.Test.YtahfljfikfkpnaaGreatDoorRows
set_option linter.unusedSectionVars false
set_option linter.unusedSimpArgs false
set_option linter.unusedVariables false
set_option maxHeartbeats 64000000
noncomputable section
namespace Go.Proofs.YtahfljfikfkpnaaGreatDoor
section
open Go bf
inductive aR where
 | mk (k n a:Int) (s:List UInt8) (l:List aR)
namespace aR
def k:aR->Int | mk k _ _ _ _=>k
def n:aR->Int | mk _ n _ _ _=>n
def a:aR->Int | mk _ _ a _ _=>a
def s:aR->List UInt8 | mk _ _ _ s _=>s
def l:aR->List aR | mk _ _ _ _ l=>l
end aR
mutual
def aR.size:aR->Nat
 | .mk _ _ _ _ l=>1+fP l
def fP:List aR->Nat
 | []=>0
 | t::l=>t.size+fP l
end
theorem C_ {t:aR}:∀{l:List aR},t ∈ l->t.size<=fP l
 | [],h=>by cases h
 | u::l,h=>by
   simp only [fP];rcases aqN.1 h with rfl | h
   . omega
   . have:=C_ h;omega
theorem No {t u:aR} (h:u ∈ t.l):u.size<t.size:=by
 cases t with
 | mk k n a s l=>have:=C_ h;simp only [aR.size];simp only [aR.l] at this;omega
theorem VV:∀l:List aR,l.length<=fP l
 | []=>aqh _
 | t::l=>by have:=VV l;have:1<=t.size:=by (cases t;simp only [aR.size];omega)
            simp only [fP,aqp];omega
theorem GL (t:aR):1<=t.size:=by cases t;simp only [aR.size];omega
mutual
def aR.enc:aR->List D
 | .mk k n a s l=>[.i .i64 k,.i .i64 n,.i .i64 a,.s s,.l 5 (GG l)]
def GG:List aR->List (List D)
 | []=>[]
 | t::l=>t.enc::GG l
end
theorem VN:∀l:List aR,GG l=l.map aR.enc
 | []=>rfl
 | t::l=>by rw [GG,VN l,arE]
theorem GF (t:aR):t.enc=[.i .i64 t.k,.i .i64 t.n,.i .i64 t.a,.s t.s,.l 5 (t.l.map aR.enc)]:=by
 cases t with
 | mk k n a s l=>simp only [aR.enc,VN,aR.k,aR.n,aR.a,aR.s,aR.l]
mutual
def aR.deep:aR->Nat
 | .mk _ _ _ _ l=>l5 l+1
def l5:List aR->Nat
 | []=>0
 | t::l=>max t.deep (l5 l)
end
section
variable {F:aN->Prop} {h:ae} [Lay]
theorem aR.open {t:aR} {af:List V} (H:dX F h t.enc af):∃bB,af=[.int .i64 t.k,.int .i64 t.n,.int .i64 t.a,.str t.s,bB]/\e1 F h 5 (t.l.map aR.enc) bB/\t.s.length<=top:=by rw [GF] at H;obtain ⟨_,rfl,H1⟩:=H.int;obtain ⟨_,rfl,ey⟩:=H1.int;obtain ⟨_,rfl,AN⟩:=ey.int;obtain ⟨_,rfl,az,HG⟩:=AN.str;obtain ⟨bB,_,rfl,L,HH⟩:=HG.e6;obtain rfl:=HH.no;exact ⟨bB,rfl,L,az⟩
theorem aR.FU {l:List aR} {v:V} (H:e1 F h 5 (l.map aR.enc) v) {k:IntKind} {i:Nat} (aG:i<l.length):
 ∃b off bB,kU 5 v (.int k i)=some (.ptr b (off+i * 5))/\dX F h l[i].enc [.int .i64 l[i].k,.int .i64 l[i].n,.int .i64 l[i].a,.str l[i].s,bB]/\e1 F h 5 (l[i].l.map aR.enc) bB/\
  ∀ab,Ext h ab->pk 5 (ab.get b) (off+i * 5)=some (.agg [.int .i64 l[i].k,.int .i64 l[i].n,.int .i64 l[i].a,.str l[i].s,bB]):=by
 obtain ⟨b,off,u,aM,bh,cu,dA,_⟩:=H.at (k:=k) (i:=i) (by rw [aqJ];exact aG);rw [arJ] at bh;obtain ⟨bB,rfl,L,_⟩:=aR.open bh;exact ⟨b,off,bB,aM,bh,L,dA⟩
end
end
section
open Go bf Go.RowKit
theorem Bj {w:World} {p:Addr} {v:Value} (h:w.cell? p=some v):p.block<w.heap.size:=by
 unfold World.cell? at h;by_cases q:p.block<w.heap.size
 . exact q
 . rw [arM (by omega)] at h;cases h
def yM (w:World) (g:Nat):Prop:=∃aS,w.cell? ⟨g,0,none⟩=some aS/\(aS=.nilIface\/∃anw VM,aS=.iface anw VM)
theorem yM.gy {w w':World} {g:Nat} (h:yM w g) (ah:Below w.heap.size w w'):yM w' g:=by obtain ⟨aS,U,ad⟩:=h;exact ⟨aS,by rw [ah.cell (Bj U)];exact U,ad⟩
structure HW (w:World):Prop where
 Xj:Lib.Utf8Tabs 0 1 w
 maxLen:∃m,w.cell? ⟨2,0,none⟩=some (.int .i64 m)
 Sw:yM w 4
 Ng:Lib.TabIs Tryz.prog w "internal/strconv.uint64pow10" .u64 Lib.pow10Tab
instance lay:Lay where
 ok w:=HW w
 gy:=by
  intro w w' h ah;refine ⟨?_,?_,h.Sw.gy ah,?_⟩
  . obtain ⟨U,ad⟩:=h.Xj;refine ⟨fun c aq=>?_,fun i aG=>?_⟩
    . rw [ah.cell (Bj (U c aq))];exact U c aq
    . obtain ⟨an,av⟩:=ad i aG;rw [ah.cell (Bj an),ah.cell (Bj av)];exact ⟨an,av⟩
  . obtain ⟨m,q⟩:=h.maxLen;exact ⟨m,by rw [ah.cell (Bj q)];exact q⟩
  . have aJ:Tryz.prog.globalNamed "internal/strconv.uint64pow10"=some 5:=by kernel_rfl
    have aD:5<w.heap.size:=by
     have q:=h.Ng;unfold Lib.TabIs World.var? at q;rw [aJ] at q;by_cases a':5<w.heap.size
     . exact a'
     . simp only [Option.bind_some] at q;rw [arM (by omega)] at q;cases q
    exact var?_below ah aJ aD h.Ng
section
open Go.Shelf
def Tryz.aiG:Go.Shelf.Ren:=⟨fun | 144=>133 | 143=>163 | 219=>198 | 217=>77 | 225=>215 | 224=>216 | 267=>217 | 266=>127 | 314=>226 | n=>n,fun | 9=>9 | 4=>4 | 3=>3 | 5=>5 | 46=>131 | 146=>154 | 51=>153 | n=>n,fun | 1=>2 | n=>n⟩
theorem Tryz.aiF:Go.Proofs.Lays.n144 Tryz.prog Tryz.aiG:={
 mixed:=by kernel_rfl,
 f143:=Tryz.func163.trans (congrArg some (by kernel_rfl)),
 f144:=Tryz.func133.trans (congrArg some (by kernel_rfl)),
 f217:=Tryz.func77.trans (congrArg some (by kernel_rfl)),
 f219:=Tryz.func198.trans (congrArg some (by kernel_rfl)),
 f224:=Tryz.func216.trans (congrArg some (by kernel_rfl)),
 f225:=Tryz.func215.trans (congrArg some (by kernel_rfl)),
 f266:=Tryz.func127.trans (congrArg some (by kernel_rfl)),
 f267:=Tryz.func217.trans (congrArg some (by kernel_rfl)),
 f314:=Tryz.func226.trans (congrArg some (by kernel_rfl)),
 t3:=Tryz.underlying3,
 a3:=Tryz.isAgg3,
 z3:=Tryz.sizeOf3,
 v3:=Tryz.zeroValue3,
 t4:=Tryz.underlying4,
 a4:=Tryz.isAgg4,
 z4:=Tryz.sizeOf4,
 v4:=Tryz.zeroValue4,
 t5:=Tryz.underlying5,
 a5:=Tryz.isAgg5,
 z5:=Tryz.sizeOf5,
 v5:=Tryz.zeroValue5,
 t9:=Tryz.underlying9,
 a9:=Tryz.isAgg9,
 z9:=Tryz.sizeOf9,
 v9:=Tryz.zeroValue9,
 t46:=Tryz.underlying131,
 a46:=Tryz.isAgg131,
 z46:=Tryz.sizeOf131,
 v46:=Tryz.zeroValue131,
 t51:=Tryz.underlying153,
 a51:=Tryz.isAgg153,
 z51:=Tryz.sizeOf153,
 v51:=Tryz.zeroValue153,
 t146:=Tryz.underlying154,
 a146:=Tryz.isAgg154,
 z146:=Tryz.sizeOf154,
 v146:=Tryz.zeroValue154,
 g1:=by kernel_rfl}
def Tryz.Us:Go.Shelf.Ren:=⟨fun | 156=>95 | 165=>143 | 166=>144 | 169=>145 | 240=>182 | 241=>183 | 276=>204 | 277=>205 | n=>n,fun | 31=>25 | 9=>9 | 3=>3 | 4=>4 | 0=>0 | 20=>20 | 72=>136 | 76=>138 | 70=>134 | 37=>26 | 75=>126 | 127=>166 | 164=>179 | 5=>5 | 80=>140 | n=>n,fun | n=>n⟩
theorem Tryz.Ur:Go.Proofs.Lays.n156 Tryz.prog Tryz.Us:={
 mixed:=by kernel_rfl,
 f156:=Tryz.func95.trans (congrArg some (by kernel_rfl)),
 f165:=Tryz.func143.trans (congrArg some (by kernel_rfl)),
 f166:=Tryz.func144.trans (congrArg some (by kernel_rfl)),
 f169:=Tryz.func145.trans (congrArg some (by kernel_rfl)),
 f240:=Tryz.func182.trans (congrArg some (by kernel_rfl)),
 f241:=Tryz.func183.trans (congrArg some (by kernel_rfl)),
 f276:=Tryz.func204.trans (congrArg some (by kernel_rfl)),
 f277:=Tryz.func205.trans (congrArg some (by kernel_rfl)),
 t0:=Tryz.underlying0,
 a0:=Tryz.isAgg0,
 z0:=Tryz.sizeOf0,
 v0:=Tryz.zeroValue0,
 t3:=Tryz.underlying3,
 a3:=Tryz.isAgg3,
 z3:=Tryz.sizeOf3,
 v3:=Tryz.zeroValue3,
 t4:=Tryz.underlying4,
 a4:=Tryz.isAgg4,
 z4:=Tryz.sizeOf4,
 v4:=Tryz.zeroValue4,
 t9:=Tryz.underlying9,
 a9:=Tryz.isAgg9,
 z9:=Tryz.sizeOf9,
 v9:=Tryz.zeroValue9,
 t20:=Tryz.underlying20,
 a20:=Tryz.isAgg20,
 z20:=Tryz.sizeOf20,
 v20:=Tryz.zeroValue20,
 t31:=Tryz.underlying25,
 a31:=Tryz.isAgg25,
 z31:=Tryz.sizeOf25,
 v31:=Tryz.zeroValue25,
 t37:=Tryz.underlying26,
 a37:=Tryz.isAgg26,
 z37:=Tryz.sizeOf26,
 v37:=Tryz.zeroValue26,
 t70:=Tryz.underlying134,
 a70:=Tryz.isAgg134,
 z70:=Tryz.sizeOf134,
 v70:=Tryz.zeroValue134,
 t72:=Tryz.underlying136,
 a72:=Tryz.isAgg136,
 z72:=Tryz.sizeOf136,
 v72:=Tryz.zeroValue136,
 t75:=Tryz.underlying126,
 a75:=Tryz.isAgg126,
 z75:=Tryz.sizeOf126,
 v75:=Tryz.zeroValue126,
 t76:=Tryz.underlying138,
 a76:=Tryz.isAgg138,
 z76:=Tryz.sizeOf138,
 v76:=Tryz.zeroValue138,
 t127:=Tryz.underlying166,
 a127:=Tryz.isAgg166,
 z127:=Tryz.sizeOf166,
 v127:=Tryz.zeroValue166,
 t164:=Tryz.underlying179,
 a164:=Tryz.isAgg179,
 z164:=Tryz.sizeOf179,
 v164:=Tryz.zeroValue179}
def Tryz.aiI:Go.Shelf.Ren:=⟨fun | 171=>93 | 243=>142 | 246=>181 | 283=>200 | 284=>201 | 285=>202 | 286=>203 | 129=>219 | 317=>218 | 318=>220 | 319=>221 | 320=>222 | 337=>227 | 338=>228 | n=>n,fun | 3=>3 | 9=>9 | 2=>2 | 4=>4 | 171=>174 | 0=>0 | 53=>124 | 37=>26 | 5=>5 | 173=>177 | 212=>191 | 51=>153 | 20=>20 | 213=>192 | 46=>131 | 232=>201 | 233=>202 | n=>n,fun | 17=>5 | 18=>6 | 19=>7 | n=>n⟩
theorem Tryz.aiH:Go.Proofs.LaysM.n171 Tryz.prog Tryz.aiI:={
 mixed:=by kernel_rfl,
 f129:=Tryz.func219.trans (congrArg some (by kernel_rfl)),
 f171:=Tryz.func93.trans (congrArg some (by kernel_rfl)),
 f243:=Tryz.func142.trans (congrArg some (by kernel_rfl)),
 f246:=Tryz.func181.trans (congrArg some (by kernel_rfl)),
 f283:=Tryz.func200.trans (congrArg some (by kernel_rfl)),
 f284:=Tryz.func201.trans (congrArg some (by kernel_rfl)),
 f285:=Tryz.func202.trans (congrArg some (by kernel_rfl)),
 f286:=Tryz.func203.trans (congrArg some (by kernel_rfl)),
 f317:=Tryz.func218.trans (congrArg some (by kernel_rfl)),
 f318:=Tryz.func220.trans (congrArg some (by kernel_rfl)),
 f319:=Tryz.func221.trans (congrArg some (by kernel_rfl)),
 f320:=Tryz.func222.trans (congrArg some (by kernel_rfl)),
 f337:=Tryz.func227.trans (congrArg some (by kernel_rfl)),
 f338:=Tryz.func228.trans (congrArg some (by kernel_rfl)),
 t0:=Tryz.underlying0,
 a0:=Tryz.isAgg0,
 z0:=Tryz.sizeOf0,
 v0:=Tryz.zeroValue0,
 t2:=Tryz.underlying2,
 a2:=Tryz.isAgg2,
 z2:=Tryz.sizeOf2,
 v2:=Tryz.zeroValue2,
 t3:=Tryz.underlying3,
 a3:=Tryz.isAgg3,
 z3:=Tryz.sizeOf3,
 v3:=Tryz.zeroValue3,
 t4:=Tryz.underlying4,
 a4:=Tryz.isAgg4,
 z4:=Tryz.sizeOf4,
 v4:=Tryz.zeroValue4,
 t5:=Tryz.underlying5,
 a5:=Tryz.isAgg5,
 z5:=Tryz.sizeOf5,
 v5:=Tryz.zeroValue5,
 t9:=Tryz.underlying9,
 a9:=Tryz.isAgg9,
 z9:=Tryz.sizeOf9,
 v9:=Tryz.zeroValue9,
 t20:=Tryz.underlying20,
 a20:=Tryz.isAgg20,
 z20:=Tryz.sizeOf20,
 v20:=Tryz.zeroValue20,
 t37:=Tryz.underlying26,
 a37:=Tryz.isAgg26,
 z37:=Tryz.sizeOf26,
 v37:=Tryz.zeroValue26,
 t46:=Tryz.underlying131,
 a46:=Tryz.isAgg131,
 z46:=Tryz.sizeOf131,
 v46:=Tryz.zeroValue131,
 t51:=Tryz.underlying153,
 a51:=Tryz.isAgg153,
 z51:=Tryz.sizeOf153,
 v51:=Tryz.zeroValue153,
 t53:=Tryz.underlying124,
 a53:=Tryz.isAgg124,
 z53:=Tryz.sizeOf124,
 v53:=Tryz.zeroValue124,
 t171:=Tryz.underlying174,
 a171:=Tryz.isAgg174,
 z171:=Tryz.sizeOf174,
 v171:=Tryz.zeroValue174,
 t173:=Tryz.underlying177,
 a173:=Tryz.isAgg177,
 z173:=Tryz.sizeOf177,
 v173:=Tryz.zeroValue177,
 t212:=Tryz.underlying191,
 a212:=Tryz.isAgg191,
 z212:=Tryz.sizeOf191,
 v212:=Tryz.zeroValue191,
 t213:=Tryz.underlying192,
 a213:=Tryz.isAgg192,
 z213:=Tryz.sizeOf192,
 t232:=Tryz.underlying201,
 a232:=Tryz.isAgg201,
 z232:=Tryz.sizeOf201,
 v232:=Tryz.zeroValue201,
 t233:=Tryz.underlying202,
 a233:=Tryz.isAgg202,
 z233:=Tryz.sizeOf202,
 v233:=Tryz.zeroValue202,
 g17:=by kernel_rfl,
 g18:=by kernel_rfl,
 g19:=by kernel_rfl,
 i0:=by kernel_rfl,
 i2:=by kernel_rfl,
 i3:=by kernel_rfl,
 i4:=by kernel_rfl,
 i5:=by kernel_rfl,
 i9:=by kernel_rfl,
 i20:=by kernel_rfl,
 i37:=by kernel_rfl,
 i46:=by kernel_rfl,
 i51:=by kernel_rfl,
 i53:=by kernel_rfl,
 i171:=by kernel_rfl,
 i173:=by kernel_rfl,
 i212:=by kernel_rfl,
 i232:=by kernel_rfl,
 i233:=by kernel_rfl,
 m17:=by kernel_rfl,
 m18:=by kernel_rfl,
 m19:=by kernel_rfl}
theorem Tryz.Sz:Builder.Extra Tryz.prog Tryz.Us where
 sizeBuilder:=by kernel_rfl
 liesBuilder:=by kernel_rfl
 t5:=Tryz.underlying5
 a5:=Tryz.isAgg5
 z5:=Tryz.sizeOf5
 v5:=Tryz.zeroValue5
 infoByte:=by kernel_rfl
 cellsByte:=by kernel_rfl
 sizeByte:=by kernel_rfl
 neB5:=by decide
theorem RQ (s sub:ByteArray) (m:Int) (w:World) (az:s.size<4294967281) (hm:w.cell? ⟨2,0,none⟩=some (.int .i64 m)):
 Calls Tryz.prog 133 #[.string s,.string sub] w fun e w'=>e=.returned (.bool (Lib.contains s.data.toList sub.data.toList))/\w'=w:=Any.strings_Contains Tryz.aiF s sub m w az hm
end
theorem agA:HT Tryz.prog 95:=
 ⟨fun uR o c xs sep w U ad aC aX bF=>Go.Proofs.Any.strings_Join Tryz.Ur Tryz.Sz uR o c xs sep w U ad aC aX bF,fun a c sep w=>Go.Proofs.Any.strings_Join_none Tryz.Ur Tryz.Sz a c sep w⟩
section
open Go.Proofs Go.Sort
theorem Zw (w:World) (k:Nat) (os:Array Obj):Below w.heap.size w (grow (w.drewN k) os):=
 ⟨rfl,rfl,rfl,by simp [grow,World.drewN],fun b ah=>by simp only [grow,World.drewN];rw [arK ah]⟩
theorem agy:O7 Tryz.prog 93:=fun n w hw aV U=>(Any.strconv_Itoa Tryz.aiH n aV U w hw.Ng).mono fun e w' q=>by obtain ⟨an,k,os,rfl⟩:=q;exact ⟨an,Zw w k os⟩
end
def ctx:Ctx:=⟨Tryz.prog,fun f=>bif Nat.beq f 133 then some Ja else bif Nat.beq f 93 then some Ly else bif Nat.beq f 95 then some Lz else none,fun f=>bif Nat.beq f 127 then some FB else none⟩
theorem follows:Tryz.prog.follows .mixedOrders=true:=by kernel_rfl
theorem names:(Tryz.prog.funcs.toList.all fun fn=>!(fn.name == "runtime.NumGoroutine"))=true:=by kernel_rfl
theorem rj:eO Tryz.prog:=by intro f fn h;have:=aqR.1 names fn (aqX (i:=f) (by simpa using h));simpa using this
theorem Ad:o3 ctx:=by
 refine ⟨fun f p args h v ab ai he=>?_,fun f p args h v ab ai he al E w xs ay s=>?_⟩
 . simp only [ctx,iE] at ai;by_cases aA:f=133
   . rw [aqw aA] at ai;cases ai;subst aA;obtain ⟨s,sub,rfl,az,rfl,rfl⟩:=abL he;refine ⟨⟨_,Tryz.func133,by kernel_rfl⟩,aiv fun E xs w aD ay=>?_⟩;obtain ⟨y,de,rfl,an,z,rC,rfl,av,rfl⟩:=ay;simp only [Rel] at an av;subst an av;obtain ⟨m,hm⟩:=aD.maxLen;refine (RQ ⟨⟨s⟩⟩ ⟨⟨sub⟩⟩ m w (by show s.length<4294967281;omega) hm).mono fun e w' q=>?_;obtain ⟨rfl,rfl⟩:=q;exact ⟨_,rfl,by simp only [Rel],Below.refl _ _⟩
   . rw [aqr aA] at ai;by_cases aA:f=93
     . rw [aqw aA] at ai;cases ai;subst aA;exact ⟨⟨_,Tryz.func93,by kernel_rfl⟩,fun al E w xs ay s=>agz agy he al E w xs ay s⟩
     . rw [aqr aA] at ai;by_cases aA:f=95
       . rw [aqw aA] at ai;cases ai;subst aA;exact ⟨⟨_,Tryz.func95,by kernel_rfl⟩,fun al E w xs ay s=>agB agA he al E w xs ay s⟩
       . rw [aqr aA] at ai;cases ai
 . simp only [ctx,iE] at ai;by_cases aA:f=127
   . rw [aqw aA] at ai;cases ai;subst aA;exact agn (P:=Tryz.prog) Tryz.func127 (by kernel_rfl) (by kernel_rfl) (by kernel_rfl) (by kernel_rfl) he al E w xs ay s
   . rw [aqr aA] at ai;cases ai
end
section
open Go bf
abbrev aj (d bo:Nat):bJ:=⟨some d,.fz (.t bo),none,[bo]⟩
abbrev cF (d bo:Nat):bJ:=⟨some d,.hc (.t bo),none,[bo]⟩
abbrev c8 (d bo:Nat) (dE:Nat):bJ:=⟨some d,.call dE [(.t bo)],none,[bo]⟩
abbrev dN (d bo:Nat):bJ:=⟨some d,.vE (.t bo),none,[bo]⟩
abbrev eW (d:Nat):bJ:=⟨some d,.new [(.int .i64 0),(.int .i64 0),(.int .i64 0),(.str []),.cn],none,[]⟩
abbrev eX (d bo:Nat):bJ:=⟨some d,.iH 5 (.t bo),none,[bo]⟩
abbrev fk (d bo:Nat):bJ:=⟨some d,.hI 1 (.t bo),none,[bo]⟩
abbrev fC (d bo bY:Nat):bJ:=⟨some d,.fz (.t bo),(some (bY,true)),[bo,bY]⟩
abbrev f_ (d bo:Nat) (dE:Nat) (c1:Int):bJ:=⟨some d,.call dE [(.t bo),(.c (.int .i64 c1))],none,[bo]⟩
abbrev ht (d:Nat) (dE:Int):bJ:=⟨some d,.fz (.c (.int .i64 dE)),none,[]⟩
abbrev hF (d:Nat):bJ:=⟨some d,.fz (.c (.bool false)),none,[]⟩
abbrev hV (d bo:Nat) (dE:Int):bJ:=⟨some d,.bin (.int .add) (.t bo) (.c (.int .i64 dE)),none,[bo]⟩
abbrev hW (d bo bY:Nat):bJ:=⟨some d,.pick (.t bo) (.t bY) (.c (.bool false)),none,[bo,bY]⟩
abbrev il (d bo bY:Nat):bJ:=⟨some d,.pick (.t bo) (.c (.bool true)) (.t bY),none,[bo,bY]⟩
abbrev iB (d bo:Nat):bJ:=⟨some d,.hI 2 (.t bo),none,[bo]⟩
abbrev iN (d bo:Nat):bJ:=⟨some d,.len .slice (.t bo),none,[bo]⟩
abbrev iO (d bo bY:Nat):bJ:=⟨some d,.fz (.t bo),(some (bY,false)),[bo,bY]⟩
abbrev iY (d bo bY:Nat) (dE:Nat):bJ:=⟨some d,.call dE [(.t bo),(.t bY)],none,[bo,bY]⟩
abbrev jD (d bo:Nat):bJ:=⟨some d,.hI 0 (.t bo),none,[bo]⟩
abbrev jV (d bo:Nat) (dE:Int):bJ:=⟨some d,.bin (.int .eql) (.t bo) (.c (.int .i64 dE)),none,[bo]⟩
abbrev j8 (d bo bY:Nat):bJ:=⟨some d,.hc (.t bo),(some (bY,true)),[bo,bY]⟩
abbrev kM (d bo bY:Nat):bJ:=⟨some d,.bin (.int .lss) (.t bo) (.t bY),none,[bo,bY]⟩
abbrev k6 (d bo:Nat):bJ:=⟨some d,.kx 1 5 [(.int .i64 0),(.int .i64 0),(.int .i64 0),(.str []),.cn] [(0,5,(.t bo))],none,[bo]⟩
abbrev lE (d bo:Nat):bJ:=⟨some d,.len .str (.t bo),none,[bo]⟩
abbrev ob (d bo bY:Nat):bJ:=⟨some d,.hc (.t bo),(some (bY,false)),[bo,bY]⟩
abbrev oc (d:Nat):bJ:=⟨some d,.fz (.c .cn),none,[]⟩
abbrev oZ (d bo:Nat):bJ:=⟨some d,.box (.t bo),none,[bo]⟩
abbrev pC (d bo:Nat):bJ:=⟨some d,.ext (.t bo) 0,none,[bo]⟩
abbrev pD (d bo:Nat):bJ:=⟨some d,.ext (.t bo) 1,none,[bo]⟩
abbrev pE (d bo:Nat):bJ:=⟨some d,.hI 3 (.t bo),none,[bo]⟩
abbrev qC (d bo:Nat):bJ:=⟨some d,.hI 4 (.t bo),none,[bo]⟩
abbrev qD (d bo:Nat):bJ:=⟨some d,.qS 3 (.t bo),none,[bo]⟩
abbrev qE (d bo:Nat):bJ:=⟨some d,.un .not (.t bo),none,[bo]⟩
abbrev rG (d bo bY:Nat) (dE:Int):bJ:=⟨some d,.build [(.int .i64 0),(.int .i64 0),(.int .i64 0),(.str []),.cn] [(0,1,(.c (.int .i64 dE))),(3,1,(.t bo)),(2,1,(.t bY))],none,[bo,bY]⟩
abbrev rH (d:Nat):bJ:=⟨some d,.new [(.int .i64 0),(.int .i64 0),(.int .i64 0),(.str [])],none,[]⟩
abbrev rI (d bo bY:Nat):bJ:=⟨some d,.vE (.t bo),(some (bY,true)),[bo,bY]⟩
abbrev sN (d bo bY:Nat):bJ:=⟨some d,.app 5 (.t bo) (.t bY),none,[bo,bY]⟩
abbrev sO (d bo:Nat) (dE:Int):bJ:=⟨some d,.bin (.int .geq) (.t bo) (.c (.int .i64 dE)),none,[bo]⟩
abbrev sP (d bo:Nat) (dE:Int):bJ:=⟨some d,.bin (.int .gtr) (.t bo) (.c (.int .i64 dE)),none,[bo]⟩
abbrev sQ (d bo bY:Nat) (dE:Int):bJ:=⟨some d,.build [(.int .i64 0),(.int .i64 0),(.int .i64 0),(.str []),.cn] [(0,1,(.c (.int .i64 dE))),(2,1,(.t bo)),(4,1,(.t bY))],none,[bo,bY]⟩
abbrev sR (d bo bY:Nat) (dE:Nat) (c1:Int):bJ:=⟨some d,.call dE [(.c (.int .i64 c1)),(.t bo),(.t bY)],none,[bo,bY]⟩
abbrev uD (d bo bY:Nat) (dE:Nat) (c1:Int):bJ:=⟨some d,.call dE [(.t bo),(.c (.int .i64 c1))],(some (bY,false)),[bo,bY]⟩
abbrev uE (d bo bY:Nat):bJ:=⟨some d,.hI 0 (.t bo),(some (bY,true)),[bo,bY]⟩
abbrev uF (d bo bY:Nat):bJ:=⟨some d,.hI 1 (.t bo),(some (bY,true)),[bo,bY]⟩
abbrev uG (d bo bY:Nat):bJ:=⟨some d,.fy 1 (.t bo) (.t bY),none,[bo,bY]⟩
abbrev uH (d bo bY:Nat):bJ:=⟨some d,.fy 5 (.t bo) (.t bY),none,[bo,bY]⟩
abbrev wA (d bo bY:Nat) (dE:Nat) (c1:Int):bJ:=⟨some d,.call dE [(.t bo),(.c (.int .i64 c1)),(.t bY)],none,[bo,bY]⟩
abbrev yO (d bo bY:Nat) (dE:Int):bJ:=⟨some d,.bin (.int .eql) (.t bo) (.c (.int .i64 dE)),(some (bY,true)),[bo,bY]⟩
abbrev yP (d bo:Nat) (dE:Nat):bJ:=⟨some d,.call dE [(.t bo),(.c (.str [41]))],none,[bo]⟩
abbrev AQ (d bo bY:Nat):bJ:=⟨some d,.bin (.int .geq) (.t bo) (.t bY),none,[bo,bY]⟩
abbrev AR (d bo:Nat) (dE:Int):bJ:=⟨some d,.bin (.int .neq) (.t bo) (.c (.int .i64 dE)),none,[bo]⟩
abbrev AS (d bo:Nat) (dE:Int):bJ:=⟨some d,.build [(.int .i64 0),(.int .i64 0),(.int .i64 0),(.str []),.cn] [(0,1,(.c (.int .i64 dE))),(2,1,(.t bo))],none,[bo]⟩
abbrev AT (d bo bY:Nat) (dE:Nat):bJ:=⟨some d,.call dE [(.t bo)],(some (bY,true)),[bo,bY]⟩
abbrev AU (d bo bY:Nat):bJ:=⟨some d,.hI 2 (.t bo),(some (bY,false)),[bo,bY]⟩
abbrev AV (d:Nat):bJ:=⟨some d,.fz (.c (.bool true)),none,[]⟩
abbrev AW (d:Nat):bJ:=⟨some d,.new [(.int .i64 0),(.int .i64 0)],none,[]⟩
abbrev DE (d bo bY:Nat) (dE:Int):bJ:=⟨some d,.bin (.int .eql) (.t bo) (.c (.int .u8 dE)),(some (bY,false)),[bo,bY]⟩
abbrev DF (d bo:Nat) (dE:Int):bJ:=⟨some d,.bin (.int .eql) (.t bo) (.c (.int .u8 dE)),none,[bo]⟩
abbrev DG (d bo bY:Nat) (dE:Int):bJ:=⟨some d,.bin (.int .leq) (.t bo) (.c (.int .i64 dE)),(some (bY,true)),[bo,bY]⟩
abbrev DH (d bo bY:Nat):bJ:=⟨some d,.bin (.int .sub) (.t bo) (.t bY),none,[bo,bY]⟩
abbrev DI (d bo:Nat) (dE:Int):bJ:=⟨some d,.bin (.int .sub) (.t bo) (.c (.int .i64 dE)),none,[bo]⟩
abbrev DJ (d bo:Nat) (dE:Int):bJ:=⟨some d,.build [(.int .i64 0),(.int .i64 0),(.int .i64 0),(.str [])] [(0,1,(.c (.int .i64 dE))),(3,1,(.t bo))],none,[bo]⟩
abbrev DK (d bo bY j7:Nat) (dE:Nat):bJ:=⟨some d,.call dE [(.t bo),(.t bY),(.t j7)],none,[bo,bY,j7]⟩
abbrev DL (d bo:Nat) (dE:Nat):bJ:=⟨some d,.call dE [(.t bo),(.c (.str [40]))],none,[bo]⟩
abbrev DM (d bo:Nat):bJ:=⟨some d,.call 25 [(.t bo),(.c (.str [61]))],none,[bo]⟩
abbrev DN (d bo:Nat):bJ:=⟨some d,.call 50 [(.t bo),(.c (.str [44]))],none,[bo]⟩
abbrev DO (d bo bY:Nat):bJ:=⟨some d,.fy 4 (.t bo) (.t bY),none,[bo,bY]⟩
abbrev DP (d bo bY:Nat):bJ:=⟨some d,.fy 4 (.t bo) (.c (.int .i64 0)),(some (bY,true)),[bo,bY]⟩
abbrev DQ (d bo bY:Nat):bJ:=⟨some d,.len .str (.t bo),(some (bY,true)),[bo,bY]⟩
abbrev DR (d bo bY:Nat):bJ:=⟨some d,.un .not (.t bo),(some (bY,false)),[bo,bY]⟩
abbrev HJ (d bo bY:Nat) (dE:Int):bJ:=⟨some d,.bin (.int .leq) (.t bo) (.c (.int .u8 dE)),(some (bY,true)),[bo,bY]⟩
abbrev HK (d bo:Nat) (dE:Int):bJ:=⟨some d,.bin (.int .lss) (.t bo) (.c (.int .i64 dE)),none,[bo]⟩
abbrev HL (d bo bY:Nat):bJ:=⟨some d,.kx 2 5 [(.int .i64 0),(.int .i64 0),(.int .i64 0),(.str []),.cn] [(0,5,(.t bo)),(5,5,(.t bY))],none,[bo,bY]⟩
abbrev HM (d bo bY:Nat) (dE:Int):bJ:=⟨some d,.build [(.int .i64 0),(.int .i64 0),(.int .i64 0),(.str []),.cn] [(0,1,(.c (.int .i64 dE))),(1,1,(.t bo)),(2,1,(.t bY))],none,[bo,bY]⟩
abbrev HN (d bo bY j7:Nat) (dE:Int):bJ:=⟨some d,.build [(.int .i64 0),(.int .i64 0),(.int .i64 0),(.str []),.cn] [(0,1,(.c (.int .i64 dE))),(3,1,(.t bo)),(2,1,(.t bY)),(4,1,(.t j7))],none,[bo,bY,j7]⟩
abbrev HO (d:Nat):bJ:=⟨some d,.build [(.int .i64 0),(.int .i64 0),(.int .i64 0),(.str [])] [],none,[]⟩
abbrev HP (d bo bY j7:Nat) (dE:Nat):bJ:=⟨some d,.call dE [(.t bo),(.t bY)],(some (j7,false)),[bo,bY,j7]⟩
abbrev HQ (d bo:Nat):bJ:=⟨some d,.call 50 [(.t bo),(.c (.str [124]))],none,[bo]⟩
abbrev HR (d bo bY:Nat) (dE:Int):bJ:=⟨some d,.oI (.t bo) (.c (.int .i64 dE)),(some (bY,true)),[bo,bY]⟩
abbrev HS (d bo bY:Nat):bJ:=⟨some d,.sz (.t bo) (some (.t bY)) none none,none,[bo,bY]⟩
abbrev O8 (d bo bY j7:Nat):bJ:=⟨some d,.kx 3 5 [(.int .i64 0),(.int .i64 0),(.int .i64 0),(.str []),.cn] [(0,5,(.t bo)),(5,5,(.t bY)),(10,5,(.t j7))],none,[bo,bY,j7]⟩
abbrev O9 (d bo bY j7:Nat):bJ:=⟨some d,.build [(.int .i64 0),(.int .i64 0),(.int .i64 0),(.str []),.cn] [(0,1,(.t bo)),(2,1,(.t bY)),(4,1,(.t j7))],none,[bo,bY,j7]⟩
abbrev O' (d bo:Nat) (dE:Int) (c1:Int):bJ:=⟨some d,.build [(.int .i64 0),(.int .i64 0),(.int .i64 0),(.str []),.cn] [(0,1,(.c (.int .i64 dE))),(1,1,(.c (.int .i64 c1))),(2,1,(.t bo))],none,[bo]⟩
structure dJ (f n:Nat) (fn:Func) (c:bL) (c4:List mV):Prop where
 aA:Tryz.prog.funcs[f]? =some fn
 Bq:(fn.body,fn.ntmps,Nat.ble fn.ntmps top,Nat.beq f dx,fI Tryz.prog fn.ntmps (fn.body.getD .skip),jx Tryz.prog fn.ntmps fn.results.toList,c.plain)=(some (fn.body.getD .skip),n,true,false,c,c4,true)
theorem dJ.z {f n:Nat} {fn:Func} {c:bL} {c4:List mV} (Z:dJ f n fn c c4) {args:List V} {h:ae} {K:V->ae->Prop} (aD:Nat.ble args.length n=true) (H:fZ Tryz.prog c (a7.bz args) h fun e r ab=>e.ends/\∃af,ho r ab c4=some af/\K (oneOf af) ab):e9 Tryz.prog f args h K:=by have q:=Z.Bq;simp only [aru] at q;obtain ⟨U,ad,aC,aX,bF,bR,cv⟩:=q;exact ab1 follows rj Z.aA U aC aX (by rw [ad];exact aD) bF bR cv H
theorem dJ.d {f n:Nat} {fn:Func} {c:bL} {c4:List mV} (Z:dJ f n fn c c4) {args:List V} {u:Option V} {h:ae} {K:Option V->ae->Prop} (aD:Nat.ble args.length n=true) (H:fZ Tryz.prog c (a7.bz args) h fun e r ab=>e.ends/\∃af,ho r ab c4=some af/\K u ab):oY Tryz.prog f args u h K:=by have q:=Z.Bq;simp only [aru] at q;obtain ⟨U,ad,aC,aX,bF,bR,cv⟩:=q;exact ab6 follows rj Z.aA U aC (by rw [ad];exact aD) bF bR cv H
theorem dJ.x {f n:Nat} {fn:Func} {c:bL} {c4:List mV} (Z:dJ f n fn c c4) {args:List V} {h:ae} {K X:V->ae->Prop} (aD:Nat.ble args.length n=true) (H:fZ Tryz.prog c (a7.bz args) h (y' c4 K X)):jB Tryz.prog f args h K X:=by have q:=Z.Bq;simp only [aru] at q;obtain ⟨U,ad,aC,aX,bF,bR,cv⟩:=q;exact abY follows rj Z.aA U aC aX (by rw [ad];exact aD) bF bR cv H
structure wv (f n:Nat) (fn:Func) (c:bL) (c4:List mV):Prop where
 aA:Tryz.prog.funcs[f]? =some fn
 Bq:(fn.body,fn.ntmps,Nat.ble fn.ntmps top,Nat.beq f dx,fI Tryz.prog fn.ntmps (fn.body.getD .skip),jx Tryz.prog fn.ntmps fn.results.toList)=(some (fn.body.getD .skip),n,true,false,c,c4)
theorem wv.x {f n:Nat} {fn:Func} {c:bL} {c4:List mV} (Z:wv f n fn c c4) {args:List V} {h:ae} {K X:V->ae->Prop} (aD:Nat.ble args.length n=true) (H:fZ Tryz.prog c (a7.bz args) h (tf Tryz.prog c4 K X)):jB Tryz.prog f args h K X:=by have q:=Z.Bq;simp only [aru] at q;obtain ⟨U,ad,aC,aX,bF,bR⟩:=q;exact abZ follows rj Z.aA U aC aX (by rw [ad];exact aD) bF bR H
def Qq:bL:=
 .block 1 (.seq (.ax [aj 24 5,dN 25 24,fk 26 25,cF 27 26,aj 7 27])
 (.seq (.block 2 (.seq (.ax [aj 37 7,aj 38 0,lE 39 38,AQ 40 37 39,aj 36 40])
 (.cond (.t 36)
 (.exit 0)
 (.seq (.ax [aj 42 0,aj 43 7,⟨some 44,.oI (.t 42) (.t 43),none,[42,43]⟩,⟨some 45,.call 33 [(.c (.str [9,10,13,32])),(.t 44)],none,[44]⟩,sO 46 45 0,aj 41 46])
 (.cond (.t 41)
 (.ax [aj 47 5,dN 48 47,fk 49 48,cF 50 49,hV 51 50 1,dN 52 47,fk 53 52,⟨none,.st 1 (.t 53) (.t 51),none,[53,51]⟩])
 (.seq (.ax [aj 55 5,⟨some 56,.call 34 [(.t 55),(.c (.str [40,42]))],none,[55]⟩,aj 54 56])
 (.cond (.t 54)
 (.ax [aj 57 5,c8 58 57 35])
 (.seq (.ax [aj 28 5,c8 29 28 36,rH 8,⟨none,.st 4 (.t 8) (.t 29),none,[8,29]⟩])
 (.seq (.ax [aj 30 7,iB 31 8,⟨none,.st 1 (.t 31) (.t 30),none,[31,30]⟩])
 (.ax [aj 32 6,⟨some 33,.iH 4 (.t 8),none,[8]⟩,⟨some 34,.kx 1 4 [(.int .i64 0),(.int .i64 0),(.int .i64 0),(.str [])] [(0,4,(.t 33))],none,[33]⟩,⟨some 35,.app 4 (.t 32) (.t 34),none,[32,34]⟩,aj 6 35]))))))))))
 (.seq (.ax [aj 59 5,dN 60 59,iB 61 60,cF 62 61,AR 63 62 0])
 (.cond (.t 63)
 (.seq (.draw [aj 64 5,dN 65 64,iB 66 65,cF 67 66,aj 68 7,⟨some 69,.build [(.int .i64 0),(.int .i64 0)] [(0,1,(.t 67)),(1,1,(.t 68))],none,[67,68]⟩,oc 2,⟨none,.st 2 (.t 3) (.t 69),none,[3,69]⟩] [(3,[7])] [] [])
 (.ret))
 (.skip)))))
def Qj:bL:=
 .seq (.ax [oc 2,AW 3])
 (.seq (.seq (.ax [aj 9 0,lE 10 9,sP 11 10 65536])
 (.cond (.t 11)
 (.seq (.ax [⟨some 12,.build [(.int .i64 0),(.int .i64 0)] [(0,1,(.c (.int .i64 3)))],none,[]⟩,oc 2,⟨none,.st 2 (.t 3) (.t 12),none,[3,12]⟩])
 (.ret))
 (.skip)))
 (.seq (.seq (.ax [aj 13 0,c8 14 13 32,aj 4 14])
 (.seq (.ax [aj 15 4,aj 16 0,lE 17 16,kM 18 15 17])
 (.cond (.t 18)
 (.seq (.ax [aj 19 4,⟨some 20,.build [(.int .i64 0),(.int .i64 0)] [(0,1,(.c (.int .i64 250))),(1,1,(.t 19))],none,[19]⟩,oc 2,⟨none,.st 2 (.t 3) (.t 20),none,[3,20]⟩])
 (.ret))
 (.skip))))
 (.seq (.ax [aj 21 0,⟨some 22,.build [(.str []),(.int .i64 0),(.int .i64 0)] [(0,1,(.t 21))],none,[21]⟩,oZ 23 22,aj 5 23])
 (.seq (.ax [oc 6])
 (.seq (.skip)
 (.seq (.block 0 (.loop Qq))
 (.seq (.ax [aj 70 6,⟨some 71,.build [(.int .i64 0),(.int .i64 0)] [],none,[]⟩,aj 2 70,⟨none,.st 2 (.t 3) (.t 71),none,[3,71]⟩])
 (.ret))))))))
theorem Z9:dJ 13 72 Tryz.f13 Qj [.t 2,.hG 3 2]:=⟨Tryz.func13,by kernel_rfl⟩
def Q0:bL:=
 .seq (.ax [⟨some 9,.z8 (.t 8),none,[8]⟩,pC 10 9])
 (.seq (.cond (.t 10)
 (.skip)
 (.exit 0))
 (.block 1 (.seq (.ax [pD 11 9,⟨some 12,.ext (.t 9) 2,none,[9]⟩,aj 3 11,aj 4 12])
 (.seq (.ax [aj 13 4,⟨some 14,.bin (.int .eql) (.t 13) (.c (.int .i32 65533)),none,[13]⟩])
 (.cond (.t 14)
 (.seq (.ax [aj 16 0,aj 17 3,HS 18 16 17,c8 19 18 76,aj 15 19,pC 20 15,pD 21 15,aj 5 20,aj 6 21])
 (.seq (.ax [aj 22 6,jV 23 22 1])
 (.cond (.t 23)
 (.seq (.ax [aj 24 3,aj 2 24])
 (.ret))
 (.skip))))
 (.skip))))))
def QZ:bL:=
 .seq (.ax [ht 2 0])
 (.seq (.seq (.ax [aj 7 0,⟨some 8,.Aj (.t 7),none,[7]⟩])
 (.block 0 (.loop Q0)))
 (.seq (.ax [aj 25 0,lE 26 25,aj 2 26])
 (.ret)))
theorem aaz:dJ 32 27 Tryz.f32 QZ [.t 2]:=⟨Tryz.func32,by kernel_rfl⟩
def Q1:bL:=
 .seq (.ax [ht 4 0])
 (.seq (.ax [aj 5 0,aj 6 1,iY 7 5 6 77,aj 4 7])
 (.ret))
theorem aaA:dJ 33 8 Tryz.f33 Q1 [.t 4]:=⟨Tryz.func33,by kernel_rfl⟩
def c34:bL:=
 .seq (.ax [hF 4])
 (.seq (.draw [aj 5 0,dN 6 5,jD 7 6,cF 8 7,aj 9 0,dN 10 9,fk 11 10,cF 12 11,HS 13 8 12,aj 14 1,iY 15 13 14 78,aj 4 15] [(3,[10]),(7,[10])] [10] [5,6,7,8,9,10,11,12,13,14,15,4])
 (.ret))
theorem aaB:dJ 34 16 Tryz.f34 c34 [.t 4]:=⟨Tryz.func34,by kernel_rfl⟩
def Q3:bL:=
 .block 1 (.block 2 (.seq (.draw [aj 11 0,dN 12 11,fk 13 12,cF 14 13,aj 15 0,dN 16 15,jD 17 16,cF 18 17,lE 19 18,AQ 20 14 19,aj 10 20] [] [] [])
 (.cond (.t 10)
 (.seq (.ax [aj 21 0,dN 22 21,iB 23 22,⟨none,.st 1 (.t 23) (.c (.int .i64 253)),none,[23]⟩])
 (.ret))
 (.seq (.ax [aj 25 0,⟨some 26,.call 34 [(.t 25),(.c (.str [40,42]))],none,[25]⟩,aj 24 26])
 (.cond (.t 24)
 (.seq (.ax [aj 27 2,hV 28 27 1,aj 2 28])
 (.ax [aj 29 0,dN 30 29,fk 31 30,cF 32 31,hV 33 32 2,dN 34 29,fk 35 34,⟨none,.st 1 (.t 35) (.t 33),none,[35,33]⟩]))
 (.seq (.ax [aj 37 0,⟨some 38,.call 34 [(.t 37),(.c (.str [42,41]))],none,[37]⟩,aj 36 38])
 (.cond (.t 36)
 (.seq (.ax [aj 39 2,DI 40 39 1,aj 2 40])
 (.seq (.ax [aj 41 0,dN 42 41,fk 43 42,cF 44 43,hV 45 44 2,dN 46 41,fk 47 46,⟨none,.st 1 (.t 47) (.t 45),none,[47,45]⟩])
 (.seq (.ax [aj 48 2,jV 49 48 0])
 (.cond (.t 49)
 (.ret)
 (.skip)))))
 (.ax [aj 3 0,dN 4 3,fk 5 4,cF 6 5,hV 7 6 1,dN 8 3,fk 9 8,⟨none,.st 1 (.t 9) (.t 7),none,[9,7]⟩]))))))))
def Q2:bL:=
 .seq (.ax [ht 2 0])
 (.block 0 (.loop Q3))
theorem aaC:dJ 35 50 Tryz.f35 Q2 []:=⟨Tryz.func35,by kernel_rfl⟩
def Q5:bL:=
 .seq (.ax [kM 80 79 78])
 (.seq (.cond (.t 80)
 (.skip)
 (.exit 1))
 (.seq (.block 2 (.seq (.ax [uG 81 77 79,cF 82 81,aj 5 82])
 (.seq (.ax [aj 83 0,aj 84 5,iY 85 83 84 34])
 (.cond (.t 85)
 (.seq (.ax [aj 86 0,dN 87 86,fk 88 87,cF 89 88,aj 90 5,lE 91 90,⟨some 92,.bin (.int .add) (.t 89) (.t 91),none,[89,91]⟩,dN 93 86,fk 94 93,⟨none,.st 1 (.t 94) (.t 92),none,[94,92]⟩])
 (.seq (.ax [aj 95 5,DJ 96 95 7,⟨none,.st 4 (.t 2) (.t 96),none,[2,96]⟩])
 (.ret)))
 (.skip)))))
 (.ax [hV 97 79 1,aj 79 97])))
def Q4:bL:=
 .seq (.ax [rH 2])
 (.seq (.draw [aj 6 0,dN 7 6,jD 8 7,cF 9 8,aj 10 0,dN 11 10,fk 12 11,cF 13 12,⟨some 14,.oI (.t 9) (.t 13),none,[9,13]⟩,aj 3 14] [] [] [])
 (.seq (.block 0 (.seq (.ax [aj 16 3,c8 17 16 79,aj 15 17])
 (.cond (.t 15)
 (.seq (.ax [aj 18 0,c8 19 18 80,⟨none,.st 4 (.t 2) (.t 19),none,[2,19]⟩])
 (.ret))
 (.seq (.ax [aj 21 3,DF 22 21 34,aj 20 22])
 (.cond (.t 20)
 (.seq (.ax [aj 23 0,c8 24 23 81,⟨none,.st 4 (.t 2) (.t 24),none,[2,24]⟩])
 (.ret))
 (.seq (.ax [aj 26 3,c8 27 26 82,aj 28 27,iO 29 3 28,DE 30 29 28 95,il 31 28 30,aj 25 31])
 (.cond (.t 25)
 (.seq (.ax [aj 32 0,f_ 33 32 83 3,⟨none,.st 4 (.t 2) (.t 33),none,[2,33]⟩])
 (.ret))
 (.seq (.ax [aj 35 3,c8 36 35 84,aj 34 36])
 (.cond (.t 34)
 (.seq (.ax [aj 37 0,f_ 38 37 83 4,⟨none,.st 4 (.t 2) (.t 38),none,[2,38]⟩])
 (.ret))
 (.seq (.draw [aj 40 3,DF 41 40 39,aj 42 41,fC 43 0 42,rI 44 43 42,uF 45 44 42,j8 46 45 42,⟨some 47,.bin (.int .add) (.t 46) (.c (.int .i64 1)),(some (42,true)),[46,42]⟩,fC 48 0 42,rI 49 48 42,uE 50 49 42,j8 51 50 42,DQ 52 51 42,⟨some 53,.bin (.int .lss) (.t 47) (.t 52),(some (42,true)),[47,52,42]⟩,hW 54 42 53,aj 55 54,fC 56 0 55,rI 57 56 55,uE 58 57 55,j8 59 58 55,fC 60 0 55,rI 61 60 55,uF 62 61 55,j8 63 62 55,⟨some 64,.bin (.int .add) (.t 63) (.c (.int .i64 1)),(some (55,true)),[63,55]⟩,⟨some 65,.oI (.t 59) (.t 64),(some (55,true)),[59,64,55]⟩,AT 66 65 55 82,hW 67 55 66,aj 39 67] [(6,[26]),(11,[26]),(19,[26]),(23,[26])] [26] [40,41,42,43,44,45,46,47,48,49,50,51,52,53,54,55,56,57,58,59,60,61,62,63,64,65,66,67,39])
 (.cond (.t 39)
 (.seq (.ax [aj 68 0,dN 69 68,fk 70 69,cF 71 70,hV 72 71 1,dN 73 68,fk 74 73,⟨none,.st 1 (.t 74) (.t 72),none,[74,72]⟩])
 (.seq (.ax [aj 75 0,f_ 76 75 83 5,⟨none,.st 4 (.t 2) (.t 76),none,[2,76]⟩])
 (.ret)))
 (.skip))))))))))))
 (.seq (.seq (.ax [⟨some 77,.call 85 [],none,[]⟩,iN 78 77,ht 79 0])
 (.block 1 (.loop Q5)))
 (.seq (.ax [aj 98 0,dN 99 98,iB 100 99,⟨none,.st 1 (.t 100) (.c (.int .i64 251)),none,[100]⟩])
 (.seq (.ax [HO 101,⟨none,.st 4 (.t 2) (.t 101),none,[2,101]⟩])
 (.ret))))))
theorem aaD:dJ 36 102 Tryz.f36 Q4 [.hG 2 4]:=⟨Tryz.func36,by kernel_rfl⟩
def Q':bL:=
 .seq (.ax [kM 10 9 8])
 (.seq (.cond (.t 10)
 (.skip)
 (.exit 0))
 (.seq (.block 1 (.seq (.ax [uH 11 7 9,eX 12 11,eW 5,⟨none,.st 5 (.t 5) (.t 12),none,[5,12]⟩])
 (.ax [aj 13 3,eX 14 5,c8 15 14 40,⟨some 16,.e4 [(.t 13),(.t 15)],none,[13,15]⟩,aj 3 16])))
 (.ax [hV 17 9 1,aj 9 17])))
def Q9:bL:=
 .seq (.ax [oZ 1 0,ht 2 0])
 (.seq (.ax [ht 3 0])
 (.seq (.seq (.ax [qC 6 1,cF 7 6,iN 8 7,ht 9 0])
 (.block 0 (.loop Q')))
 (.seq (.ax [aj 18 3,hV 19 18 1,aj 2 19])
 (.ret))))
theorem aaG:dJ 40 20 Tryz.f40 Q9 [.t 2]:=⟨Tryz.func40,by kernel_rfl⟩
def Rm:bL:=
 .seq (.ax [ht 4 0])
 (.seq (.ax [aj 5 0,aj 6 1,iY 7 5 6 127,aj 4 7])
 (.ret))
theorem aaR:dJ 77 8 Tryz.f77 Rm [.t 4]:=⟨Tryz.func77,by kernel_rfl⟩
def Rn:bL:=
 .seq (.ax [hF 4])
 (.seq (.ax [aj 5 0,aj 6 1,iY 7 5 6 128,aj 4 7])
 (.ret))
theorem aaS:dJ 78 8 Tryz.f78 Rn [.t 4]:=⟨Tryz.func78,by kernel_rfl⟩
def Ro:bL:=
 .seq (.ax [hF 2])
 (.seq (.ax [aj 3 0,⟨some 4,.bin (.int .geq) (.t 3) (.c (.int .u8 48)),none,[3]⟩,aj 5 4,fC 6 0 5,HJ 7 6 5 57,hW 8 5 7,aj 2 8])
 (.ret))
theorem aaT:dJ 79 9 Tryz.f79 Ro [.t 2]:=⟨Tryz.func79,by kernel_rfl⟩
def Rq:bL:=
 .seq (.ax [rH 2])
 (.seq (.ax [aj 7 0,⟨some 8,.call 130 [(.t 7),(.c (.func 79 []))],none,[7]⟩,⟨some 9,.call 129 [(.t 8),(.c (.int .i64 10)),(.c (.int .i64 64))],none,[8]⟩,aj 6 9,pC 10 6,pD 11 6,aj 3 10,aj 4 11])
 (.seq (.seq (.ax [aj 12 4,⟨some 13,.bin (.kP true 5) (.t 12) (.c .nilIface),none,[12]⟩,aj 14 13,iO 15 3 14,⟨some 16,.bin (.int .gtr) (.t 15) (.c (.int .u64 2147483647)),(some (14,false)),[15,14]⟩,il 17 14 16])
 (.cond (.t 17)
 (.seq (.ax [aj 18 0,dN 19 18,iB 20 19,⟨none,.st 1 (.t 20) (.c (.int .i64 254)),none,[20]⟩])
 (.seq (.ax [HO 21,⟨none,.st 4 (.t 2) (.t 21),none,[2,21]⟩])
 (.ret)))
 (.skip)))
 (.seq (.ax [aj 22 3,⟨some 23,.j' (.int .i64) (.t 22),none,[22]⟩,aj 5 23])
 (.seq (.seq (.ax [aj 24 5,sP 25 24 1073741823])
 (.cond (.t 25)
 (.ax [aj 26 5,DI 27 26 2147483648,aj 5 27])
 (.skip)))
 (.seq (.ax [aj 28 5,⟨some 29,.build [(.int .i64 0),(.int .i64 0),(.int .i64 0),(.str [])] [(0,1,(.c (.int .i64 1))),(1,1,(.t 28))],none,[28]⟩,⟨none,.st 4 (.t 2) (.t 29),none,[2,29]⟩])
 (.ret))))))
theorem aaU:dJ 80 30 Tryz.f80 Rq [.hG 2 4]:=⟨Tryz.func80,by kernel_rfl⟩
def Rs:bL:=
 .seq (.seq (.ax [aj 12 0,dN 13 12,iB 14 13,cF 15 14,jV 16 15 0])
 (.cond (.t 16)
 (.skip)
 (.exit 0)))
 (.block 1 (.seq (.seq (.draw [aj 17 0,dN 18 17,fk 19 18,cF 20 19,aj 21 0,dN 22 21,jD 23 22,cF 24 23,lE 25 24,AQ 26 20 25] [] [] [])
 (.cond (.t 26)
 (.seq (.ax [aj 27 0,dN 28 27,iB 29 28,⟨none,.st 1 (.t 29) (.c (.int .i64 252)),none,[29]⟩])
 (.exit 0))
 (.skip)))
 (.seq (.draw [aj 30 0,dN 31 30,jD 32 31,cF 33 32,aj 34 0,dN 35 34,fk 36 35,cF 37 36,⟨some 38,.oI (.t 33) (.t 37),none,[33,37]⟩,aj 4 38] [] [] [])
 (.block 2 (.seq (.ax [aj 51 4,DF 52 51 34,aj 50 52])
 (.cond (.t 50)
 (.seq (.ax [aj 53 0,dN 54 53,fk 55 54,cF 56 55,hV 57 56 1,dN 58 53,fk 59 58,⟨none,.st 1 (.t 59) (.t 57),none,[59,57]⟩])
 (.seq (.seq (.ax [aj 60 3,iN 61 60,sP 62 61 4096])
 (.cond (.t 62)
 (.ax [aj 63 0,dN 64 63,iB 65 64,⟨none,.st 1 (.t 65) (.c (.int .i64 255)),none,[65]⟩])
 (.skip)))
 (.seq (.ax [aj 66 3,⟨some 67,.j' .str (.t 66),none,[66]⟩,DJ 68 67 2,⟨none,.st 4 (.t 2) (.t 68),none,[2,68]⟩])
 (.ret))))
 (.seq (.ax [aj 70 4,DF 71 70 92,aj 69 71])
 (.cond (.t 69)
 (.ax [aj 72 3,aj 73 0,c8 74 73 131,⟨some 75,.kx 1 1 [(.int .u8 0)] [(0,1,(.t 74))],none,[74]⟩,⟨some 76,.app 1 (.t 72) (.t 75),none,[72,75]⟩,aj 3 76])
 (.seq (.ax [aj 78 4,⟨some 79,.bin (.int .lss) (.t 78) (.c (.int .u8 32)),none,[78]⟩,aj 80 79,iO 81 4 80,DE 82 81 80 127,il 83 80 82,aj 77 83])
 (.cond (.t 77)
 (.ax [aj 84 0,dN 85 84,iB 86 85,⟨none,.st 1 (.t 86) (.c (.int .i64 252)),none,[86]⟩])
 (.seq (.ax [aj 39 0,dN 40 39,fk 41 40,cF 42 41,hV 43 42 1,dN 44 39,fk 45 44,⟨none,.st 1 (.t 45) (.t 43),none,[45,43]⟩])
 (.ax [aj 46 3,aj 47 4,⟨some 48,.kx 1 1 [(.int .u8 0)] [(0,1,(.t 47))],none,[47]⟩,⟨some 49,.app 1 (.t 46) (.t 48),none,[46,48]⟩,aj 3 49]))))))))))))
def Rr:bL:=
 .seq (.ax [rH 2])
 (.seq (.ax [aj 5 0,dN 6 5,fk 7 6,cF 8 7,hV 9 8 1,dN 10 5,fk 11 10,⟨none,.st 1 (.t 11) (.t 9),none,[11,9]⟩])
 (.seq (.ax [oc 3])
 (.seq (.block 0 (.loop Rs))
 (.seq (.ax [HO 87,⟨none,.st 4 (.t 2) (.t 87),none,[2,87]⟩])
 (.ret)))))
theorem aaV:dJ 81 88 Tryz.f81 Rr [.hG 2 4]:=⟨Tryz.func81,by kernel_rfl⟩
def Rt:bL:=
 .seq (.ax [hF 2])
 (.seq (.ax [aj 3 0,⟨some 4,.bin (.int .geq) (.t 3) (.c (.int .u8 97)),none,[3]⟩,aj 5 4,fC 6 0 5,HJ 7 6 5 122,hW 8 5 7,aj 2 8])
 (.ret))
theorem aaW:dJ 82 9 Tryz.f82 Rt [.t 2]:=⟨Tryz.func82,by kernel_rfl⟩
def Ru:bL:=
 .seq (.ax [rH 4])
 (.seq (.ax [aj 6 0,⟨some 7,.call 130 [(.t 6),(.c (.func 132 []))],none,[6]⟩,aj 5 7])
 (.seq (.block 0 (.seq (.ax [aj 9 1,jV 10 9 3,aj 11 10,fC 12 5 11,⟨some 13,.bin (.str .eql) (.t 12) (.c (.str [95])),(some (11,true)),[12,11]⟩,hW 14 11 13,aj 8 14])
 (.cond (.t 8)
 (.seq (.ax [aj 15 5,DJ 16 15 7,⟨none,.st 4 (.t 4) (.t 16),none,[4,16]⟩])
 (.ret))
 (.seq (.ax [aj 18 1,jV 19 18 3,aj 20 19,fC 21 5 20,⟨some 22,.bin (.str .add) (.c (.str [32])) (.t 21),(some (20,true)),[21,20]⟩,⟨some 23,.bin (.str .add) (.t 22) (.c (.str [32])),(some (20,true)),[22,20]⟩,⟨some 24,.call 133 [(.c (.str [32,97,110,100,32,98,101,103,105,110,32,101,108,115,101,32,101,110,100,32,101,120,99,101,112,116,105,111,110,32,102,97,108,115,101,32,102,117,110,32,105,102,32,105,110,32,108,101,116,32,109,97,116,99,104,32,109,111,100,32,111,102,32,114,97,105,115,101,32,114,101,99,32,116,104,101,110,32,116,114,117,101,32,116,114,121,32,116,121,112,101,32,119,105,116,104,32])),(.t 23)],(some (20,true)),[23,20]⟩,hW 25 20 24,aj 17 25])
 (.cond (.t 17)
 (.seq (.ax [aj 26 5,DJ 27 26 6,⟨none,.st 4 (.t 4) (.t 27),none,[4,27]⟩])
 (.ret))
 (.seq (.ax [aj 29 5,lE 30 29,sP 31 30 64,aj 28 31])
 (.cond (.t 28)
 (.ax [aj 32 0,dN 33 32,iB 34 33,⟨none,.st 1 (.t 34) (.c (.int .i64 255)),none,[34]⟩])
 (.skip))))))))
 (.seq (.ax [aj 35 1,aj 36 5,⟨some 37,.build [(.int .i64 0),(.int .i64 0),(.int .i64 0),(.str [])] [(0,1,(.t 35)),(3,1,(.t 36))],none,[35,36]⟩,⟨none,.st 4 (.t 4) (.t 37),none,[4,37]⟩])
 (.ret))))
theorem aaX:dJ 83 38 Tryz.f83 Ru [.hG 4 4]:=⟨Tryz.func83,by kernel_rfl⟩
def Rv:bL:=
 .seq (.ax [hF 2])
 (.seq (.ax [aj 3 0,⟨some 4,.bin (.int .geq) (.t 3) (.c (.int .u8 65)),none,[3]⟩,aj 5 4,fC 6 0 5,HJ 7 6 5 90,hW 8 5 7,aj 2 8])
 (.ret))
theorem aaY:dJ 84 9 Tryz.f84 Rv [.t 2]:=⟨Tryz.func84,by kernel_rfl⟩
def Rw:bL:=
 .seq (.ax [oc 0])
 (.seq (.ax [⟨some 1,.kx 17 1 [(.str [])] [(0,1,(.c (.str [59,59]))),(1,1,(.c (.str [58,61]))),(2,1,(.c (.str [45,62]))),(3,1,(.c (.str [60,61]))),(4,1,(.c (.str [59]))),(5,1,(.c (.str [40]))),(6,1,(.c (.str [41]))),(7,1,(.c (.str [44]))),(8,1,(.c (.str [61]))),(9,1,(.c (.str [60]))),(10,1,(.c (.str [43]))),(11,1,(.c (.str [45]))),(12,1,(.c (.str [42]))),(13,1,(.c (.str [47]))),(14,1,(.c (.str [124]))),(15,1,(.c (.str [33]))),(16,1,(.c (.str [95])))],none,[]⟩,aj 0 1])
 (.ret))
theorem aaZ:dJ 85 2 Tryz.f85 Rw [.t 0]:=⟨Tryz.func85,by kernel_rfl⟩
def Qi:bL:=
 .seq (.ax [hF 4])
 (.seq (.ax [aj 5 0,lE 6 5,aj 7 1,lE 8 7,AQ 9 6 8,aj 10 9,fC 11 0 10,fC 12 1 10,DQ 13 12 10,⟨some 14,.sz (.t 11) none (some (.t 13)) none,(some (10,true)),[11,13,10]⟩,fC 15 1 10,⟨some 16,.bin (.str .eql) (.t 14) (.t 15),(some (10,true)),[14,15,10]⟩,hW 17 10 16,aj 4 17])
 (.ret))
theorem Z3:dJ 128 18 Tryz.f128 Qi [.t 4]:=⟨Tryz.func128,by kernel_rfl⟩
def Ql:bL:=
 .seq (.seq (.draw [aj 10 0,dN 11 10,fk 12 11,cF 13 12,aj 14 0,dN 15 14,jD 16 15,cF 17 16,lE 18 17,kM 19 13 18,aj 20 19,fC 21 1 20,fC 22 0 20,rI 23 22 20,uE 24 23 20,j8 25 24 20,fC 26 0 20,rI 27 26 20,uF 28 27 20,j8 29 28 20,⟨some 30,.oI (.t 25) (.t 29),(some (20,true)),[25,29,20]⟩,⟨some 31,.o7 (.t 21) [(.t 30)],(some (20,true)),[21,30,20]⟩,hW 32 20 31] [(3,[21]),(7,[21]),(15,[21]),(19,[21])] [21] [10,11,12,13,14,15,16,17,18,19,20,21,22,23,24,25,26,27,28,29,30,31,32])
 (.cond (.t 32)
 (.skip)
 (.exit 0)))
 (.block 1 (.ax [aj 33 0,dN 34 33,fk 35 34,cF 36 35,hV 37 36 1,dN 38 33,fk 39 38,⟨none,.st 1 (.t 39) (.t 37),none,[39,37]⟩]))
def Qk:bL:=
 .seq (.ax [⟨some 4,.fz (.c (.str [])),none,[]⟩])
 (.seq (.ax [aj 6 0,dN 7 6,fk 8 7,cF 9 8,aj 5 9])
 (.seq (.block 0 (.loop Ql))
 (.seq (.draw [aj 40 0,dN 41 40,jD 42 41,cF 43 42,aj 44 5,aj 45 0,dN 46 45,fk 47 46,cF 48 47,⟨some 49,.sz (.t 43) (some (.t 44)) (some (.t 48)) none,none,[43,44,48]⟩,aj 4 49] [] [] [])
 (.ret))))
theorem Z4:dJ 130 50 Tryz.f130 Qk [.t 4]:=⟨Tryz.func130,by kernel_rfl⟩
def Qm:bL:=
 .seq (.ax [⟨some 2,.fz (.c (.int .u8 0)),none,[]⟩])
 (.seq (.ax [aj 7 0,dN 8 7,fk 9 8,cF 10 9,hV 11 10 1,dN 12 7,fk 13 12,⟨none,.st 1 (.t 13) (.t 11),none,[13,11]⟩])
 (.seq (.draw [aj 14 0,dN 15 14,jD 16 15,cF 17 16,aj 18 0,dN 19 18,fk 20 19,cF 21 20,HS 22 17 21,aj 3 22] [] [] [])
 (.seq (.seq (.ax [aj 23 3,⟨some 24,.bin (.str .neq) (.t 23) (.c (.str [])),none,[23]⟩])
 (.cond (.t 24)
 (.seq (.ax [aj 25 3,⟨some 26,.oI (.t 25) (.c (.int .i64 0)),none,[25]⟩,⟨some 27,.call 33 [(.c (.str [110,116,34,92])),(.t 26)],none,[26]⟩,aj 4 27])
 (.seq (.ax [aj 28 4,sO 29 28 0])
 (.cond (.t 29)
 (.seq (.ax [aj 30 0,dN 31 30,fk 32 31,cF 33 32,hV 34 33 1,dN 35 30,fk 36 35,⟨none,.st 1 (.t 36) (.t 34),none,[36,34]⟩])
 (.seq (.ax [aj 37 4,⟨some 38,.oI (.c (.str [10,9,34,92])) (.t 37),none,[37]⟩,aj 2 38])
 (.ret)))
 (.skip))))
 (.skip)))
 (.seq (.seq (.ax [aj 39 3,lE 40 39,sO 41 40 3,aj 42 41,fC 43 3 42,HR 44 43 42 0,AT 45 44 42 79,hW 46 42 45,aj 47 46,fC 48 3 47,HR 49 48 47 1,AT 50 49 47 79,hW 51 47 50,aj 52 51,fC 53 3 52,HR 54 53 52 2,AT 55 54 52 79,hW 56 52 55])
 (.cond (.t 56)
 (.seq (.ax [aj 58 3,⟨some 59,.sz (.t 58) none (some (.c (.int .i64 3))) none,none,[58]⟩,c8 60 59 162,aj 57 60,pC 61 57,pD 62 57,aj 5 61,aj 6 62])
 (.seq (.ax [aj 63 5,HK 64 63 256])
 (.cond (.t 64)
 (.seq (.ax [aj 65 0,dN 66 65,fk 67 66,cF 68 67,hV 69 68 3,dN 70 65,fk 71 70,⟨none,.st 1 (.t 71) (.t 69),none,[71,69]⟩])
 (.seq (.ax [aj 72 5,⟨some 73,.j' (.int .u8) (.t 72),none,[72]⟩,aj 2 73])
 (.ret)))
 (.skip))))
 (.skip)))
 (.seq (.ax [aj 74 0,dN 75 74,iB 76 75,⟨none,.st 1 (.t 76) (.c (.int .i64 252)),none,[76]⟩])
 (.seq (.ax [⟨some 2,.fz (.c (.int .u8 0)),none,[]⟩])
 (.ret)))))))
theorem Z5:dJ 131 77 Tryz.f131 Qm [.t 2]:=⟨Tryz.func131,by kernel_rfl⟩
def Qn:bL:=
 .seq (.ax [hF 2])
 (.seq (.ax [aj 3 0,c8 4 3 79,aj 5 4,iO 6 0 5,⟨some 7,.call 82 [(.t 6)],(some (5,false)),[6,5]⟩,il 8 5 7,aj 9 8,iO 10 0 9,⟨some 11,.call 84 [(.t 10)],(some (9,false)),[10,9]⟩,il 12 9 11,aj 13 12,iO 14 0 13,DE 15 14 13 95,il 16 13 15,aj 17 16,iO 18 0 17,DE 19 18 17 39,il 20 17 19,aj 2 20])
 (.ret))
theorem Z6:dJ 132 21 Tryz.f132 Qn [.t 2]:=⟨Tryz.func132,by kernel_rfl⟩
def Qp:bL:=
 .seq (.ax [hF 4])
 (.seq (.ax [aj 5 0,aj 6 1,iY 7 5 6 165,sO 8 7 0,aj 4 8])
 (.ret))
theorem Z8:dJ 135 9 Tryz.f135 Qp [.t 4]:=⟨Tryz.func135,by kernel_rfl⟩
def QF:bL:=
 .seq (.ax [kM 9 8 7])
 (.seq (.cond (.t 9)
 (.skip)
 (.exit 0))
 (.seq (.block 1 (.seq (.ax [aj 10 8,aj 5 10])
 (.seq (.ax [aj 11 1,aj 12 0,aj 13 5,uG 14 12 13,cF 15 14,⟨some 16,.bin (.str .eql) (.t 11) (.t 15),none,[11,15]⟩])
 (.cond (.t 16)
 (.seq (.ax [aj 17 5,aj 4 17])
 (.ret))
 (.skip)))))
 (.ax [hV 18 8 1,aj 8 18])))
def QE:bL:=
 .seq (.ax [ht 4 0])
 (.seq (.seq (.ax [aj 6 0,iN 7 6,ht 8 0])
 (.block 0 (.loop QF)))
 (.seq (.ax [⟨some 4,.fz (.c (.int .i64 (-1))),none,[]⟩])
 (.ret)))
theorem aah:dJ 165 19 Tryz.f165 QE [.t 4]:=⟨Tryz.func165,by kernel_rfl⟩
theorem n2 {f:FuncId} {args:List V} {h:ae} {v:V} (c:e9 Tryz.prog f args h fun x ab=>x=v/\ab=h):gm Tryz.prog f args h v h:=by obtain ⟨x,ab,q,rfl,rfl⟩:=c;exact q
def o9 (c:Int):Bool:=decide (48<=c)&&decide (c<=57)
def ko (c:Int):Bool:=decide (97<=c)&&decide (c<=122)
def pW (c:Int):Bool:=decide (65<=c)&&decide (c<=90)
def xQ (c:Int):Bool:=o9 c||ko c||pW c||decide (c=95)||decide (c=39)
theorem y7 (c:Int) (h:ae):gm Tryz.prog 79 [.int .u8 c] h (.bool (o9 c)) h:=by refine n2 (aaT.z rfl (dw ?_));unfold Ro;simp +contextual only [↓ag,ak,simprocAttr];rfl
theorem Hd (c:Int) (h:ae):gm Tryz.prog 82 [.int .u8 c] h (.bool (ko c)) h:=by refine n2 (aaW.z rfl (dw ?_));unfold Rt;simp +contextual only [↓ag,ak,simprocAttr];rfl
theorem S4 (c:Int) (h:ae):gm Tryz.prog 84 [.int .u8 c] h (.bool (pW c)) h:=by refine n2 (aaY.z rfl (dw ?_));unfold Rv;simp +contextual only [↓ag,ak,simprocAttr];rfl
theorem aes (s p:List UInt8) (h:ae):gm Tryz.prog 128 [.str s,.str p] h (.bool (p.isPrefixOf s)) h:=by
 refine n2 (Z3.z rfl (dw ?_));unfold Qi;have aV:(0<=(p.length:Int))=True:=aqO (by omega);by_cases aD:p.length<=s.length
 . have U:((p.length:Int)<=(s.length:Int))=True:=aqO (by omega);simp +contextual only [aV,U,aqq,↓ag,ak,simprocAttr];rw [arc,aqy,arL,List.prefix_iff_eq_take];exact ⟨fun e=>e.symm,fun e=>e.symm⟩
 . have U:((p.length:Int)<=(s.length:Int))=False:=aqx (by omega);simp +contextual only [aV,U,aqq,↓ag,ak,simprocAttr];rw [eq_comm,<-Bool.not_eq_true,arL];exact fun e=>aD e.length_le
theorem aer (s p:List UInt8) (h:ae):gm Tryz.prog 78 [.str s,.str p] h (.bool (p.isPrefixOf s)) h:=by refine n2 (aaS.z rfl (dw ?_));unfold Rn;simp +contextual only [↓ag,ak,simprocAttr];refine eo (aes s p h) ?_;simp +contextual only [↓ag,ak,simprocAttr]
theorem ai4 (c:Int) (h:ae):gm Tryz.prog 132 [.int .u8 c] h (.bool (xQ c)) h:=by refine n2 (Z6.z rfl (dw ?_));unfold Qn;simp +contextual only [↓ag,ak,simprocAttr];refine eo (y7 c h) ?_;simp +contextual only [↓ag,ak,simprocAttr];refine BH (.bool (ko c)) (fun aq=>by simp only [aq,↓ag,ak,simprocAttr];exact Hd _ _) ?_;simp +contextual only [↓ag,ak,simprocAttr];refine BH (.bool (pW c)) (fun aq=>by simp only [aq,↓ag,ak,simprocAttr];exact S4 _ _) ?_;simp +contextual only [↓ag,ak,simprocAttr];rfl
theorem J7 (s p:List UInt8) (at':Int) (rest:List V) (b:aN) (c':Nat) (st:Bool) (h:ae) (ah:h.get b=.bz (.str s::.int .i64 at'::rest) c' st) (aV:0<=at') (U:at'<=s.length):
 gm Tryz.prog 34 [.ptr b 0,.str p] h (.bool (p.isPrefixOf (s.drop at'.toNat))) h:=by
 refine n2 (aaB.z rfl (dw ?_));unfold c34;have f0:(0<=at')=True:=aqO aV;have f1:(at'<=(s.length:Int))=True:=aqO U;simp +contextual only [ah,f0,f1,↓ag,ak,simprocAttr];refine eo (aer _ p h) ?_;simp +contextual only [ah,f0,f1,↓ag,ak,simprocAttr]
def h4:List UInt8->Int->Option Nat
 | [],_=>none
 | [_],_=>none
 | x::y::r,d=>if x=40/\y=42 then (h4 r (d+1)).map (· +2) else if x=42/\y=41 then (if d-1=0 then some 2 else (h4 r (d-1)).map (· +2)) else (h4 (y::r) d).map (· +1)
theorem aj7 (r:List UInt8) (d:Int) (h:r≠[]):h4 r d=if ([40,42]:List UInt8).isPrefixOf r=true then (h4 (r.drop 2) (d+1)).map (· +2) else
 if ([42,41]:List UInt8).isPrefixOf r=true then (if d-1=0 then some 2 else (h4 (r.drop 2) (d-1)).map (· +2)) else (h4 (r.drop 1) d).map (· +1):=by
 match r,h with
 | [x],_=>simp [h4,List.isPrefixOf]
 | x::y::r,_=>
   have aM:(([40,42]:List UInt8).isPrefixOf (x::y::r)=true)=(x=40/\y=42):=by simp only [List.isPrefixOf,arz,aqi,arO];exact propext ⟨fun q=>⟨q.1.symm,q.2.symm⟩,fun q=>⟨q.1.symm,q.2.symm⟩⟩
   have bh:(([42,41]:List UInt8).isPrefixOf (x::y::r)=true)=(x=42/\y=41):=by simp only [List.isPrefixOf,arz,aqi,arO];exact propext ⟨fun q=>⟨q.1.symm,q.2.symm⟩,fun q=>⟨q.1.symm,q.2.symm⟩⟩
   rw [h4];simp only [aM,bh,asb,arp]
theorem VT {a b:UInt8} {r:List UInt8} (h:([a,b]:List UInt8).isPrefixOf r=true):2<=r.length:=by rw [arL] at h;simpa using h.length_le
def gq (s:List UInt8) (at' e:Int):cz:=.bz [.str s,.int .i64 at',.int .i64 e] 0 false
theorem aj8 (s:List UInt8) (a0:Nat) (ef:Int) (b:aN) (h:ae) (ah:h.get b=gq s a0 ef) (aV:a0<=s.length) (az:s.length<=100000) (ib:Old h b):
 e9 Tryz.prog 35 [.ptr b 0] h fun x ab=>x=.tuple []/\Mod (fun x=>x=b) h ab/\(match h4 (s.drop a0) 0 with
  | some n=>ab.get b=gq s ((a0+n:Nat):Int) ef/\a0+n<=s.length
  | none=>ab.get b=gq s (s.length:Int) 253):=by
 refine aaC.z rfl (dw ?_);unfold Q2;unfold gq at ah ⊢;simp only [ah,↓ag,ak,simprocAttr]
 refine iV (fun r ab=>∃(a:Nat) (d:Int),a0<=a/\a<=s.length/\r 0=.ptr b 0/\r 2=.int .i64 d/\ab.get b=.bz [.str s,.int .i64 a,.int .i64 ef] 0 false/\Mod (fun x=>x=b) h ab/\-(a:Int)<=d/\d<=a/\
  h4 (s.drop a0) 0=(h4 (s.drop a) d).map (· + (a-a0))) (fun r ab=>s.length - ((gW (ab.get b) 1).getD .bad).toN) ?_ ?_
 . refine ⟨a0,0,aqh _,aV,?_⟩;simp only [↓ag,ak,simprocAttr];refine ⟨ah,Mod.refl _ _,by omega,by omega,?_⟩;rw [ar7];cases h4 (s.drop a0) 0<;>rfl
 . rintro r ab ⟨a,d,dE,c1,bZ,b5,aJ,hm,d0,d1,bT⟩;unfold Q3;by_cases gx:(s.length:Int)<=(a:Int)
   . have a_:a=s.length:=by omega
     have aL:h4 (s.drop a) d=none:=by rw [a_,asa];rfl
     rw [aL] at bT;simp only [bZ,b5,aJ,gx,↓ag,ak,simprocAttr];rw [bT];refine ⟨hm.set (fun _=>rfl) _,?_⟩;simp only [a_,Option.map_none,fG,aqu]
   . have dK:s.drop a≠[]:=by
      intro q;rw [List.drop_eq_nil_iff] at q;omega
     have B8:∀p,gm Tryz.prog 34 [.ptr b 0,.str p] ab (.bool (p.isPrefixOf (s.drop a))) ab:=fun p=>by have:=J7 s p (a:Int) [.int .i64 ef] b 0 false ab aJ (by omega) (by omega);simpa using this
     have jd:=aj7 (s.drop a) d dK;simp only [bZ,b5,aJ,gx,↓ag,ak,simprocAttr];refine eo (B8 _) ?_;cases js:([40,42]:List UInt8).isPrefixOf (s.drop a) with
     | true=>
       have ad:=VT js;rw [aqU] at ad;rw [js,aqw rfl] at jd;have b0:IntKind.i64.wrap (d+1)=d+1:=wrap_i64 (by omega) (by omega);have bn:IntKind.i64.wrap ((a:Int)+2)=((a+2:Nat):Int):=by rw [wrap_i64 (by omega) (by omega)];rfl
       simp only [bZ,b5,aJ,b0,bn,↓ag,ak,simprocAttr];refine ⟨⟨a+2,d+1,by omega,by omega,rfl,rfl,hm.set (fun _=>rfl) _,by omega,by omega,?_⟩,by omega⟩;rw [bT,jd,ar3,asl];congr 1;funext q;simp only [Function.comp];omega
     | false=>
       rw [js,aqr (by decide)] at jd;simp only [bZ,b5,aJ,↓ag,ak,simprocAttr];refine eo (B8 _) ?_;cases iF:([42,41]:List UInt8).isPrefixOf (s.drop a) with
       | true=>
         have ad:=VT iF;rw [aqU] at ad;rw [iF,aqw rfl] at jd;have b0:IntKind.i64.wrap (d-1)=d-1:=wrap_i64 (by omega) (by omega);have bn:IntKind.i64.wrap ((a:Int)+2)=((a+2:Nat):Int):=by rw [wrap_i64 (by omega) (by omega)];rfl
         by_cases aY:d-1=0
         . rw [aqw aY] at jd;obtain rfl:d=1:=by omega
           have al:IntKind.i64.wrap 0=0:=rfl;simp only [bZ,b5,aJ,al,bn,↓ag,ak,simprocAttr];rw [bT,jd];refine ⟨hm.set (fun _=>rfl) _,?_⟩;simp only [arj,fG,aqu];refine ⟨?_,by omega⟩;rw [show a0 + (2 + (a-a0))=a+2 from by omega]
         . rw [aqr aY] at jd;simp only [bZ,b5,aJ,b0,bn,aY,↓ag,ak,simprocAttr];refine ⟨⟨a+2,d-1,by omega,by omega,rfl,rfl,hm.set (fun _=>rfl) _,by omega,by omega,?_⟩,by omega⟩;rw [bT,jd,ar3,asl];congr 1;funext q;simp only [Function.comp];omega
       | false=>
         rw [iF,aqr (by decide)] at jd;have bn:IntKind.i64.wrap ((a:Int)+1)=((a+1:Nat):Int):=by rw [wrap_i64 (by omega) (by omega)];rfl
         simp only [bZ,b5,aJ,bn,↓ag,ak,simprocAttr];refine ⟨⟨a+1,d,by omega,by omega,rfl,rfl,hm.set (fun _=>rfl) _,by omega,by omega,?_⟩,by omega⟩;rw [bT,jd,ar3,asl];congr 1;funext q;simp only [Function.comp];omega
theorem drop_cons {s:List UInt8} {a:Nat} (h:a<s.length):s.drop a=s[a]::s.drop (a+1):=aq0 h
theorem W2 (p:UInt8->Bool):∀l:List UInt8,(l.takeWhile p).length<=l.length
 | []=>by simp
 | x::l=>by
   simp only [arF]
   split
   . simpa using W2 p l
   . simp
theorem Wq (s:List UInt8) (a0:Nat) (ef:Int) (b:aN) (g:FuncId) (p:Int->Bool) (h:ae) (ah:h.get b=gq s a0 ef) (aV:a0<=s.length) (az:s.length<=100000) (bg:(g=4294967296)=False)
 (ai:∀c h,gm Tryz.prog g [.int .u8 c] h (.bool (p c)) h):
 e9 Tryz.prog 130 [.ptr b 0,.func g []] h fun x ab=>x=.str ((s.drop a0).takeWhile fun c=>p c.toNat)/\Mod (fun x=>x=b) h ab/\ab.get b=gq s ((a0 + ((s.drop a0).takeWhile fun c=>p c.toNat).length:Nat):Int) ef:=by
 refine Z4.z rfl (dw ?_);unfold Qk;unfold gq at ah ⊢;simp only [ah,↓ag,ak,simprocAttr]
 refine iV (fun r ab=>∃(a:Nat),a0<=a/\a<=s.length/\r 0=.ptr b 0/\r 1=.func g []/\r 5=.int .i64 a0/\ab.get b=.bz [.str s,.int .i64 a,.int .i64 ef] 0 false/\Mod (fun x=>x=b) h ab/\
  ((s.drop a0).takeWhile fun c=>p c.toNat)=(s.drop a0).take (a-a0)++((s.drop a).takeWhile fun c=>p c.toNat)) (fun r ab=>s.length - ((gW (ab.get b) 1).getD .bad).toN) ?_ ?_
 . refine ⟨a0,aqh _,aV,?_⟩;simp only [↓ag,ak,simprocAttr];refine ⟨ah,Mod.refl _ _,?_⟩;rw [ar7];rfl
 . rintro r ab ⟨a,dE,c1,bZ,ca,cK,aJ,hm,bT⟩;unfold Ql;have fin:((s.drop a).takeWhile fun c=>p c.toNat)=[]->V.str (((s.drop a0).take (a-a0)))=V.str ((s.drop a0).takeWhile fun c=>p c.toNat)/\Mod (fun x=>x=b) h ab/\cz.bz [V.str s,V.int .i64 a,V.int .i64 ef] 0 false=cz.bz [V.str s,V.int .i64 ((a0 + ((s.drop a0).takeWhile fun c=>p c.toNat).length:Nat):Int),V.int .i64 ef] 0 false:=by
    intro q;rw [q,aqI] at bT;rw [bT,ard,aqU];refine ⟨rfl,hm,?_⟩;rw [show a0+min (a-a0) (s.length-a0)=a from by omega]
   have f0:(0<=(a0:Int))=True:=aqO (by omega);have f1:((a0:Int)<=(a:Int))=True:=aqO (by omega);have f2:((a:Int)<=(s.length:Int))=True:=aqO (by omega);have f3:(0<=(a:Int))=True:=aqO (by omega);by_cases gx:(a:Int) < (s.length:Int)
   . have a':a<s.length:=by omega
     rw [drop_cons a',arF] at bT fin;simp only [bg,aqs,bZ,ca,cK,aJ,gx,f0,f1,f2,f3,aqm a',aqq,↓ag,ak,simprocAttr];refine eo (ai _ _) ?_;cases q8:p ((s[a]).toNat:Int) with
     | true=>
       rw [q8] at bT;have bn:IntKind.i64.wrap ((a:Int)+1)=((a+1:Nat):Int):=by rw [wrap_i64 (by omega) (by omega)];rfl
       simp only [q8,bZ,ca,cK,aJ,gx,f0,f1,f2,f3,bn,aqm a',aqq,↓ag,ak,simprocAttr];refine ⟨⟨a+1,by omega,by omega,rfl,hm.set (fun _=>rfl) _,?_⟩,by omega⟩;rw [bT,aqw rfl];have KI:a-a0 < (s.drop a0).length:=by rw [aqU];omega
       rw [show a+1-a0=a-a0+1 from by omega,<-List.take_append_getElem KI,aq7];congr 1;rw [List.getElem_drop];simp only [show a0 + (a-a0)=a from by omega];rfl
     | false=>
       rw [q8] at fin;simp only [q8,bZ,ca,cK,aJ,gx,f0,f1,f2,f3,aqm a',aqq,↓ag,ak,simprocAttr];exact fin rfl
   . have a_:a=s.length:=by omega
     simp only [bg,aqs,bZ,ca,cK,aJ,gx,f0,f1,f2,f3,aqq,↓ag,ak,simprocAttr];refine fin ?_;rw [a_,asa];rfl
end
end Go.Proofs.YtahfljfikfkpnaaGreatDoor
